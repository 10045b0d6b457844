/-
  The machine's settings over this seat's program: how functions are called, what loops forget. Printed by program.
-/
import Derived.Test.YtlachkeneeflaacGreatProg
import Derived.Test.YtlachkeneeflaacGreatMd
import Derived.KernelRfl
section
namespace Go.Proofs.YtlachkeneeflaacGreat
open Go Go.Sim
def modeT (f : Nat) : Sim.Mode :=
  match f with
  | _ => .pure
def hintT (f r : Nat) : List Hint :=
  match f, r with
  | 3, 9 => [.forget 6, .forget 15, .forget 16, .forget 17, .forget 45, .forget 46, .forget 47, .forget 48, .forget 49, .forget 50, .forget 51, .forget 52, .forget 53, .forget 54, .forget 55, .forget 56, .forget 57, .forget 58, .forget 59, .forget 60, .forget 61, .forget 62, .forget 63, .forget 64, .forget 65, .forget 66, .forget 67, .forget 68, .forget 69, .forget 70, .forget 71, .forget 72, .forget 73, .forget 74, .forget 75, .forget 76, .forget 77, .forget 78, .forget 79, .forget 80, .forget 81, .forget 82, .forget 83, .forget 84, .forget 85, .forget 86, .forget 87, .forget 88, .forget 89, .forget 90, .forget 91, .forget 92, .forget 93, .forget 94, .forget 95, .forget 96, .forget 97, .forget 98, .forget 99, .forget 100, .forget 101, .forget 102, .forget 103, .forget 104, .forget 105, .forget 106, .forget 107, .forget 108, .forget 109]
  | 5, 7 => [.promoteBox 8 6 4, .forget 11, .forget 12, .forget 13, .forget 37, .forget 38, .forget 39, .forget 40, .forget 41, .forget 42, .forget 43, .forget 44, .forget 45, .forget 46, .forget 47, .forget 48, .forget 49, .forget 50, .forget 51, .forget 52, .forget 53, .forget 54, .forget 55, .forget 56, .forget 57, .forget 58, .forget 59, .forget 60, .forget 61, .forget 62, .forget 63, .forget 64, .forget 65, .forget 66, .forget 67, .forget 68, .forget 69, .forget 70, .forget 71, .forget 72, .forget 73, .forget 74, .forget 75, .forget 76, .forget 77, .forget 78, .forget 79, .forget 80, .forget 81, .forget 82, .forget 83, .forget 84, .forget 85, .forget 86, .forget 87, .forget 88, .forget 89, .forget 90, .forget 91, .forget 92, .forget 93, .forget 94, .forget 95, .forget 96, .forget 97, .forget 98, .forget 99, .forget 100, .forget 101, .forget 102]
  | 8, 8 => [.promoteBox 61 2 3, .forget 7, .forget 8, .forget 28, .forget 29, .forget 30, .forget 31, .forget 32, .forget 33, .forget 34, .forget 35, .forget 36, .forget 37, .forget 38, .forget 39, .forget 40, .forget 41, .forget 42, .forget 43, .forget 44, .forget 45, .forget 46, .forget 47, .forget 48, .forget 49, .forget 50, .forget 51, .forget 52, .forget 53, .forget 54, .forget 55, .forget 56, .forget 57, .forget 58, .forget 59, .forget 60, .forget 61, .forget 62, .forget 63, .forget 64, .forget 65, .forget 66, .forget 67, .forget 68, .forget 69, .forget 70, .forget 71, .forget 72, .forget 73, .forget 74, .forget 75, .forget 76, .forget 77, .forget 78, .forget 79, .forget 80, .forget 81, .forget 82, .forget 83, .forget 84, .forget 85, .forget 86, .forget 87, .forget 88, .forget 89, .forget 90]
  | 9, 8 => [.promoteBox 61 1 3, .promoteBox 73 3 4, .forget 7, .forget 8, .forget 28, .forget 29, .forget 30, .forget 31, .forget 32, .forget 33, .forget 34, .forget 35, .forget 36, .forget 37, .forget 38, .forget 39, .forget 40, .forget 41, .forget 42, .forget 43, .forget 44, .forget 45, .forget 46, .forget 47, .forget 48, .forget 49, .forget 50, .forget 51, .forget 52, .forget 53, .forget 54, .forget 55, .forget 56, .forget 57, .forget 58, .forget 59, .forget 60, .forget 61, .forget 62, .forget 63, .forget 64, .forget 65, .forget 66, .forget 67, .forget 68, .forget 69, .forget 70, .forget 71, .forget 72, .forget 73, .forget 74, .forget 75, .forget 76, .forget 77, .forget 78, .forget 79, .forget 80, .forget 81, .forget 82]
  | 17, 3 => [.promote 3 4, .forget 5, .forget 9, .forget 10, .forget 11, .forget 12, .forget 13, .forget 14, .forget 15, .forget 16, .forget 17, .forget 18, .forget 19, .forget 20]
  | 18, 4 => [.forget 4, .forget 11, .forget 12, .forget 13, .forget 14, .forget 15, .forget 16, .forget 17, .forget 18, .forget 19, .forget 20, .forget 21, .forget 22, .forget 23, .forget 24, .forget 25, .forget 26]
  | 21, 4 => [.forget 4, .forget 11, .forget 12, .forget 13, .forget 14, .forget 15, .forget 16, .forget 17, .forget 18, .forget 19, .forget 20, .forget 21, .forget 22, .forget 23, .forget 24, .forget 25]
  | 22, 4 => [.forget 4, .forget 11, .forget 12, .forget 13, .forget 14, .forget 15, .forget 16, .forget 17, .forget 18, .forget 19, .forget 20, .forget 21, .forget 22, .forget 23, .forget 24, .forget 25]
  | 24, 5 => [.forget 2, .forget 3, .forget 6, .forget 7, .forget 8, .forget 18, .forget 19, .forget 20, .forget 21, .forget 22, .forget 23, .forget 24, .forget 25, .forget 26, .forget 27, .forget 28, .forget 29, .forget 30, .forget 31, .forget 32, .forget 33, .forget 34, .forget 35, .forget 36, .forget 37, .forget 38, .forget 39, .forget 40, .forget 41, .forget 42, .forget 43, .forget 44, .forget 45, .forget 46, .forget 47, .forget 48, .forget 49, .forget 50, .forget 51, .forget 52, .forget 53, .forget 54, .forget 55]
  | 26, 3 => [.forget 2, .forget 5, .forget 6, .forget 7, .forget 8, .forget 9, .forget 10, .forget 11, .forget 12, .forget 13, .forget 14, .forget 15, .forget 16, .forget 17, .forget 18, .forget 19, .forget 20, .forget 21, .forget 22, .forget 23, .forget 24, .forget 25]
  | 29, 5 => [.promote 6 2, .promoteBox 8 1 1, .forget 8, .forget 14, .forget 15, .forget 16, .forget 17, .forget 18, .forget 19, .forget 20, .forget 21, .forget 22, .forget 23, .forget 24, .forget 25, .forget 26, .forget 27, .forget 28, .forget 29, .forget 30, .forget 31, .forget 32, .forget 33, .forget 34, .forget 35, .forget 36, .forget 37, .forget 38, .forget 39, .forget 40, .forget 41, .forget 42, .forget 43, .forget 44, .forget 45, .forget 46, .forget 47, .forget 48, .forget 49, .forget 50, .forget 51, .forget 52, .forget 53, .forget 54, .forget 55, .forget 56, .forget 57, .forget 58, .forget 59, .forget 60, .forget 61, .forget 62, .forget 63]
  | 29, 9 => [.promote 6 2, .promoteBox 8 1 1, .forget 32, .forget 33, .forget 34, .forget 35, .forget 36, .forget 37, .forget 38, .forget 39, .forget 40, .forget 41, .forget 42, .forget 43, .forget 44, .forget 45, .forget 46, .forget 47, .forget 48, .forget 49, .forget 50, .forget 51, .forget 52, .forget 53, .forget 54, .forget 55, .forget 56, .forget 57, .forget 58, .forget 59]
  | 63, 3 => [.forget 4, .forget 5, .forget 8, .forget 9, .forget 16, .forget 17, .forget 18, .forget 19, .forget 20, .forget 21, .forget 22, .forget 23, .forget 24, .forget 25, .forget 26, .forget 27, .forget 28, .forget 29, .forget 30, .forget 31, .forget 32, .forget 33, .forget 34, .forget 35, .forget 36, .forget 37, .forget 38, .forget 39, .forget 40, .forget 41, .forget 42, .forget 43, .forget 44, .forget 45, .forget 46]
  | 63, 12 => [.forget 12, .forget 52, .forget 53, .forget 54, .forget 55, .forget 56, .forget 57, .forget 58, .forget 59, .forget 60, .forget 61, .forget 62]
  | 94, 7 => [.promote 13 1, .forget 14, .forget 32, .forget 33, .forget 34, .forget 35, .forget 36, .forget 37, .forget 38, .forget 39, .forget 40, .forget 41, .forget 42, .forget 43, .forget 44, .forget 45]
  | 96, 7 => [.forget 6, .forget 8, .forget 9, .forget 25, .forget 26, .forget 27, .forget 28, .forget 29, .forget 30, .forget 31, .forget 32, .forget 33, .forget 34, .forget 35, .forget 36, .forget 37]
  | 109, 1 => [.promoteBox 0 2 2, .forget 10, .forget 11, .forget 14, .forget 15, .forget 16, .forget 17, .forget 18, .forget 19, .forget 20, .forget 21, .forget 22, .forget 23, .forget 24, .forget 25, .forget 26, .forget 27, .forget 28, .forget 29, .forget 30, .forget 31, .forget 32, .forget 33, .forget 34, .forget 35, .forget 36, .forget 37, .forget 38, .forget 39, .forget 40, .forget 41, .forget 42, .forget 43, .forget 44, .forget 45, .forget 46, .forget 47, .forget 48, .forget 49, .forget 50]
  | 114, 2 => [.forget 4, .forget 5, .forget 6, .forget 7, .forget 8, .forget 9, .forget 10, .forget 11, .forget 12, .forget 13, .forget 14, .forget 15, .forget 16, .forget 17]
  | 116, 4 => [.forget 2, .forget 4, .forget 13, .forget 14, .forget 15, .forget 16, .forget 17, .forget 18, .forget 19, .forget 20]
  | 132, 3 => [.forget 9, .forget 13, .forget 14, .forget 15, .forget 16, .forget 17, .forget 18, .forget 19, .forget 20, .forget 21, .forget 22, .forget 23, .forget 24, .forget 25, .forget 26, .forget 27, .forget 28, .forget 29, .forget 30]
  | 154, 12 => [.forget 11, .forget 12, .forget 43, .forget 44, .forget 45, .forget 46, .forget 47, .forget 48, .forget 49, .forget 50, .forget 51, .forget 52, .forget 53, .forget 54, .forget 55, .forget 56, .forget 57, .forget 58, .forget 59, .forget 60, .forget 61]
  | 167, 1 => [.forget 2, .forget 3, .forget 5, .forget 6, .forget 7, .forget 8, .forget 9, .forget 10, .forget 11, .forget 12, .forget 13, .forget 14, .forget 15, .forget 16, .forget 17, .forget 18, .forget 19, .forget 20, .forget 21, .forget 22, .forget 23, .forget 24, .forget 25, .forget 26, .forget 27, .forget 28, .forget 29]
  | 169, 2 => [.forget 4, .forget 5, .forget 9, .forget 10, .forget 11, .forget 12, .forget 13, .forget 14, .forget 15, .forget 16, .forget 17, .forget 18]
  | _, _ => []
def knownT (f : Nat) : Option (List V → Heap → Option (V × Heap)) :=
  match f with
  | 31 => some (cloneW 1) -- clone 23 22 4
  | 64 => some (cloneW 2) -- clone 88 137 8
  | 65 => some (cloneW 1) -- clone 62 5 1
  | 66 => some (cloneW 2) -- clone 89 141 24
  | 89 => some (cloneW 1) -- clone 62 5 1
  | _ => none
noncomputable def E : Env := { P := Tryz.prog, mode := modeT, hint := hintT, known := knownT, eqTypes := [57], fns := fun f => Nat.blt f 176 }
@[simp] theorem E_P : E.P = Tryz.prog := rfl
@[simp] theorem agg_0 : isAggV Tryz.prog 0 = some false := by kernel_rfl
@[simp] theorem size_0 : sizeV Tryz.prog 0 = some 1 := by kernel_rfl
@[simp] theorem bytes_0 : bytesV Tryz.prog 0 = some 0 := by kernel_rfl
attribute [simp] Tryz.underlying0
@[simp] theorem agg_1 : isAggV Tryz.prog 1 = some false := by kernel_rfl
@[simp] theorem size_1 : sizeV Tryz.prog 1 = some 1 := by kernel_rfl
@[simp] theorem bytes_1 : bytesV Tryz.prog 1 = some 8 := by kernel_rfl
attribute [simp] Tryz.underlying1
@[simp] theorem agg_2 : isAggV Tryz.prog 2 = some false := by kernel_rfl
@[simp] theorem size_2 : sizeV Tryz.prog 2 = some 1 := by kernel_rfl
@[simp] theorem bytes_2 : bytesV Tryz.prog 2 = some 8 := by kernel_rfl
@[simp] theorem zero_2 : zeroV Tryz.prog 2 = some (.int .i64 0) := by kernel_rfl
attribute [simp] Tryz.underlying2
@[simp] theorem agg_3 : isAggV Tryz.prog 3 = some false := by kernel_rfl
@[simp] theorem size_3 : sizeV Tryz.prog 3 = some 1 := by kernel_rfl
@[simp] theorem bytes_3 : bytesV Tryz.prog 3 = some 8 := by kernel_rfl
@[simp] theorem zero_3 : zeroV Tryz.prog 3 = some (.int .i64 0) := by kernel_rfl
attribute [simp] Tryz.underlying3
@[simp] theorem agg_4 : isAggV Tryz.prog 4 = some false := by kernel_rfl
@[simp] theorem size_4 : sizeV Tryz.prog 4 = some 1 := by kernel_rfl
@[simp] theorem bytes_4 : bytesV Tryz.prog 4 = some 1 := by kernel_rfl
@[simp] theorem zero_4 : zeroV Tryz.prog 4 = some (.bool false) := by kernel_rfl
attribute [simp] Tryz.underlying4
@[simp] theorem agg_5 : isAggV Tryz.prog 5 = some false := by kernel_rfl
@[simp] theorem size_5 : sizeV Tryz.prog 5 = some 1 := by kernel_rfl
@[simp] theorem bytes_5 : bytesV Tryz.prog 5 = some 1 := by kernel_rfl
@[simp] theorem zero_5 : zeroV Tryz.prog 5 = some (.int .u8 0) := by kernel_rfl
attribute [simp] Tryz.underlying5
@[simp] theorem agg_6 : isAggV Tryz.prog 6 = some false := by kernel_rfl
@[simp] theorem size_6 : sizeV Tryz.prog 6 = some 1 := by kernel_rfl
@[simp] theorem bytes_6 : bytesV Tryz.prog 6 = some 1 := by kernel_rfl
@[simp] theorem zero_6 : zeroV Tryz.prog 6 = some (.int .u8 0) := by kernel_rfl
attribute [simp] Tryz.underlying6
@[simp] theorem agg_7 : isAggV Tryz.prog 7 = some true := by kernel_rfl
@[simp] theorem size_7 : sizeV Tryz.prog 7 = some 4 := by kernel_rfl
@[simp] theorem bytes_7 : bytesV Tryz.prog 7 = some 24 := by kernel_rfl
@[simp] theorem zero_7 : zeroV Tryz.prog 7 = some (.agg [.int .i64 0, .int .i64 0, .bool false, .int .u8 0]) := by kernel_rfl
attribute [simp] Tryz.underlying7
@[simp] theorem agg_8 : isAggV Tryz.prog 8 = some true := by kernel_rfl
@[simp] theorem size_8 : sizeV Tryz.prog 8 = some 4 := by kernel_rfl
@[simp] theorem bytes_8 : bytesV Tryz.prog 8 = some 24 := by kernel_rfl
@[simp] theorem zero_8 : zeroV Tryz.prog 8 = some (.agg [.int .i64 0, .int .i64 0, .bool false, .int .u8 0]) := by kernel_rfl
attribute [simp] Tryz.underlying8
@[simp] theorem agg_9 : isAggV Tryz.prog 9 = some false := by kernel_rfl
@[simp] theorem size_9 : sizeV Tryz.prog 9 = some 1 := by kernel_rfl
@[simp] theorem bytes_9 : bytesV Tryz.prog 9 = some 16 := by kernel_rfl
@[simp] theorem zero_9 : zeroV Tryz.prog 9 = some (.str []) := by kernel_rfl
attribute [simp] Tryz.underlying9
@[simp] theorem agg_10 : isAggV Tryz.prog 10 = some false := by kernel_rfl
@[simp] theorem size_10 : sizeV Tryz.prog 10 = some 1 := by kernel_rfl
@[simp] theorem bytes_10 : bytesV Tryz.prog 10 = some 16 := by kernel_rfl
@[simp] theorem zero_10 : zeroV Tryz.prog 10 = some (.str []) := by kernel_rfl
attribute [simp] Tryz.underlying10
@[simp] theorem agg_11 : isAggV Tryz.prog 11 = some false := by kernel_rfl
@[simp] theorem size_11 : sizeV Tryz.prog 11 = some 1 := by kernel_rfl
@[simp] theorem bytes_11 : bytesV Tryz.prog 11 = some 16 := by kernel_rfl
@[simp] theorem zero_11 : zeroV Tryz.prog 11 = some (.str []) := by kernel_rfl
attribute [simp] Tryz.underlying11
@[simp] theorem agg_12 : isAggV Tryz.prog 12 = some false := by kernel_rfl
@[simp] theorem size_12 : sizeV Tryz.prog 12 = some 1 := by kernel_rfl
@[simp] theorem bytes_12 : bytesV Tryz.prog 12 = some 8 := by kernel_rfl
@[simp] theorem zero_12 : zeroV Tryz.prog 12 = some (.int .u64 0) := by kernel_rfl
attribute [simp] Tryz.underlying12
@[simp] theorem agg_13 : isAggV Tryz.prog 13 = some true := by kernel_rfl
@[simp] theorem size_13 : sizeV Tryz.prog 13 = some 2 := by kernel_rfl
@[simp] theorem bytes_13 : bytesV Tryz.prog 13 = some 24 := by kernel_rfl
@[simp] theorem zero_13 : zeroV Tryz.prog 13 = some (.agg [.str [], .int .u64 0]) := by kernel_rfl
attribute [simp] Tryz.underlying13
@[simp] theorem agg_14 : isAggV Tryz.prog 14 = some true := by kernel_rfl
@[simp] theorem size_14 : sizeV Tryz.prog 14 = some 2 := by kernel_rfl
@[simp] theorem bytes_14 : bytesV Tryz.prog 14 = some 24 := by kernel_rfl
@[simp] theorem zero_14 : zeroV Tryz.prog 14 = some (.agg [.str [], .int .u64 0]) := by kernel_rfl
attribute [simp] Tryz.underlying14
@[simp] theorem agg_15 : isAggV Tryz.prog 15 = some false := by kernel_rfl
@[simp] theorem size_15 : sizeV Tryz.prog 15 = some 1 := by kernel_rfl
@[simp] theorem bytes_15 : bytesV Tryz.prog 15 = some 8 := by kernel_rfl
@[simp] theorem zero_15 : zeroV Tryz.prog 15 = some (.nilptr) := by kernel_rfl
attribute [simp] Tryz.underlying15
@[simp] theorem agg_16 : isAggV Tryz.prog 16 = some false := by kernel_rfl
@[simp] theorem size_16 : sizeV Tryz.prog 16 = some 1 := by kernel_rfl
@[simp] theorem bytes_16 : bytesV Tryz.prog 16 = some 8 := by kernel_rfl
@[simp] theorem zero_16 : zeroV Tryz.prog 16 = some (.nilptr) := by kernel_rfl
attribute [simp] Tryz.underlying16
@[simp] theorem agg_17 : isAggV Tryz.prog 17 = some false := by kernel_rfl
@[simp] theorem size_17 : sizeV Tryz.prog 17 = some 1 := by kernel_rfl
@[simp] theorem bytes_17 : bytesV Tryz.prog 17 = some 8 := by kernel_rfl
@[simp] theorem zero_17 : zeroV Tryz.prog 17 = some (.nilptr) := by kernel_rfl
attribute [simp] Tryz.underlying17
@[simp] theorem agg_18 : isAggV Tryz.prog 18 = some true := by kernel_rfl
@[simp] theorem size_18 : sizeV Tryz.prog 18 = some 1 := by kernel_rfl
@[simp] theorem bytes_18 : bytesV Tryz.prog 18 = some 8 := by kernel_rfl
@[simp] theorem zero_18 : zeroV Tryz.prog 18 = some (.agg [.nilptr]) := by kernel_rfl
attribute [simp] Tryz.underlying18
@[simp] theorem agg_19 : isAggV Tryz.prog 19 = some true := by kernel_rfl
@[simp] theorem size_19 : sizeV Tryz.prog 19 = some 1 := by kernel_rfl
@[simp] theorem bytes_19 : bytesV Tryz.prog 19 = some 8 := by kernel_rfl
@[simp] theorem zero_19 : zeroV Tryz.prog 19 = some (.agg [.nilptr]) := by kernel_rfl
attribute [simp] Tryz.underlying19
@[simp] theorem agg_20 : isAggV Tryz.prog 20 = some false := by kernel_rfl
@[simp] theorem size_20 : sizeV Tryz.prog 20 = some 1 := by kernel_rfl
@[simp] theorem bytes_20 : bytesV Tryz.prog 20 = some 16 := by kernel_rfl
attribute [simp] Tryz.underlying20
@[simp] theorem agg_21 : isAggV Tryz.prog 21 = some false := by kernel_rfl
@[simp] theorem size_21 : sizeV Tryz.prog 21 = some 1 := by kernel_rfl
@[simp] theorem bytes_21 : bytesV Tryz.prog 21 = some 4 := by kernel_rfl
@[simp] theorem zero_21 : zeroV Tryz.prog 21 = some (.int .i32 0) := by kernel_rfl
attribute [simp] Tryz.underlying21
@[simp] theorem agg_22 : isAggV Tryz.prog 22 = some false := by kernel_rfl
@[simp] theorem size_22 : sizeV Tryz.prog 22 = some 1 := by kernel_rfl
@[simp] theorem bytes_22 : bytesV Tryz.prog 22 = some 4 := by kernel_rfl
@[simp] theorem zero_22 : zeroV Tryz.prog 22 = some (.int .u32 0) := by kernel_rfl
attribute [simp] Tryz.underlying22
@[simp] theorem agg_23 : isAggV Tryz.prog 23 = some false := by kernel_rfl
@[simp] theorem size_23 : sizeV Tryz.prog 23 = some 1 := by kernel_rfl
@[simp] theorem bytes_23 : bytesV Tryz.prog 23 = some 24 := by kernel_rfl
@[simp] theorem zero_23 : zeroV Tryz.prog 23 = some (.nilslice) := by kernel_rfl
attribute [simp] Tryz.underlying23
@[simp] theorem agg_24 : isAggV Tryz.prog 24 = some false := by kernel_rfl
@[simp] theorem size_24 : sizeV Tryz.prog 24 = some 1 := by kernel_rfl
@[simp] theorem bytes_24 : bytesV Tryz.prog 24 = some 24 := by kernel_rfl
@[simp] theorem zero_24 : zeroV Tryz.prog 24 = some (.nilslice) := by kernel_rfl
attribute [simp] Tryz.underlying24
@[simp] theorem agg_25 : isAggV Tryz.prog 25 = some true := by kernel_rfl
@[simp] theorem size_25 : sizeV Tryz.prog 25 = some 6 := by kernel_rfl
@[simp] theorem bytes_25 : bytesV Tryz.prog 25 = some 80 := by kernel_rfl
@[simp] theorem zero_25 : zeroV Tryz.prog 25 = some (.agg [.int .i64 0, .int .i64 0, .int .i64 0, .int .u32 0, .nilslice, .nilslice]) := by kernel_rfl
attribute [simp] Tryz.underlying25
@[simp] theorem agg_26 : isAggV Tryz.prog 26 = some true := by kernel_rfl
@[simp] theorem size_26 : sizeV Tryz.prog 26 = some 6 := by kernel_rfl
@[simp] theorem bytes_26 : bytesV Tryz.prog 26 = some 80 := by kernel_rfl
@[simp] theorem zero_26 : zeroV Tryz.prog 26 = some (.agg [.int .i64 0, .int .i64 0, .int .i64 0, .int .u32 0, .nilslice, .nilslice]) := by kernel_rfl
attribute [simp] Tryz.underlying26
@[simp] theorem agg_27 : isAggV Tryz.prog 27 = some false := by kernel_rfl
@[simp] theorem size_27 : sizeV Tryz.prog 27 = some 1 := by kernel_rfl
@[simp] theorem bytes_27 : bytesV Tryz.prog 27 = some 24 := by kernel_rfl
@[simp] theorem zero_27 : zeroV Tryz.prog 27 = some (.nilslice) := by kernel_rfl
attribute [simp] Tryz.underlying27
@[simp] theorem agg_28 : isAggV Tryz.prog 28 = some false := by kernel_rfl
@[simp] theorem size_28 : sizeV Tryz.prog 28 = some 1 := by kernel_rfl
@[simp] theorem bytes_28 : bytesV Tryz.prog 28 = some 8 := by kernel_rfl
@[simp] theorem zero_28 : zeroV Tryz.prog 28 = some (.nilptr) := by kernel_rfl
attribute [simp] Tryz.underlying28
@[simp] theorem agg_29 : isAggV Tryz.prog 29 = some true := by kernel_rfl
@[simp] theorem size_29 : sizeV Tryz.prog 29 = some 1 := by kernel_rfl
@[simp] theorem bytes_29 : bytesV Tryz.prog 29 = some 8 := by kernel_rfl
@[simp] theorem zero_29 : zeroV Tryz.prog 29 = some (.agg [.nilptr]) := by kernel_rfl
attribute [simp] Tryz.underlying29
@[simp] theorem agg_30 : isAggV Tryz.prog 30 = some true := by kernel_rfl
@[simp] theorem size_30 : sizeV Tryz.prog 30 = some 1 := by kernel_rfl
@[simp] theorem bytes_30 : bytesV Tryz.prog 30 = some 8 := by kernel_rfl
@[simp] theorem zero_30 : zeroV Tryz.prog 30 = some (.agg [.nilptr]) := by kernel_rfl
attribute [simp] Tryz.underlying30
@[simp] theorem agg_31 : isAggV Tryz.prog 31 = some false := by kernel_rfl
@[simp] theorem size_31 : sizeV Tryz.prog 31 = some 1 := by kernel_rfl
@[simp] theorem bytes_31 : bytesV Tryz.prog 31 = some 8 := by kernel_rfl
@[simp] theorem zero_31 : zeroV Tryz.prog 31 = some (.nilptr) := by kernel_rfl
attribute [simp] Tryz.underlying31
@[simp] theorem agg_32 : isAggV Tryz.prog 32 = some false := by kernel_rfl
@[simp] theorem size_32 : sizeV Tryz.prog 32 = some 1 := by kernel_rfl
@[simp] theorem bytes_32 : bytesV Tryz.prog 32 = some 8 := by kernel_rfl
@[simp] theorem zero_32 : zeroV Tryz.prog 32 = some (.int .i64 0) := by kernel_rfl
attribute [simp] Tryz.underlying32
@[simp] theorem agg_33 : isAggV Tryz.prog 33 = some false := by kernel_rfl
@[simp] theorem size_33 : sizeV Tryz.prog 33 = some 1 := by kernel_rfl
@[simp] theorem bytes_33 : bytesV Tryz.prog 33 = some 0 := by kernel_rfl
attribute [simp] Tryz.underlying33
@[simp] theorem agg_34 : isAggV Tryz.prog 34 = some false := by kernel_rfl
@[simp] theorem size_34 : sizeV Tryz.prog 34 = some 1 := by kernel_rfl
@[simp] theorem bytes_34 : bytesV Tryz.prog 34 = some 8 := by kernel_rfl
attribute [simp] Tryz.underlying34
@[simp] theorem agg_35 : isAggV Tryz.prog 35 = some false := by kernel_rfl
@[simp] theorem size_35 : sizeV Tryz.prog 35 = some 1 := by kernel_rfl
@[simp] theorem bytes_35 : bytesV Tryz.prog 35 = some 8 := by kernel_rfl
@[simp] theorem zero_35 : zeroV Tryz.prog 35 = some (.nilptr) := by kernel_rfl
attribute [simp] Tryz.underlying35
@[simp] theorem agg_36 : isAggV Tryz.prog 36 = some false := by kernel_rfl
@[simp] theorem size_36 : sizeV Tryz.prog 36 = some 1 := by kernel_rfl
@[simp] theorem bytes_36 : bytesV Tryz.prog 36 = some 16 := by kernel_rfl
attribute [simp] Tryz.underlying36
@[simp] theorem agg_37 : isAggV Tryz.prog 37 = some false := by kernel_rfl
@[simp] theorem size_37 : sizeV Tryz.prog 37 = some 1 := by kernel_rfl
@[simp] theorem bytes_37 : bytesV Tryz.prog 37 = some 16 := by kernel_rfl
attribute [simp] Tryz.underlying37
@[simp] theorem agg_38 : isAggV Tryz.prog 38 = some false := by kernel_rfl
@[simp] theorem size_38 : sizeV Tryz.prog 38 = some 1 := by kernel_rfl
@[simp] theorem bytes_38 : bytesV Tryz.prog 38 = some 24 := by kernel_rfl
@[simp] theorem zero_38 : zeroV Tryz.prog 38 = some (.nilslice) := by kernel_rfl
attribute [simp] Tryz.underlying38
@[simp] theorem agg_39 : isAggV Tryz.prog 39 = some false := by kernel_rfl
@[simp] theorem size_39 : sizeV Tryz.prog 39 = some 1 := by kernel_rfl
@[simp] theorem bytes_39 : bytesV Tryz.prog 39 = some 24 := by kernel_rfl
@[simp] theorem zero_39 : zeroV Tryz.prog 39 = some (.nilslice) := by kernel_rfl
attribute [simp] Tryz.underlying39
@[simp] theorem agg_40 : isAggV Tryz.prog 40 = some true := by kernel_rfl
@[simp] theorem size_40 : sizeV Tryz.prog 40 = some 4 := by kernel_rfl
@[simp] theorem bytes_40 : bytesV Tryz.prog 40 = some 88 := by kernel_rfl
@[simp] theorem zero_40 : zeroV Tryz.prog 40 = some (.agg [.niliface, .nilslice, .nilslice, .nilslice]) := by kernel_rfl
attribute [simp] Tryz.underlying40
@[simp] theorem agg_41 : isAggV Tryz.prog 41 = some true := by kernel_rfl
@[simp] theorem size_41 : sizeV Tryz.prog 41 = some 4 := by kernel_rfl
@[simp] theorem bytes_41 : bytesV Tryz.prog 41 = some 88 := by kernel_rfl
@[simp] theorem zero_41 : zeroV Tryz.prog 41 = some (.agg [.niliface, .nilslice, .nilslice, .nilslice]) := by kernel_rfl
attribute [simp] Tryz.underlying41
@[simp] theorem agg_42 : isAggV Tryz.prog 42 = some true := by kernel_rfl
@[simp] theorem size_42 : sizeV Tryz.prog 42 = some 5 := by kernel_rfl
@[simp] theorem bytes_42 : bytesV Tryz.prog 42 = some 96 := by kernel_rfl
@[simp] theorem zero_42 : zeroV Tryz.prog 42 = some (.agg [.niliface, .nilslice, .nilslice, .nilslice, .int .i64 0]) := by kernel_rfl
attribute [simp] Tryz.underlying42
@[simp] theorem agg_43 : isAggV Tryz.prog 43 = some true := by kernel_rfl
@[simp] theorem size_43 : sizeV Tryz.prog 43 = some 5 := by kernel_rfl
@[simp] theorem bytes_43 : bytesV Tryz.prog 43 = some 96 := by kernel_rfl
@[simp] theorem zero_43 : zeroV Tryz.prog 43 = some (.agg [.niliface, .nilslice, .nilslice, .nilslice, .int .i64 0]) := by kernel_rfl
attribute [simp] Tryz.underlying43
@[simp] theorem agg_44 : isAggV Tryz.prog 44 = some false := by kernel_rfl
@[simp] theorem size_44 : sizeV Tryz.prog 44 = some 1 := by kernel_rfl
@[simp] theorem bytes_44 : bytesV Tryz.prog 44 = some 24 := by kernel_rfl
@[simp] theorem zero_44 : zeroV Tryz.prog 44 = some (.nilslice) := by kernel_rfl
attribute [simp] Tryz.underlying44
@[simp] theorem agg_45 : isAggV Tryz.prog 45 = some false := by kernel_rfl
@[simp] theorem size_45 : sizeV Tryz.prog 45 = some 1 := by kernel_rfl
@[simp] theorem bytes_45 : bytesV Tryz.prog 45 = some 1 := by kernel_rfl
@[simp] theorem zero_45 : zeroV Tryz.prog 45 = some (.int .u8 0) := by kernel_rfl
attribute [simp] Tryz.underlying45
@[simp] theorem agg_46 : isAggV Tryz.prog 46 = some false := by kernel_rfl
@[simp] theorem size_46 : sizeV Tryz.prog 46 = some 1 := by kernel_rfl
@[simp] theorem bytes_46 : bytesV Tryz.prog 46 = some 1 := by kernel_rfl
@[simp] theorem zero_46 : zeroV Tryz.prog 46 = some (.int .u8 0) := by kernel_rfl
attribute [simp] Tryz.underlying46
@[simp] theorem agg_47 : isAggV Tryz.prog 47 = some true := by kernel_rfl
@[simp] theorem size_47 : sizeV Tryz.prog 47 = some 4 := by kernel_rfl
@[simp] theorem bytes_47 : bytesV Tryz.prog 47 = some 40 := by kernel_rfl
@[simp] theorem zero_47 : zeroV Tryz.prog 47 = some (.agg [.int .u32 0, .int .u32 0, .nilslice, .int .u32 0]) := by kernel_rfl
attribute [simp] Tryz.underlying47
@[simp] theorem agg_48 : isAggV Tryz.prog 48 = some true := by kernel_rfl
@[simp] theorem size_48 : sizeV Tryz.prog 48 = some 4 := by kernel_rfl
@[simp] theorem bytes_48 : bytesV Tryz.prog 48 = some 40 := by kernel_rfl
@[simp] theorem zero_48 : zeroV Tryz.prog 48 = some (.agg [.int .u32 0, .int .u32 0, .nilslice, .int .u32 0]) := by kernel_rfl
attribute [simp] Tryz.underlying48
@[simp] theorem agg_49 : isAggV Tryz.prog 49 = some true := by kernel_rfl
@[simp] theorem size_49 : sizeV Tryz.prog 49 = some 11 := by kernel_rfl
@[simp] theorem bytes_49 : bytesV Tryz.prog 49 = some 96 := by kernel_rfl
@[simp] theorem zero_49 : zeroV Tryz.prog 49 = some (.agg [.int .u8 0, .int .u32 0, .int .u32 0, .int .u8 0, .int .i64 0, .int .i64 0, .nilslice, .int .u32 0, .int .u32 0, .nilslice, .int .u32 0]) := by kernel_rfl
attribute [simp] Tryz.underlying49
@[simp] theorem agg_50 : isAggV Tryz.prog 50 = some true := by kernel_rfl
@[simp] theorem size_50 : sizeV Tryz.prog 50 = some 11 := by kernel_rfl
@[simp] theorem bytes_50 : bytesV Tryz.prog 50 = some 96 := by kernel_rfl
@[simp] theorem zero_50 : zeroV Tryz.prog 50 = some (.agg [.int .u8 0, .int .u32 0, .int .u32 0, .int .u8 0, .int .i64 0, .int .i64 0, .nilslice, .int .u32 0, .int .u32 0, .nilslice, .int .u32 0]) := by kernel_rfl
attribute [simp] Tryz.underlying50
@[simp] theorem agg_51 : isAggV Tryz.prog 51 = some false := by kernel_rfl
@[simp] theorem size_51 : sizeV Tryz.prog 51 = some 1 := by kernel_rfl
@[simp] theorem bytes_51 : bytesV Tryz.prog 51 = some 0 := by kernel_rfl
attribute [simp] Tryz.underlying51
@[simp] theorem agg_52 : isAggV Tryz.prog 52 = some false := by kernel_rfl
@[simp] theorem size_52 : sizeV Tryz.prog 52 = some 1 := by kernel_rfl
@[simp] theorem bytes_52 : bytesV Tryz.prog 52 = some 8 := by kernel_rfl
attribute [simp] Tryz.underlying52
@[simp] theorem agg_53 : isAggV Tryz.prog 53 = some false := by kernel_rfl
@[simp] theorem size_53 : sizeV Tryz.prog 53 = some 1 := by kernel_rfl
@[simp] theorem bytes_53 : bytesV Tryz.prog 53 = some 8 := by kernel_rfl
attribute [simp] Tryz.underlying53
@[simp] theorem agg_54 : isAggV Tryz.prog 54 = some false := by kernel_rfl
@[simp] theorem size_54 : sizeV Tryz.prog 54 = some 1 := by kernel_rfl
@[simp] theorem bytes_54 : bytesV Tryz.prog 54 = some 8 := by kernel_rfl
attribute [simp] Tryz.underlying54
@[simp] theorem agg_55 : isAggV Tryz.prog 55 = some false := by kernel_rfl
@[simp] theorem size_55 : sizeV Tryz.prog 55 = some 1 := by kernel_rfl
@[simp] theorem bytes_55 : bytesV Tryz.prog 55 = some 8 := by kernel_rfl
attribute [simp] Tryz.underlying55
@[simp] theorem agg_56 : isAggV Tryz.prog 56 = some true := by kernel_rfl
@[simp] theorem size_56 : sizeV Tryz.prog 56 = some 2 := by kernel_rfl
@[simp] theorem bytes_56 : bytesV Tryz.prog 56 = some 16 := by kernel_rfl
@[simp] theorem zero_56 : zeroV Tryz.prog 56 = some (.agg [.int .i64 0, .int .i64 0]) := by kernel_rfl
attribute [simp] Tryz.underlying56
@[simp] theorem agg_57 : isAggV Tryz.prog 57 = some true := by kernel_rfl
@[simp] theorem size_57 : sizeV Tryz.prog 57 = some 2 := by kernel_rfl
@[simp] theorem bytes_57 : bytesV Tryz.prog 57 = some 16 := by kernel_rfl
@[simp] theorem zero_57 : zeroV Tryz.prog 57 = some (.agg [.int .i64 0, .int .i64 0]) := by kernel_rfl
attribute [simp] Tryz.underlying57
@[simp] theorem agg_58 : isAggV Tryz.prog 58 = some false := by kernel_rfl
@[simp] theorem size_58 : sizeV Tryz.prog 58 = some 1 := by kernel_rfl
@[simp] theorem bytes_58 : bytesV Tryz.prog 58 = some 8 := by kernel_rfl
attribute [simp] Tryz.underlying58
@[simp] theorem agg_59 : isAggV Tryz.prog 59 = some false := by kernel_rfl
@[simp] theorem size_59 : sizeV Tryz.prog 59 = some 1 := by kernel_rfl
@[simp] theorem bytes_59 : bytesV Tryz.prog 59 = some 8 := by kernel_rfl
attribute [simp] Tryz.underlying59
@[simp] theorem agg_60 : isAggV Tryz.prog 60 = some false := by kernel_rfl
@[simp] theorem size_60 : sizeV Tryz.prog 60 = some 1 := by kernel_rfl
@[simp] theorem bytes_60 : bytesV Tryz.prog 60 = some 8 := by kernel_rfl
attribute [simp] Tryz.underlying60
@[simp] theorem agg_61 : isAggV Tryz.prog 61 = some false := by kernel_rfl
@[simp] theorem size_61 : sizeV Tryz.prog 61 = some 1 := by kernel_rfl
@[simp] theorem bytes_61 : bytesV Tryz.prog 61 = some 1 := by kernel_rfl
@[simp] theorem zero_61 : zeroV Tryz.prog 61 = some (.int .u8 0) := by kernel_rfl
attribute [simp] Tryz.underlying61
@[simp] theorem agg_62 : isAggV Tryz.prog 62 = some false := by kernel_rfl
@[simp] theorem size_62 : sizeV Tryz.prog 62 = some 1 := by kernel_rfl
@[simp] theorem bytes_62 : bytesV Tryz.prog 62 = some 24 := by kernel_rfl
@[simp] theorem zero_62 : zeroV Tryz.prog 62 = some (.nilslice) := by kernel_rfl
attribute [simp] Tryz.underlying62
@[simp] theorem agg_63 : isAggV Tryz.prog 63 = some true := by kernel_rfl
@[simp] theorem size_63 : sizeV Tryz.prog 63 = some 7 := by kernel_rfl
@[simp] theorem bytes_63 : bytesV Tryz.prog 63 = some 72 := by kernel_rfl
@[simp] theorem zero_63 : zeroV Tryz.prog 63 = some (.agg [.int .u8 0, .int .u32 0, .int .u32 0, .nilslice, .nilslice, .int .u32 0, .int .u8 0]) := by kernel_rfl
attribute [simp] Tryz.underlying63
@[simp] theorem agg_64 : isAggV Tryz.prog 64 = some true := by kernel_rfl
@[simp] theorem size_64 : sizeV Tryz.prog 64 = some 7 := by kernel_rfl
@[simp] theorem bytes_64 : bytesV Tryz.prog 64 = some 72 := by kernel_rfl
@[simp] theorem zero_64 : zeroV Tryz.prog 64 = some (.agg [.int .u8 0, .int .u32 0, .int .u32 0, .nilslice, .nilslice, .int .u32 0, .int .u8 0]) := by kernel_rfl
attribute [simp] Tryz.underlying64
@[simp] theorem agg_65 : isAggV Tryz.prog 65 = some false := by kernel_rfl
@[simp] theorem size_65 : sizeV Tryz.prog 65 = some 1 := by kernel_rfl
@[simp] theorem bytes_65 : bytesV Tryz.prog 65 = some 8 := by kernel_rfl
attribute [simp] Tryz.underlying65
@[simp] theorem agg_66 : isAggV Tryz.prog 66 = some false := by kernel_rfl
@[simp] theorem size_66 : sizeV Tryz.prog 66 = some 1 := by kernel_rfl
@[simp] theorem bytes_66 : bytesV Tryz.prog 66 = some 8 := by kernel_rfl
attribute [simp] Tryz.underlying66
@[simp] theorem agg_67 : isAggV Tryz.prog 67 = some false := by kernel_rfl
@[simp] theorem size_67 : sizeV Tryz.prog 67 = some 1 := by kernel_rfl
@[simp] theorem bytes_67 : bytesV Tryz.prog 67 = some 8 := by kernel_rfl
@[simp] theorem zero_67 : zeroV Tryz.prog 67 = some (.nilptr) := by kernel_rfl
attribute [simp] Tryz.underlying67
@[simp] theorem agg_68 : isAggV Tryz.prog 68 = some false := by kernel_rfl
@[simp] theorem size_68 : sizeV Tryz.prog 68 = some 1 := by kernel_rfl
@[simp] theorem bytes_68 : bytesV Tryz.prog 68 = some 0 := by kernel_rfl
attribute [simp] Tryz.underlying68
@[simp] theorem agg_69 : isAggV Tryz.prog 69 = some false := by kernel_rfl
@[simp] theorem size_69 : sizeV Tryz.prog 69 = some 1 := by kernel_rfl
@[simp] theorem bytes_69 : bytesV Tryz.prog 69 = some 8 := by kernel_rfl
attribute [simp] Tryz.underlying69
@[simp] theorem agg_70 : isAggV Tryz.prog 70 = some false := by kernel_rfl
@[simp] theorem size_70 : sizeV Tryz.prog 70 = some 1 := by kernel_rfl
@[simp] theorem bytes_70 : bytesV Tryz.prog 70 = some 8 := by kernel_rfl
attribute [simp] Tryz.underlying70
@[simp] theorem agg_71 : isAggV Tryz.prog 71 = some false := by kernel_rfl
@[simp] theorem size_71 : sizeV Tryz.prog 71 = some 1 := by kernel_rfl
@[simp] theorem bytes_71 : bytesV Tryz.prog 71 = some 8 := by kernel_rfl
attribute [simp] Tryz.underlying71
@[simp] theorem agg_72 : isAggV Tryz.prog 72 = some false := by kernel_rfl
@[simp] theorem size_72 : sizeV Tryz.prog 72 = some 1 := by kernel_rfl
@[simp] theorem bytes_72 : bytesV Tryz.prog 72 = some 8 := by kernel_rfl
attribute [simp] Tryz.underlying72
@[simp] theorem agg_73 : isAggV Tryz.prog 73 = some false := by kernel_rfl
@[simp] theorem size_73 : sizeV Tryz.prog 73 = some 1 := by kernel_rfl
@[simp] theorem bytes_73 : bytesV Tryz.prog 73 = some 8 := by kernel_rfl
attribute [simp] Tryz.underlying73
@[simp] theorem agg_74 : isAggV Tryz.prog 74 = some false := by kernel_rfl
@[simp] theorem size_74 : sizeV Tryz.prog 74 = some 1 := by kernel_rfl
@[simp] theorem bytes_74 : bytesV Tryz.prog 74 = some 8 := by kernel_rfl
attribute [simp] Tryz.underlying74
@[simp] theorem agg_75 : isAggV Tryz.prog 75 = some false := by kernel_rfl
@[simp] theorem size_75 : sizeV Tryz.prog 75 = some 1 := by kernel_rfl
@[simp] theorem bytes_75 : bytesV Tryz.prog 75 = some 8 := by kernel_rfl
attribute [simp] Tryz.underlying75
@[simp] theorem agg_76 : isAggV Tryz.prog 76 = some false := by kernel_rfl
@[simp] theorem size_76 : sizeV Tryz.prog 76 = some 1 := by kernel_rfl
@[simp] theorem bytes_76 : bytesV Tryz.prog 76 = some 8 := by kernel_rfl
attribute [simp] Tryz.underlying76
@[simp] theorem agg_77 : isAggV Tryz.prog 77 = some true := by kernel_rfl
@[simp] theorem size_77 : sizeV Tryz.prog 77 = some 3 := by kernel_rfl
@[simp] theorem bytes_77 : bytesV Tryz.prog 77 = some 40 := by kernel_rfl
@[simp] theorem zero_77 : zeroV Tryz.prog 77 = some (.agg [.nilfunc, .nilfunc, .nilslice]) := by kernel_rfl
attribute [simp] Tryz.underlying77
@[simp] theorem agg_78 : isAggV Tryz.prog 78 = some true := by kernel_rfl
@[simp] theorem size_78 : sizeV Tryz.prog 78 = some 3 := by kernel_rfl
@[simp] theorem bytes_78 : bytesV Tryz.prog 78 = some 40 := by kernel_rfl
@[simp] theorem zero_78 : zeroV Tryz.prog 78 = some (.agg [.nilfunc, .nilfunc, .nilslice]) := by kernel_rfl
attribute [simp] Tryz.underlying78
@[simp] theorem agg_79 : isAggV Tryz.prog 79 = some false := by kernel_rfl
@[simp] theorem size_79 : sizeV Tryz.prog 79 = some 1 := by kernel_rfl
@[simp] theorem bytes_79 : bytesV Tryz.prog 79 = some 8 := by kernel_rfl
@[simp] theorem zero_79 : zeroV Tryz.prog 79 = some (.nilptr) := by kernel_rfl
attribute [simp] Tryz.underlying79
@[simp] theorem agg_80 : isAggV Tryz.prog 80 = some false := by kernel_rfl
@[simp] theorem size_80 : sizeV Tryz.prog 80 = some 1 := by kernel_rfl
@[simp] theorem bytes_80 : bytesV Tryz.prog 80 = some 8 := by kernel_rfl
attribute [simp] Tryz.underlying80
@[simp] theorem agg_81 : isAggV Tryz.prog 81 = some false := by kernel_rfl
@[simp] theorem size_81 : sizeV Tryz.prog 81 = some 1 := by kernel_rfl
@[simp] theorem bytes_81 : bytesV Tryz.prog 81 = some 8 := by kernel_rfl
attribute [simp] Tryz.underlying81
@[simp] theorem agg_82 : isAggV Tryz.prog 82 = some false := by kernel_rfl
@[simp] theorem size_82 : sizeV Tryz.prog 82 = some 1 := by kernel_rfl
@[simp] theorem bytes_82 : bytesV Tryz.prog 82 = some 8 := by kernel_rfl
attribute [simp] Tryz.underlying82
@[simp] theorem agg_83 : isAggV Tryz.prog 83 = some false := by kernel_rfl
@[simp] theorem size_83 : sizeV Tryz.prog 83 = some 1 := by kernel_rfl
@[simp] theorem bytes_83 : bytesV Tryz.prog 83 = some 0 := by kernel_rfl
attribute [simp] Tryz.underlying83
@[simp] theorem agg_84 : isAggV Tryz.prog 84 = some false := by kernel_rfl
@[simp] theorem size_84 : sizeV Tryz.prog 84 = some 1 := by kernel_rfl
@[simp] theorem bytes_84 : bytesV Tryz.prog 84 = some 8 := by kernel_rfl
attribute [simp] Tryz.underlying84
@[simp] theorem agg_85 : isAggV Tryz.prog 85 = some false := by kernel_rfl
@[simp] theorem size_85 : sizeV Tryz.prog 85 = some 1 := by kernel_rfl
@[simp] theorem bytes_85 : bytesV Tryz.prog 85 = some 8 := by kernel_rfl
@[simp] theorem zero_85 : zeroV Tryz.prog 85 = some (.nilptr) := by kernel_rfl
attribute [simp] Tryz.underlying85
@[simp] theorem agg_86 : isAggV Tryz.prog 86 = some false := by kernel_rfl
@[simp] theorem size_86 : sizeV Tryz.prog 86 = some 1 := by kernel_rfl
@[simp] theorem bytes_86 : bytesV Tryz.prog 86 = some 0 := by kernel_rfl
attribute [simp] Tryz.underlying86
@[simp] theorem agg_87 : isAggV Tryz.prog 87 = some false := by kernel_rfl
@[simp] theorem size_87 : sizeV Tryz.prog 87 = some 1 := by kernel_rfl
@[simp] theorem bytes_87 : bytesV Tryz.prog 87 = some 8 := by kernel_rfl
attribute [simp] Tryz.underlying87
@[simp] theorem agg_88 : isAggV Tryz.prog 88 = some false := by kernel_rfl
@[simp] theorem size_88 : sizeV Tryz.prog 88 = some 1 := by kernel_rfl
@[simp] theorem bytes_88 : bytesV Tryz.prog 88 = some 24 := by kernel_rfl
@[simp] theorem zero_88 : zeroV Tryz.prog 88 = some (.nilslice) := by kernel_rfl
attribute [simp] Tryz.underlying88
@[simp] theorem agg_89 : isAggV Tryz.prog 89 = some false := by kernel_rfl
@[simp] theorem size_89 : sizeV Tryz.prog 89 = some 1 := by kernel_rfl
@[simp] theorem bytes_89 : bytesV Tryz.prog 89 = some 24 := by kernel_rfl
@[simp] theorem zero_89 : zeroV Tryz.prog 89 = some (.nilslice) := by kernel_rfl
attribute [simp] Tryz.underlying89
@[simp] theorem agg_90 : isAggV Tryz.prog 90 = some true := by kernel_rfl
@[simp] theorem size_90 : sizeV Tryz.prog 90 = some 6 := by kernel_rfl
@[simp] theorem bytes_90 : bytesV Tryz.prog 90 = some 104 := by kernel_rfl
@[simp] theorem zero_90 : zeroV Tryz.prog 90 = some (.agg [.nilslice, .nilslice, .nilslice, .int .u32 0, .int .u32 0, .nilslice]) := by kernel_rfl
attribute [simp] Tryz.underlying90
@[simp] theorem agg_91 : isAggV Tryz.prog 91 = some true := by kernel_rfl
@[simp] theorem size_91 : sizeV Tryz.prog 91 = some 6 := by kernel_rfl
@[simp] theorem bytes_91 : bytesV Tryz.prog 91 = some 104 := by kernel_rfl
@[simp] theorem zero_91 : zeroV Tryz.prog 91 = some (.agg [.nilslice, .nilslice, .nilslice, .int .u32 0, .int .u32 0, .nilslice]) := by kernel_rfl
attribute [simp] Tryz.underlying91
@[simp] theorem agg_92 : isAggV Tryz.prog 92 = some false := by kernel_rfl
@[simp] theorem size_92 : sizeV Tryz.prog 92 = some 1 := by kernel_rfl
@[simp] theorem bytes_92 : bytesV Tryz.prog 92 = some 8 := by kernel_rfl
attribute [simp] Tryz.underlying92
@[simp] theorem agg_93 : isAggV Tryz.prog 93 = some false := by kernel_rfl
@[simp] theorem size_93 : sizeV Tryz.prog 93 = some 1 := by kernel_rfl
@[simp] theorem bytes_93 : bytesV Tryz.prog 93 = some 8 := by kernel_rfl
attribute [simp] Tryz.underlying93
@[simp] theorem agg_94 : isAggV Tryz.prog 94 = some true := by kernel_rfl
@[simp] theorem size_94 : sizeV Tryz.prog 94 = some 60 := by kernel_rfl
@[simp] theorem bytes_94 : bytesV Tryz.prog 94 = some 480 := by kernel_rfl
attribute [simp] Tryz.underlying94
@[simp] theorem agg_95 : isAggV Tryz.prog 95 = some false := by kernel_rfl
@[simp] theorem size_95 : sizeV Tryz.prog 95 = some 1 := by kernel_rfl
@[simp] theorem bytes_95 : bytesV Tryz.prog 95 = some 8 := by kernel_rfl
attribute [simp] Tryz.underlying95
@[simp] theorem agg_96 : isAggV Tryz.prog 96 = some false := by kernel_rfl
@[simp] theorem size_96 : sizeV Tryz.prog 96 = some 1 := by kernel_rfl
@[simp] theorem bytes_96 : bytesV Tryz.prog 96 = some 8 := by kernel_rfl
@[simp] theorem zero_96 : zeroV Tryz.prog 96 = some (.nilptr) := by kernel_rfl
attribute [simp] Tryz.underlying96
@[simp] theorem agg_97 : isAggV Tryz.prog 97 = some false := by kernel_rfl
@[simp] theorem size_97 : sizeV Tryz.prog 97 = some 1 := by kernel_rfl
@[simp] theorem bytes_97 : bytesV Tryz.prog 97 = some 24 := by kernel_rfl
@[simp] theorem zero_97 : zeroV Tryz.prog 97 = some (.nilslice) := by kernel_rfl
attribute [simp] Tryz.underlying97
@[simp] theorem agg_98 : isAggV Tryz.prog 98 = some true := by kernel_rfl
@[simp] theorem size_98 : sizeV Tryz.prog 98 = some 76 := by kernel_rfl
@[simp] theorem bytes_98 : bytesV Tryz.prog 98 = some 656 := by kernel_rfl
attribute [simp] Tryz.underlying98
@[simp] theorem agg_99 : isAggV Tryz.prog 99 = some true := by kernel_rfl
@[simp] theorem size_99 : sizeV Tryz.prog 99 = some 76 := by kernel_rfl
@[simp] theorem bytes_99 : bytesV Tryz.prog 99 = some 656 := by kernel_rfl
attribute [simp] Tryz.underlying99
@[simp] theorem agg_100 : isAggV Tryz.prog 100 = some false := by kernel_rfl
@[simp] theorem size_100 : sizeV Tryz.prog 100 = some 1 := by kernel_rfl
@[simp] theorem bytes_100 : bytesV Tryz.prog 100 = some 8 := by kernel_rfl
attribute [simp] Tryz.underlying100
@[simp] theorem agg_101 : isAggV Tryz.prog 101 = some false := by kernel_rfl
@[simp] theorem size_101 : sizeV Tryz.prog 101 = some 1 := by kernel_rfl
@[simp] theorem bytes_101 : bytesV Tryz.prog 101 = some 24 := by kernel_rfl
@[simp] theorem zero_101 : zeroV Tryz.prog 101 = some (.nilslice) := by kernel_rfl
attribute [simp] Tryz.underlying101
@[simp] theorem agg_102 : isAggV Tryz.prog 102 = some false := by kernel_rfl
@[simp] theorem size_102 : sizeV Tryz.prog 102 = some 1 := by kernel_rfl
@[simp] theorem bytes_102 : bytesV Tryz.prog 102 = some 0 := by kernel_rfl
attribute [simp] Tryz.underlying102
@[simp] theorem agg_103 : isAggV Tryz.prog 103 = some false := by kernel_rfl
@[simp] theorem size_103 : sizeV Tryz.prog 103 = some 1 := by kernel_rfl
@[simp] theorem bytes_103 : bytesV Tryz.prog 103 = some 8 := by kernel_rfl
attribute [simp] Tryz.underlying103
@[simp] theorem agg_104 : isAggV Tryz.prog 104 = some false := by kernel_rfl
@[simp] theorem size_104 : sizeV Tryz.prog 104 = some 1 := by kernel_rfl
@[simp] theorem bytes_104 : bytesV Tryz.prog 104 = some 8 := by kernel_rfl
attribute [simp] Tryz.underlying104
@[simp] theorem agg_105 : isAggV Tryz.prog 105 = some false := by kernel_rfl
@[simp] theorem size_105 : sizeV Tryz.prog 105 = some 1 := by kernel_rfl
@[simp] theorem bytes_105 : bytesV Tryz.prog 105 = some 8 := by kernel_rfl
attribute [simp] Tryz.underlying105
@[simp] theorem agg_106 : isAggV Tryz.prog 106 = some false := by kernel_rfl
@[simp] theorem size_106 : sizeV Tryz.prog 106 = some 1 := by kernel_rfl
@[simp] theorem bytes_106 : bytesV Tryz.prog 106 = some 8 := by kernel_rfl
attribute [simp] Tryz.underlying106
@[simp] theorem agg_107 : isAggV Tryz.prog 107 = some false := by kernel_rfl
@[simp] theorem size_107 : sizeV Tryz.prog 107 = some 1 := by kernel_rfl
@[simp] theorem bytes_107 : bytesV Tryz.prog 107 = some 8 := by kernel_rfl
attribute [simp] Tryz.underlying107
@[simp] theorem agg_108 : isAggV Tryz.prog 108 = some false := by kernel_rfl
@[simp] theorem size_108 : sizeV Tryz.prog 108 = some 1 := by kernel_rfl
@[simp] theorem bytes_108 : bytesV Tryz.prog 108 = some 8 := by kernel_rfl
attribute [simp] Tryz.underlying108
@[simp] theorem agg_109 : isAggV Tryz.prog 109 = some true := by kernel_rfl
@[simp] theorem size_109 : sizeV Tryz.prog 109 = some 1 := by kernel_rfl
@[simp] theorem bytes_109 : bytesV Tryz.prog 109 = some 8 := by kernel_rfl
@[simp] theorem zero_109 : zeroV Tryz.prog 109 = some (.agg [.nilmap]) := by kernel_rfl
attribute [simp] Tryz.underlying109
@[simp] theorem agg_110 : isAggV Tryz.prog 110 = some true := by kernel_rfl
@[simp] theorem size_110 : sizeV Tryz.prog 110 = some 1 := by kernel_rfl
@[simp] theorem bytes_110 : bytesV Tryz.prog 110 = some 8 := by kernel_rfl
@[simp] theorem zero_110 : zeroV Tryz.prog 110 = some (.agg [.nilmap]) := by kernel_rfl
attribute [simp] Tryz.underlying110
@[simp] theorem agg_111 : isAggV Tryz.prog 111 = some true := by kernel_rfl
@[simp] theorem size_111 : sizeV Tryz.prog 111 = some 2 := by kernel_rfl
@[simp] theorem bytes_111 : bytesV Tryz.prog 111 = some 16 := by kernel_rfl
@[simp] theorem zero_111 : zeroV Tryz.prog 111 = some (.agg [.int .u32 0, .int .i64 0]) := by kernel_rfl
attribute [simp] Tryz.underlying111
@[simp] theorem agg_112 : isAggV Tryz.prog 112 = some true := by kernel_rfl
@[simp] theorem size_112 : sizeV Tryz.prog 112 = some 2 := by kernel_rfl
@[simp] theorem bytes_112 : bytesV Tryz.prog 112 = some 16 := by kernel_rfl
@[simp] theorem zero_112 : zeroV Tryz.prog 112 = some (.agg [.int .u32 0, .int .i64 0]) := by kernel_rfl
attribute [simp] Tryz.underlying112
@[simp] theorem agg_113 : isAggV Tryz.prog 113 = some false := by kernel_rfl
@[simp] theorem size_113 : sizeV Tryz.prog 113 = some 1 := by kernel_rfl
@[simp] theorem bytes_113 : bytesV Tryz.prog 113 = some 0 := by kernel_rfl
attribute [simp] Tryz.underlying113
@[simp] theorem agg_114 : isAggV Tryz.prog 114 = some false := by kernel_rfl
@[simp] theorem size_114 : sizeV Tryz.prog 114 = some 1 := by kernel_rfl
@[simp] theorem bytes_114 : bytesV Tryz.prog 114 = some 8 := by kernel_rfl
attribute [simp] Tryz.underlying114
@[simp] theorem agg_115 : isAggV Tryz.prog 115 = some false := by kernel_rfl
@[simp] theorem size_115 : sizeV Tryz.prog 115 = some 1 := by kernel_rfl
@[simp] theorem bytes_115 : bytesV Tryz.prog 115 = some 8 := by kernel_rfl
@[simp] theorem zero_115 : zeroV Tryz.prog 115 = some (.nilptr) := by kernel_rfl
attribute [simp] Tryz.underlying115
@[simp] theorem agg_116 : isAggV Tryz.prog 116 = some false := by kernel_rfl
@[simp] theorem size_116 : sizeV Tryz.prog 116 = some 1 := by kernel_rfl
@[simp] theorem bytes_116 : bytesV Tryz.prog 116 = some 24 := by kernel_rfl
@[simp] theorem zero_116 : zeroV Tryz.prog 116 = some (.nilslice) := by kernel_rfl
attribute [simp] Tryz.underlying116
@[simp] theorem agg_117 : isAggV Tryz.prog 117 = some true := by kernel_rfl
@[simp] theorem size_117 : sizeV Tryz.prog 117 = some 2 := by kernel_rfl
@[simp] theorem bytes_117 : bytesV Tryz.prog 117 = some 32 := by kernel_rfl
@[simp] theorem zero_117 : zeroV Tryz.prog 117 = some (.agg [.nilptr, .nilslice]) := by kernel_rfl
attribute [simp] Tryz.underlying117
@[simp] theorem agg_118 : isAggV Tryz.prog 118 = some true := by kernel_rfl
@[simp] theorem size_118 : sizeV Tryz.prog 118 = some 2 := by kernel_rfl
@[simp] theorem bytes_118 : bytesV Tryz.prog 118 = some 32 := by kernel_rfl
@[simp] theorem zero_118 : zeroV Tryz.prog 118 = some (.agg [.nilptr, .nilslice]) := by kernel_rfl
attribute [simp] Tryz.underlying118
@[simp] theorem agg_119 : isAggV Tryz.prog 119 = some true := by kernel_rfl
@[simp] theorem size_119 : sizeV Tryz.prog 119 = some 2 := by kernel_rfl
@[simp] theorem bytes_119 : bytesV Tryz.prog 119 = some 48 := by kernel_rfl
@[simp] theorem zero_119 : zeroV Tryz.prog 119 = some (.agg [.nilslice, .nilslice]) := by kernel_rfl
attribute [simp] Tryz.underlying119
@[simp] theorem agg_120 : isAggV Tryz.prog 120 = some true := by kernel_rfl
@[simp] theorem size_120 : sizeV Tryz.prog 120 = some 2 := by kernel_rfl
@[simp] theorem bytes_120 : bytesV Tryz.prog 120 = some 48 := by kernel_rfl
@[simp] theorem zero_120 : zeroV Tryz.prog 120 = some (.agg [.nilslice, .nilslice]) := by kernel_rfl
attribute [simp] Tryz.underlying120
@[simp] theorem agg_121 : isAggV Tryz.prog 121 = some false := by kernel_rfl
@[simp] theorem size_121 : sizeV Tryz.prog 121 = some 1 := by kernel_rfl
@[simp] theorem bytes_121 : bytesV Tryz.prog 121 = some 8 := by kernel_rfl
@[simp] theorem zero_121 : zeroV Tryz.prog 121 = some (.int .u64 0) := by kernel_rfl
attribute [simp] Tryz.underlying121
@[simp] theorem agg_122 : isAggV Tryz.prog 122 = some true := by kernel_rfl
@[simp] theorem size_122 : sizeV Tryz.prog 122 = some 12 := by kernel_rfl
@[simp] theorem bytes_122 : bytesV Tryz.prog 122 = some 200 := by kernel_rfl
attribute [simp] Tryz.underlying122
@[simp] theorem agg_123 : isAggV Tryz.prog 123 = some true := by kernel_rfl
@[simp] theorem size_123 : sizeV Tryz.prog 123 = some 12 := by kernel_rfl
@[simp] theorem bytes_123 : bytesV Tryz.prog 123 = some 200 := by kernel_rfl
attribute [simp] Tryz.underlying123
@[simp] theorem agg_124 : isAggV Tryz.prog 124 = some false := by kernel_rfl
@[simp] theorem size_124 : sizeV Tryz.prog 124 = some 1 := by kernel_rfl
@[simp] theorem bytes_124 : bytesV Tryz.prog 124 = some 8 := by kernel_rfl
attribute [simp] Tryz.underlying124
@[simp] theorem agg_125 : isAggV Tryz.prog 125 = some false := by kernel_rfl
@[simp] theorem size_125 : sizeV Tryz.prog 125 = some 1 := by kernel_rfl
@[simp] theorem bytes_125 : bytesV Tryz.prog 125 = some 8 := by kernel_rfl
attribute [simp] Tryz.underlying125
@[simp] theorem agg_126 : isAggV Tryz.prog 126 = some false := by kernel_rfl
@[simp] theorem size_126 : sizeV Tryz.prog 126 = some 1 := by kernel_rfl
@[simp] theorem bytes_126 : bytesV Tryz.prog 126 = some 1 := by kernel_rfl
@[simp] theorem zero_126 : zeroV Tryz.prog 126 = some (.int .u8 0) := by kernel_rfl
attribute [simp] Tryz.underlying126
@[simp] theorem agg_127 : isAggV Tryz.prog 127 = some false := by kernel_rfl
@[simp] theorem size_127 : sizeV Tryz.prog 127 = some 1 := by kernel_rfl
@[simp] theorem bytes_127 : bytesV Tryz.prog 127 = some 8 := by kernel_rfl
attribute [simp] Tryz.underlying127
@[simp] theorem agg_128 : isAggV Tryz.prog 128 = some false := by kernel_rfl
@[simp] theorem size_128 : sizeV Tryz.prog 128 = some 1 := by kernel_rfl
@[simp] theorem bytes_128 : bytesV Tryz.prog 128 = some 0 := by kernel_rfl
attribute [simp] Tryz.underlying128
@[simp] theorem agg_129 : isAggV Tryz.prog 129 = some false := by kernel_rfl
@[simp] theorem size_129 : sizeV Tryz.prog 129 = some 1 := by kernel_rfl
@[simp] theorem bytes_129 : bytesV Tryz.prog 129 = some 8 := by kernel_rfl
attribute [simp] Tryz.underlying129
@[simp] theorem agg_130 : isAggV Tryz.prog 130 = some false := by kernel_rfl
@[simp] theorem size_130 : sizeV Tryz.prog 130 = some 1 := by kernel_rfl
@[simp] theorem bytes_130 : bytesV Tryz.prog 130 = some 8 := by kernel_rfl
attribute [simp] Tryz.underlying130
@[simp] theorem agg_131 : isAggV Tryz.prog 131 = some true := by kernel_rfl
@[simp] theorem size_131 : sizeV Tryz.prog 131 = some 2 := by kernel_rfl
@[simp] theorem bytes_131 : bytesV Tryz.prog 131 = some 32 := by kernel_rfl
@[simp] theorem zero_131 : zeroV Tryz.prog 131 = some (.agg [.int .u32 0, .nilslice]) := by kernel_rfl
attribute [simp] Tryz.underlying131
@[simp] theorem agg_132 : isAggV Tryz.prog 132 = some true := by kernel_rfl
@[simp] theorem size_132 : sizeV Tryz.prog 132 = some 2 := by kernel_rfl
@[simp] theorem bytes_132 : bytesV Tryz.prog 132 = some 32 := by kernel_rfl
@[simp] theorem zero_132 : zeroV Tryz.prog 132 = some (.agg [.int .u32 0, .nilslice]) := by kernel_rfl
attribute [simp] Tryz.underlying132
@[simp] theorem agg_133 : isAggV Tryz.prog 133 = some false := by kernel_rfl
@[simp] theorem size_133 : sizeV Tryz.prog 133 = some 1 := by kernel_rfl
@[simp] theorem bytes_133 : bytesV Tryz.prog 133 = some 0 := by kernel_rfl
attribute [simp] Tryz.underlying133
@[simp] theorem agg_134 : isAggV Tryz.prog 134 = some false := by kernel_rfl
@[simp] theorem size_134 : sizeV Tryz.prog 134 = some 1 := by kernel_rfl
@[simp] theorem bytes_134 : bytesV Tryz.prog 134 = some 8 := by kernel_rfl
attribute [simp] Tryz.underlying134
@[simp] theorem agg_135 : isAggV Tryz.prog 135 = some false := by kernel_rfl
@[simp] theorem size_135 : sizeV Tryz.prog 135 = some 1 := by kernel_rfl
@[simp] theorem bytes_135 : bytesV Tryz.prog 135 = some 8 := by kernel_rfl
attribute [simp] Tryz.underlying135
@[simp] theorem agg_136 : isAggV Tryz.prog 136 = some true := by kernel_rfl
@[simp] theorem size_136 : sizeV Tryz.prog 136 = some 2 := by kernel_rfl
@[simp] theorem bytes_136 : bytesV Tryz.prog 136 = some 8 := by kernel_rfl
@[simp] theorem zero_136 : zeroV Tryz.prog 136 = some (.agg [.int .u8 0, .int .u32 0]) := by kernel_rfl
attribute [simp] Tryz.underlying136
@[simp] theorem agg_137 : isAggV Tryz.prog 137 = some true := by kernel_rfl
@[simp] theorem size_137 : sizeV Tryz.prog 137 = some 2 := by kernel_rfl
@[simp] theorem bytes_137 : bytesV Tryz.prog 137 = some 8 := by kernel_rfl
@[simp] theorem zero_137 : zeroV Tryz.prog 137 = some (.agg [.int .u8 0, .int .u32 0]) := by kernel_rfl
attribute [simp] Tryz.underlying137
@[simp] theorem agg_138 : isAggV Tryz.prog 138 = some false := by kernel_rfl
@[simp] theorem size_138 : sizeV Tryz.prog 138 = some 1 := by kernel_rfl
@[simp] theorem bytes_138 : bytesV Tryz.prog 138 = some 8 := by kernel_rfl
attribute [simp] Tryz.underlying138
@[simp] theorem agg_139 : isAggV Tryz.prog 139 = some false := by kernel_rfl
@[simp] theorem size_139 : sizeV Tryz.prog 139 = some 1 := by kernel_rfl
@[simp] theorem bytes_139 : bytesV Tryz.prog 139 = some 8 := by kernel_rfl
attribute [simp] Tryz.underlying139
@[simp] theorem agg_140 : isAggV Tryz.prog 140 = some true := by kernel_rfl
@[simp] theorem size_140 : sizeV Tryz.prog 140 = some 2 := by kernel_rfl
@[simp] theorem bytes_140 : bytesV Tryz.prog 140 = some 24 := by kernel_rfl
@[simp] theorem zero_140 : zeroV Tryz.prog 140 = some (.agg [.str [], .int .u32 0]) := by kernel_rfl
attribute [simp] Tryz.underlying140
@[simp] theorem agg_141 : isAggV Tryz.prog 141 = some true := by kernel_rfl
@[simp] theorem size_141 : sizeV Tryz.prog 141 = some 2 := by kernel_rfl
@[simp] theorem bytes_141 : bytesV Tryz.prog 141 = some 24 := by kernel_rfl
@[simp] theorem zero_141 : zeroV Tryz.prog 141 = some (.agg [.str [], .int .u32 0]) := by kernel_rfl
attribute [simp] Tryz.underlying141
@[simp] theorem agg_142 : isAggV Tryz.prog 142 = some false := by kernel_rfl
@[simp] theorem size_142 : sizeV Tryz.prog 142 = some 1 := by kernel_rfl
@[simp] theorem bytes_142 : bytesV Tryz.prog 142 = some 8 := by kernel_rfl
attribute [simp] Tryz.underlying142
@[simp] theorem agg_143 : isAggV Tryz.prog 143 = some false := by kernel_rfl
@[simp] theorem size_143 : sizeV Tryz.prog 143 = some 1 := by kernel_rfl
@[simp] theorem bytes_143 : bytesV Tryz.prog 143 = some 8 := by kernel_rfl
attribute [simp] Tryz.underlying143
@[simp] theorem agg_144 : isAggV Tryz.prog 144 = some false := by kernel_rfl
@[simp] theorem size_144 : sizeV Tryz.prog 144 = some 1 := by kernel_rfl
@[simp] theorem bytes_144 : bytesV Tryz.prog 144 = some 8 := by kernel_rfl
attribute [simp] Tryz.underlying144
@[simp] theorem agg_145 : isAggV Tryz.prog 145 = some false := by kernel_rfl
@[simp] theorem size_145 : sizeV Tryz.prog 145 = some 1 := by kernel_rfl
@[simp] theorem bytes_145 : bytesV Tryz.prog 145 = some 8 := by kernel_rfl
attribute [simp] Tryz.underlying145
@[simp] theorem agg_146 : isAggV Tryz.prog 146 = some true := by kernel_rfl
@[simp] theorem size_146 : sizeV Tryz.prog 146 = some 4 := by kernel_rfl
@[simp] theorem bytes_146 : bytesV Tryz.prog 146 = some 24 := by kernel_rfl
@[simp] theorem zero_146 : zeroV Tryz.prog 146 = some (.agg [.int .u32 0, .int .u32 0, .int .u32 0, .int .i64 0]) := by kernel_rfl
attribute [simp] Tryz.underlying146
@[simp] theorem agg_147 : isAggV Tryz.prog 147 = some true := by kernel_rfl
@[simp] theorem size_147 : sizeV Tryz.prog 147 = some 4 := by kernel_rfl
@[simp] theorem bytes_147 : bytesV Tryz.prog 147 = some 24 := by kernel_rfl
@[simp] theorem zero_147 : zeroV Tryz.prog 147 = some (.agg [.int .u32 0, .int .u32 0, .int .u32 0, .int .i64 0]) := by kernel_rfl
attribute [simp] Tryz.underlying147
@[simp] theorem agg_148 : isAggV Tryz.prog 148 = some false := by kernel_rfl
@[simp] theorem size_148 : sizeV Tryz.prog 148 = some 1 := by kernel_rfl
@[simp] theorem bytes_148 : bytesV Tryz.prog 148 = some 0 := by kernel_rfl
attribute [simp] Tryz.underlying148
@[simp] theorem agg_149 : isAggV Tryz.prog 149 = some false := by kernel_rfl
@[simp] theorem size_149 : sizeV Tryz.prog 149 = some 1 := by kernel_rfl
@[simp] theorem bytes_149 : bytesV Tryz.prog 149 = some 8 := by kernel_rfl
attribute [simp] Tryz.underlying149
@[simp] theorem agg_150 : isAggV Tryz.prog 150 = some false := by kernel_rfl
@[simp] theorem size_150 : sizeV Tryz.prog 150 = some 1 := by kernel_rfl
@[simp] theorem bytes_150 : bytesV Tryz.prog 150 = some 0 := by kernel_rfl
attribute [simp] Tryz.underlying150
@[simp] theorem agg_151 : isAggV Tryz.prog 151 = some false := by kernel_rfl
@[simp] theorem size_151 : sizeV Tryz.prog 151 = some 1 := by kernel_rfl
@[simp] theorem bytes_151 : bytesV Tryz.prog 151 = some 8 := by kernel_rfl
attribute [simp] Tryz.underlying151
@[simp] theorem agg_152 : isAggV Tryz.prog 152 = some false := by kernel_rfl
@[simp] theorem size_152 : sizeV Tryz.prog 152 = some 1 := by kernel_rfl
@[simp] theorem bytes_152 : bytesV Tryz.prog 152 = some 8 := by kernel_rfl
attribute [simp] Tryz.underlying152
@[simp] theorem agg_153 : isAggV Tryz.prog 153 = some false := by kernel_rfl
@[simp] theorem size_153 : sizeV Tryz.prog 153 = some 1 := by kernel_rfl
@[simp] theorem bytes_153 : bytesV Tryz.prog 153 = some 8 := by kernel_rfl
attribute [simp] Tryz.underlying153
@[simp] theorem agg_154 : isAggV Tryz.prog 154 = some false := by kernel_rfl
@[simp] theorem size_154 : sizeV Tryz.prog 154 = some 1 := by kernel_rfl
@[simp] theorem bytes_154 : bytesV Tryz.prog 154 = some 8 := by kernel_rfl
attribute [simp] Tryz.underlying154
@[simp] theorem agg_155 : isAggV Tryz.prog 155 = some false := by kernel_rfl
@[simp] theorem size_155 : sizeV Tryz.prog 155 = some 1 := by kernel_rfl
@[simp] theorem bytes_155 : bytesV Tryz.prog 155 = some 8 := by kernel_rfl
attribute [simp] Tryz.underlying155
@[simp] theorem agg_156 : isAggV Tryz.prog 156 = some false := by kernel_rfl
@[simp] theorem size_156 : sizeV Tryz.prog 156 = some 1 := by kernel_rfl
@[simp] theorem bytes_156 : bytesV Tryz.prog 156 = some 0 := by kernel_rfl
attribute [simp] Tryz.underlying156
@[simp] theorem agg_157 : isAggV Tryz.prog 157 = some false := by kernel_rfl
@[simp] theorem size_157 : sizeV Tryz.prog 157 = some 1 := by kernel_rfl
@[simp] theorem bytes_157 : bytesV Tryz.prog 157 = some 8 := by kernel_rfl
attribute [simp] Tryz.underlying157
@[simp] theorem agg_158 : isAggV Tryz.prog 158 = some false := by kernel_rfl
@[simp] theorem size_158 : sizeV Tryz.prog 158 = some 1 := by kernel_rfl
@[simp] theorem bytes_158 : bytesV Tryz.prog 158 = some 0 := by kernel_rfl
attribute [simp] Tryz.underlying158
@[simp] theorem agg_159 : isAggV Tryz.prog 159 = some false := by kernel_rfl
@[simp] theorem size_159 : sizeV Tryz.prog 159 = some 1 := by kernel_rfl
@[simp] theorem bytes_159 : bytesV Tryz.prog 159 = some 8 := by kernel_rfl
attribute [simp] Tryz.underlying159
@[simp] theorem agg_160 : isAggV Tryz.prog 160 = some false := by kernel_rfl
@[simp] theorem size_160 : sizeV Tryz.prog 160 = some 1 := by kernel_rfl
@[simp] theorem bytes_160 : bytesV Tryz.prog 160 = some 8 := by kernel_rfl
attribute [simp] Tryz.underlying160
@[simp] theorem agg_161 : isAggV Tryz.prog 161 = some false := by kernel_rfl
@[simp] theorem size_161 : sizeV Tryz.prog 161 = some 1 := by kernel_rfl
@[simp] theorem bytes_161 : bytesV Tryz.prog 161 = some 8 := by kernel_rfl
attribute [simp] Tryz.underlying161
@[simp] theorem agg_162 : isAggV Tryz.prog 162 = some false := by kernel_rfl
@[simp] theorem size_162 : sizeV Tryz.prog 162 = some 1 := by kernel_rfl
@[simp] theorem bytes_162 : bytesV Tryz.prog 162 = some 0 := by kernel_rfl
attribute [simp] Tryz.underlying162
@[simp] theorem agg_163 : isAggV Tryz.prog 163 = some false := by kernel_rfl
@[simp] theorem size_163 : sizeV Tryz.prog 163 = some 1 := by kernel_rfl
@[simp] theorem bytes_163 : bytesV Tryz.prog 163 = some 8 := by kernel_rfl
attribute [simp] Tryz.underlying163
@[simp] theorem agg_164 : isAggV Tryz.prog 164 = some true := by kernel_rfl
@[simp] theorem size_164 : sizeV Tryz.prog 164 = some 3 := by kernel_rfl
@[simp] theorem bytes_164 : bytesV Tryz.prog 164 = some 56 := by kernel_rfl
@[simp] theorem zero_164 : zeroV Tryz.prog 164 = some (.agg [.nilslice, .bool false, .nilslice]) := by kernel_rfl
attribute [simp] Tryz.underlying164
@[simp] theorem agg_165 : isAggV Tryz.prog 165 = some true := by kernel_rfl
@[simp] theorem size_165 : sizeV Tryz.prog 165 = some 3 := by kernel_rfl
@[simp] theorem bytes_165 : bytesV Tryz.prog 165 = some 56 := by kernel_rfl
@[simp] theorem zero_165 : zeroV Tryz.prog 165 = some (.agg [.nilslice, .bool false, .nilslice]) := by kernel_rfl
attribute [simp] Tryz.underlying165
@[simp] theorem agg_166 : isAggV Tryz.prog 166 = some false := by kernel_rfl
@[simp] theorem size_166 : sizeV Tryz.prog 166 = some 1 := by kernel_rfl
@[simp] theorem bytes_166 : bytesV Tryz.prog 166 = some 8 := by kernel_rfl
attribute [simp] Tryz.underlying166
@[simp] theorem agg_167 : isAggV Tryz.prog 167 = some false := by kernel_rfl
@[simp] theorem size_167 : sizeV Tryz.prog 167 = some 1 := by kernel_rfl
@[simp] theorem bytes_167 : bytesV Tryz.prog 167 = some 0 := by kernel_rfl
attribute [simp] Tryz.underlying167
@[simp] theorem agg_168 : isAggV Tryz.prog 168 = some false := by kernel_rfl
@[simp] theorem size_168 : sizeV Tryz.prog 168 = some 1 := by kernel_rfl
@[simp] theorem bytes_168 : bytesV Tryz.prog 168 = some 8 := by kernel_rfl
attribute [simp] Tryz.underlying168
@[simp] theorem agg_169 : isAggV Tryz.prog 169 = some true := by kernel_rfl
@[simp] theorem size_169 : sizeV Tryz.prog 169 = some 2 := by kernel_rfl
@[simp] theorem bytes_169 : bytesV Tryz.prog 169 = some 32 := by kernel_rfl
@[simp] theorem zero_169 : zeroV Tryz.prog 169 = some (.agg [.int .u32 0, .nilslice]) := by kernel_rfl
attribute [simp] Tryz.underlying169
@[simp] theorem agg_170 : isAggV Tryz.prog 170 = some true := by kernel_rfl
@[simp] theorem size_170 : sizeV Tryz.prog 170 = some 2 := by kernel_rfl
@[simp] theorem bytes_170 : bytesV Tryz.prog 170 = some 32 := by kernel_rfl
@[simp] theorem zero_170 : zeroV Tryz.prog 170 = some (.agg [.int .u32 0, .nilslice]) := by kernel_rfl
attribute [simp] Tryz.underlying170
@[simp] theorem agg_171 : isAggV Tryz.prog 171 = some false := by kernel_rfl
@[simp] theorem size_171 : sizeV Tryz.prog 171 = some 1 := by kernel_rfl
@[simp] theorem bytes_171 : bytesV Tryz.prog 171 = some 0 := by kernel_rfl
attribute [simp] Tryz.underlying171
@[simp] theorem agg_172 : isAggV Tryz.prog 172 = some false := by kernel_rfl
@[simp] theorem size_172 : sizeV Tryz.prog 172 = some 1 := by kernel_rfl
@[simp] theorem bytes_172 : bytesV Tryz.prog 172 = some 8 := by kernel_rfl
attribute [simp] Tryz.underlying172
@[simp] theorem agg_173 : isAggV Tryz.prog 173 = some false := by kernel_rfl
@[simp] theorem size_173 : sizeV Tryz.prog 173 = some 1 := by kernel_rfl
@[simp] theorem bytes_173 : bytesV Tryz.prog 173 = some 8 := by kernel_rfl
attribute [simp] Tryz.underlying173
@[simp] theorem agg_174 : isAggV Tryz.prog 174 = some false := by kernel_rfl
@[simp] theorem size_174 : sizeV Tryz.prog 174 = some 1 := by kernel_rfl
@[simp] theorem bytes_174 : bytesV Tryz.prog 174 = some 8 := by kernel_rfl
attribute [simp] Tryz.underlying174
@[simp] theorem agg_175 : isAggV Tryz.prog 175 = some false := by kernel_rfl
@[simp] theorem size_175 : sizeV Tryz.prog 175 = some 1 := by kernel_rfl
@[simp] theorem bytes_175 : bytesV Tryz.prog 175 = some 8 := by kernel_rfl
attribute [simp] Tryz.underlying175
@[simp] theorem agg_176 : isAggV Tryz.prog 176 = some false := by kernel_rfl
@[simp] theorem size_176 : sizeV Tryz.prog 176 = some 1 := by kernel_rfl
@[simp] theorem bytes_176 : bytesV Tryz.prog 176 = some 8 := by kernel_rfl
attribute [simp] Tryz.underlying176
@[simp] theorem agg_177 : isAggV Tryz.prog 177 = some false := by kernel_rfl
@[simp] theorem size_177 : sizeV Tryz.prog 177 = some 1 := by kernel_rfl
@[simp] theorem bytes_177 : bytesV Tryz.prog 177 = some 1 := by kernel_rfl
@[simp] theorem zero_177 : zeroV Tryz.prog 177 = some (.int .i8 0) := by kernel_rfl
attribute [simp] Tryz.underlying177
@[simp] theorem agg_178 : isAggV Tryz.prog 178 = some false := by kernel_rfl
@[simp] theorem size_178 : sizeV Tryz.prog 178 = some 1 := by kernel_rfl
@[simp] theorem bytes_178 : bytesV Tryz.prog 178 = some 2 := by kernel_rfl
@[simp] theorem zero_178 : zeroV Tryz.prog 178 = some (.int .i16 0) := by kernel_rfl
attribute [simp] Tryz.underlying178
@[simp] theorem agg_179 : isAggV Tryz.prog 179 = some false := by kernel_rfl
@[simp] theorem size_179 : sizeV Tryz.prog 179 = some 1 := by kernel_rfl
@[simp] theorem bytes_179 : bytesV Tryz.prog 179 = some 8 := by kernel_rfl
attribute [simp] Tryz.underlying179
@[simp] theorem agg_180 : isAggV Tryz.prog 180 = some false := by kernel_rfl
@[simp] theorem size_180 : sizeV Tryz.prog 180 = some 1 := by kernel_rfl
@[simp] theorem bytes_180 : bytesV Tryz.prog 180 = some 8 := by kernel_rfl
attribute [simp] Tryz.underlying180
@[simp] theorem agg_181 : isAggV Tryz.prog 181 = some false := by kernel_rfl
@[simp] theorem size_181 : sizeV Tryz.prog 181 = some 1 := by kernel_rfl
@[simp] theorem bytes_181 : bytesV Tryz.prog 181 = some 8 := by kernel_rfl
attribute [simp] Tryz.underlying181
@[simp] theorem agg_182 : isAggV Tryz.prog 182 = some false := by kernel_rfl
@[simp] theorem size_182 : sizeV Tryz.prog 182 = some 1 := by kernel_rfl
@[simp] theorem bytes_182 : bytesV Tryz.prog 182 = some 1 := by kernel_rfl
@[simp] theorem zero_182 : zeroV Tryz.prog 182 = some (.int .u8 0) := by kernel_rfl
attribute [simp] Tryz.underlying182
@[simp] theorem agg_183 : isAggV Tryz.prog 183 = some false := by kernel_rfl
@[simp] theorem size_183 : sizeV Tryz.prog 183 = some 1 := by kernel_rfl
@[simp] theorem bytes_183 : bytesV Tryz.prog 183 = some 8 := by kernel_rfl
attribute [simp] Tryz.underlying183
@[simp] theorem agg_184 : isAggV Tryz.prog 184 = some true := by kernel_rfl
@[simp] theorem size_184 : sizeV Tryz.prog 184 = some 4 := by kernel_rfl
@[simp] theorem bytes_184 : bytesV Tryz.prog 184 = some 4 := by kernel_rfl
@[simp] theorem zero_184 : zeroV Tryz.prog 184 = some (.agg [.int .u8 0, .int .u8 0, .int .u8 0, .int .u8 0]) := by kernel_rfl
attribute [simp] Tryz.underlying184
@[simp] theorem agg_185 : isAggV Tryz.prog 185 = some false := by kernel_rfl
@[simp] theorem size_185 : sizeV Tryz.prog 185 = some 1 := by kernel_rfl
@[simp] theorem bytes_185 : bytesV Tryz.prog 185 = some 8 := by kernel_rfl
attribute [simp] Tryz.underlying185
@[simp] theorem agg_186 : isAggV Tryz.prog 186 = some false := by kernel_rfl
@[simp] theorem size_186 : sizeV Tryz.prog 186 = some 1 := by kernel_rfl
@[simp] theorem bytes_186 : bytesV Tryz.prog 186 = some 8 := by kernel_rfl
attribute [simp] Tryz.underlying186
@[simp] theorem agg_187 : isAggV Tryz.prog 187 = some false := by kernel_rfl
@[simp] theorem size_187 : sizeV Tryz.prog 187 = some 1 := by kernel_rfl
@[simp] theorem bytes_187 : bytesV Tryz.prog 187 = some 8 := by kernel_rfl
@[simp] theorem zero_187 : zeroV Tryz.prog 187 = some (.int .u64 0) := by kernel_rfl
attribute [simp] Tryz.underlying187
@[simp] theorem agg_188 : isAggV Tryz.prog 188 = some false := by kernel_rfl
@[simp] theorem size_188 : sizeV Tryz.prog 188 = some 1 := by kernel_rfl
@[simp] theorem bytes_188 : bytesV Tryz.prog 188 = some 8 := by kernel_rfl
attribute [simp] Tryz.underlying188
@[simp] theorem agg_189 : isAggV Tryz.prog 189 = some false := by kernel_rfl
@[simp] theorem size_189 : sizeV Tryz.prog 189 = some 1 := by kernel_rfl
@[simp] theorem bytes_189 : bytesV Tryz.prog 189 = some 8 := by kernel_rfl
attribute [simp] Tryz.underlying189
@[simp] theorem agg_190 : isAggV Tryz.prog 190 = some false := by kernel_rfl
@[simp] theorem size_190 : sizeV Tryz.prog 190 = some 1 := by kernel_rfl
@[simp] theorem bytes_190 : bytesV Tryz.prog 190 = some 8 := by kernel_rfl
attribute [simp] Tryz.underlying190
@[simp] theorem agg_191 : isAggV Tryz.prog 191 = some false := by kernel_rfl
@[simp] theorem size_191 : sizeV Tryz.prog 191 = some 1 := by kernel_rfl
@[simp] theorem bytes_191 : bytesV Tryz.prog 191 = some 8 := by kernel_rfl
attribute [simp] Tryz.underlying191
@[simp] theorem agg_192 : isAggV Tryz.prog 192 = some false := by kernel_rfl
@[simp] theorem size_192 : sizeV Tryz.prog 192 = some 1 := by kernel_rfl
@[simp] theorem bytes_192 : bytesV Tryz.prog 192 = some 8 := by kernel_rfl
attribute [simp] Tryz.underlying192
@[simp] theorem agg_193 : isAggV Tryz.prog 193 = some false := by kernel_rfl
@[simp] theorem size_193 : sizeV Tryz.prog 193 = some 1 := by kernel_rfl
@[simp] theorem bytes_193 : bytesV Tryz.prog 193 = some 8 := by kernel_rfl
attribute [simp] Tryz.underlying193
@[simp] theorem agg_194 : isAggV Tryz.prog 194 = some false := by kernel_rfl
@[simp] theorem size_194 : sizeV Tryz.prog 194 = some 1 := by kernel_rfl
@[simp] theorem bytes_194 : bytesV Tryz.prog 194 = some 4 := by kernel_rfl
@[simp] theorem zero_194 : zeroV Tryz.prog 194 = some (.float .f32 0) := by kernel_rfl
attribute [simp] Tryz.underlying194
@[simp] theorem agg_195 : isAggV Tryz.prog 195 = some false := by kernel_rfl
@[simp] theorem size_195 : sizeV Tryz.prog 195 = some 1 := by kernel_rfl
@[simp] theorem bytes_195 : bytesV Tryz.prog 195 = some 8 := by kernel_rfl
attribute [simp] Tryz.underlying195
@[simp] theorem agg_196 : isAggV Tryz.prog 196 = some false := by kernel_rfl
@[simp] theorem size_196 : sizeV Tryz.prog 196 = some 1 := by kernel_rfl
@[simp] theorem bytes_196 : bytesV Tryz.prog 196 = some 8 := by kernel_rfl
attribute [simp] Tryz.underlying196
@[simp] theorem agg_197 : isAggV Tryz.prog 197 = some true := by kernel_rfl
@[simp] theorem size_197 : sizeV Tryz.prog 197 = some 2 := by kernel_rfl
@[simp] theorem bytes_197 : bytesV Tryz.prog 197 = some 8 := by kernel_rfl
@[simp] theorem zero_197 : zeroV Tryz.prog 197 = some (.agg [.int .u32 0, .bool false]) := by kernel_rfl
attribute [simp] Tryz.underlying197
@[simp] theorem agg_198 : isAggV Tryz.prog 198 = some true := by kernel_rfl
@[simp] theorem size_198 : sizeV Tryz.prog 198 = some 2 := by kernel_rfl
@[simp] theorem bytes_198 : bytesV Tryz.prog 198 = some 8 := by kernel_rfl
@[simp] theorem zero_198 : zeroV Tryz.prog 198 = some (.agg [.int .u32 0, .bool false]) := by kernel_rfl
attribute [simp] Tryz.underlying198
@[simp] theorem agg_199 : isAggV Tryz.prog 199 = some false := by kernel_rfl
@[simp] theorem size_199 : sizeV Tryz.prog 199 = some 1 := by kernel_rfl
@[simp] theorem bytes_199 : bytesV Tryz.prog 199 = some 24 := by kernel_rfl
@[simp] theorem zero_199 : zeroV Tryz.prog 199 = some (.nilslice) := by kernel_rfl
attribute [simp] Tryz.underlying199
@[simp] theorem agg_200 : isAggV Tryz.prog 200 = some false := by kernel_rfl
@[simp] theorem size_200 : sizeV Tryz.prog 200 = some 1 := by kernel_rfl
@[simp] theorem bytes_200 : bytesV Tryz.prog 200 = some 24 := by kernel_rfl
@[simp] theorem zero_200 : zeroV Tryz.prog 200 = some (.nilslice) := by kernel_rfl
attribute [simp] Tryz.underlying200
@[simp] theorem agg_201 : isAggV Tryz.prog 201 = some true := by kernel_rfl
@[simp] theorem size_201 : sizeV Tryz.prog 201 = some 3 := by kernel_rfl
@[simp] theorem bytes_201 : bytesV Tryz.prog 201 = some 72 := by kernel_rfl
@[simp] theorem zero_201 : zeroV Tryz.prog 201 = some (.agg [.nilslice, .nilslice, .nilslice]) := by kernel_rfl
attribute [simp] Tryz.underlying201
@[simp] theorem agg_202 : isAggV Tryz.prog 202 = some true := by kernel_rfl
@[simp] theorem size_202 : sizeV Tryz.prog 202 = some 3 := by kernel_rfl
@[simp] theorem bytes_202 : bytesV Tryz.prog 202 = some 72 := by kernel_rfl
@[simp] theorem zero_202 : zeroV Tryz.prog 202 = some (.agg [.nilslice, .nilslice, .nilslice]) := by kernel_rfl
attribute [simp] Tryz.underlying202
@[simp] theorem agg_203 : isAggV Tryz.prog 203 = some false := by kernel_rfl
@[simp] theorem size_203 : sizeV Tryz.prog 203 = some 1 := by kernel_rfl
@[simp] theorem bytes_203 : bytesV Tryz.prog 203 = some 8 := by kernel_rfl
attribute [simp] Tryz.underlying203
@[simp] theorem agg_204 : isAggV Tryz.prog 204 = some false := by kernel_rfl
@[simp] theorem size_204 : sizeV Tryz.prog 204 = some 1 := by kernel_rfl
@[simp] theorem bytes_204 : bytesV Tryz.prog 204 = some 8 := by kernel_rfl
attribute [simp] Tryz.underlying204
@[simp] theorem agg_205 : isAggV Tryz.prog 205 = some false := by kernel_rfl
@[simp] theorem size_205 : sizeV Tryz.prog 205 = some 1 := by kernel_rfl
@[simp] theorem bytes_205 : bytesV Tryz.prog 205 = some 8 := by kernel_rfl
attribute [simp] Tryz.underlying205
@[simp] theorem agg_206 : isAggV Tryz.prog 206 = some true := by kernel_rfl
@[simp] theorem size_206 : sizeV Tryz.prog 206 = some 4 := by kernel_rfl
@[simp] theorem bytes_206 : bytesV Tryz.prog 206 = some 40 := by kernel_rfl
@[simp] theorem zero_206 : zeroV Tryz.prog 206 = some (.agg [.nilptr, .nilptr, .nilptr, .str []]) := by kernel_rfl
attribute [simp] Tryz.underlying206
@[simp] theorem agg_207 : isAggV Tryz.prog 207 = some true := by kernel_rfl
@[simp] theorem size_207 : sizeV Tryz.prog 207 = some 4 := by kernel_rfl
@[simp] theorem bytes_207 : bytesV Tryz.prog 207 = some 40 := by kernel_rfl
@[simp] theorem zero_207 : zeroV Tryz.prog 207 = some (.agg [.nilptr, .nilptr, .nilptr, .str []]) := by kernel_rfl
attribute [simp] Tryz.underlying207
@[simp] theorem agg_208 : isAggV Tryz.prog 208 = some true := by kernel_rfl
@[simp] theorem size_208 : sizeV Tryz.prog 208 = some 0 := by kernel_rfl
@[simp] theorem bytes_208 : bytesV Tryz.prog 208 = some 0 := by kernel_rfl
@[simp] theorem zero_208 : zeroV Tryz.prog 208 = some (.agg []) := by kernel_rfl
attribute [simp] Tryz.underlying208
@[simp] theorem agg_209 : isAggV Tryz.prog 209 = some true := by kernel_rfl
@[simp] theorem size_209 : sizeV Tryz.prog 209 = some 0 := by kernel_rfl
@[simp] theorem bytes_209 : bytesV Tryz.prog 209 = some 0 := by kernel_rfl
@[simp] theorem zero_209 : zeroV Tryz.prog 209 = some (.agg []) := by kernel_rfl
attribute [simp] Tryz.underlying209
@[simp] theorem agg_210 : isAggV Tryz.prog 210 = some true := by kernel_rfl
@[simp] theorem size_210 : sizeV Tryz.prog 210 = some 0 := by kernel_rfl
@[simp] theorem bytes_210 : bytesV Tryz.prog 210 = some 0 := by kernel_rfl
@[simp] theorem zero_210 : zeroV Tryz.prog 210 = some (.agg []) := by kernel_rfl
attribute [simp] Tryz.underlying210
@[simp] theorem agg_211 : isAggV Tryz.prog 211 = some false := by kernel_rfl
@[simp] theorem size_211 : sizeV Tryz.prog 211 = some 1 := by kernel_rfl
@[simp] theorem bytes_211 : bytesV Tryz.prog 211 = some 1 := by kernel_rfl
@[simp] theorem zero_211 : zeroV Tryz.prog 211 = some (.int .u8 0) := by kernel_rfl
attribute [simp] Tryz.underlying211
@[simp] theorem agg_212 : isAggV Tryz.prog 212 = some false := by kernel_rfl
@[simp] theorem size_212 : sizeV Tryz.prog 212 = some 1 := by kernel_rfl
@[simp] theorem bytes_212 : bytesV Tryz.prog 212 = some 1 := by kernel_rfl
@[simp] theorem zero_212 : zeroV Tryz.prog 212 = some (.int .u8 0) := by kernel_rfl
attribute [simp] Tryz.underlying212
@[simp] theorem agg_213 : isAggV Tryz.prog 213 = some false := by kernel_rfl
@[simp] theorem size_213 : sizeV Tryz.prog 213 = some 1 := by kernel_rfl
@[simp] theorem bytes_213 : bytesV Tryz.prog 213 = some 8 := by kernel_rfl
attribute [simp] Tryz.underlying213
@[simp] theorem agg_214 : isAggV Tryz.prog 214 = some false := by kernel_rfl
@[simp] theorem size_214 : sizeV Tryz.prog 214 = some 1 := by kernel_rfl
@[simp] theorem bytes_214 : bytesV Tryz.prog 214 = some 8 := by kernel_rfl
@[simp] theorem zero_214 : zeroV Tryz.prog 214 = some (.nilptr) := by kernel_rfl
attribute [simp] Tryz.underlying214
@[simp] theorem agg_215 : isAggV Tryz.prog 215 = some false := by kernel_rfl
@[simp] theorem size_215 : sizeV Tryz.prog 215 = some 1 := by kernel_rfl
@[simp] theorem bytes_215 : bytesV Tryz.prog 215 = some 4 := by kernel_rfl
@[simp] theorem zero_215 : zeroV Tryz.prog 215 = some (.int .i32 0) := by kernel_rfl
attribute [simp] Tryz.underlying215
@[simp] theorem agg_216 : isAggV Tryz.prog 216 = some false := by kernel_rfl
@[simp] theorem size_216 : sizeV Tryz.prog 216 = some 1 := by kernel_rfl
@[simp] theorem bytes_216 : bytesV Tryz.prog 216 = some 4 := by kernel_rfl
@[simp] theorem zero_216 : zeroV Tryz.prog 216 = some (.int .i32 0) := by kernel_rfl
attribute [simp] Tryz.underlying216
@[simp] theorem agg_217 : isAggV Tryz.prog 217 = some true := by kernel_rfl
@[simp] theorem size_217 : sizeV Tryz.prog 217 = some 11 := by kernel_rfl
@[simp] theorem bytes_217 : bytesV Tryz.prog 217 = some 48 := by kernel_rfl
@[simp] theorem zero_217 : zeroV Tryz.prog 217 = some (.agg [.int .u64 0, .int .u64 0, .int .u32 0, .int .u8 0, .int .u8 0, .int .u8 0, .int .u8 0, .nilfunc, .nilptr, .int .i32 0, .int .i32 0]) := by kernel_rfl
attribute [simp] Tryz.underlying217
@[simp] theorem agg_218 : isAggV Tryz.prog 218 = some true := by kernel_rfl
@[simp] theorem size_218 : sizeV Tryz.prog 218 = some 11 := by kernel_rfl
@[simp] theorem bytes_218 : bytesV Tryz.prog 218 = some 48 := by kernel_rfl
@[simp] theorem zero_218 : zeroV Tryz.prog 218 = some (.agg [.int .u64 0, .int .u64 0, .int .u32 0, .int .u8 0, .int .u8 0, .int .u8 0, .int .u8 0, .nilfunc, .nilptr, .int .i32 0, .int .i32 0]) := by kernel_rfl
attribute [simp] Tryz.underlying218
@[simp] theorem agg_219 : isAggV Tryz.prog 219 = some false := by kernel_rfl
@[simp] theorem size_219 : sizeV Tryz.prog 219 = some 1 := by kernel_rfl
@[simp] theorem bytes_219 : bytesV Tryz.prog 219 = some 8 := by kernel_rfl
attribute [simp] Tryz.underlying219
@[simp] theorem agg_220 : isAggV Tryz.prog 220 = some false := by kernel_rfl
@[simp] theorem size_220 : sizeV Tryz.prog 220 = some 1 := by kernel_rfl
@[simp] theorem bytes_220 : bytesV Tryz.prog 220 = some 8 := by kernel_rfl
attribute [simp] Tryz.underlying220
@[simp] theorem agg_221 : isAggV Tryz.prog 221 = some false := by kernel_rfl
@[simp] theorem size_221 : sizeV Tryz.prog 221 = some 1 := by kernel_rfl
@[simp] theorem bytes_221 : bytesV Tryz.prog 221 = some 8 := by kernel_rfl
attribute [simp] Tryz.underlying221
@[simp] theorem agg_222 : isAggV Tryz.prog 222 = some false := by kernel_rfl
@[simp] theorem size_222 : sizeV Tryz.prog 222 = some 1 := by kernel_rfl
@[simp] theorem bytes_222 : bytesV Tryz.prog 222 = some 0 := by kernel_rfl
attribute [simp] Tryz.underlying222
@[simp] theorem agg_223 : isAggV Tryz.prog 223 = some false := by kernel_rfl
@[simp] theorem size_223 : sizeV Tryz.prog 223 = some 1 := by kernel_rfl
@[simp] theorem bytes_223 : bytesV Tryz.prog 223 = some 8 := by kernel_rfl
attribute [simp] Tryz.underlying223
@[simp] theorem agg_224 : isAggV Tryz.prog 224 = some false := by kernel_rfl
@[simp] theorem size_224 : sizeV Tryz.prog 224 = some 1 := by kernel_rfl
@[simp] theorem bytes_224 : bytesV Tryz.prog 224 = some 8 := by kernel_rfl
attribute [simp] Tryz.underlying224
@[simp] theorem agg_225 : isAggV Tryz.prog 225 = some false := by kernel_rfl
@[simp] theorem size_225 : sizeV Tryz.prog 225 = some 1 := by kernel_rfl
@[simp] theorem bytes_225 : bytesV Tryz.prog 225 = some 8 := by kernel_rfl
attribute [simp] Tryz.underlying225
@[simp] theorem agg_226 : isAggV Tryz.prog 226 = some false := by kernel_rfl
@[simp] theorem size_226 : sizeV Tryz.prog 226 = some 1 := by kernel_rfl
@[simp] theorem bytes_226 : bytesV Tryz.prog 226 = some 8 := by kernel_rfl
attribute [simp] Tryz.underlying226
@[simp] theorem agg_227 : isAggV Tryz.prog 227 = some false := by kernel_rfl
@[simp] theorem size_227 : sizeV Tryz.prog 227 = some 1 := by kernel_rfl
@[simp] theorem bytes_227 : bytesV Tryz.prog 227 = some 0 := by kernel_rfl
attribute [simp] Tryz.underlying227
@[simp] theorem agg_228 : isAggV Tryz.prog 228 = some false := by kernel_rfl
@[simp] theorem size_228 : sizeV Tryz.prog 228 = some 1 := by kernel_rfl
@[simp] theorem bytes_228 : bytesV Tryz.prog 228 = some 8 := by kernel_rfl
attribute [simp] Tryz.underlying228
@[simp] theorem agg_229 : isAggV Tryz.prog 229 = some false := by kernel_rfl
@[simp] theorem size_229 : sizeV Tryz.prog 229 = some 1 := by kernel_rfl
@[simp] theorem bytes_229 : bytesV Tryz.prog 229 = some 8 := by kernel_rfl
@[simp] theorem zero_229 : zeroV Tryz.prog 229 = some (.nilptr) := by kernel_rfl
attribute [simp] Tryz.underlying229

/-! 2: gosem.cut.init -/
attribute [simp] Tryz.results2
theorem pu_2 {lent : Bool} {args : List V} {r : V} (hr : evK E (om E) 2 [] (Tryz.f2.body.getD .skip) (endK Tryz.prog Tryz.f2.results.toList (pureFin lent)) (args ++ pois (1 - args.length)) [[]] = some r) : pureV E (om E) 2 lent args = some r := pureV_of (dyn := []) rfl (by rw [E_P]; exact Tryz.func2) (by unfold Tryz.f2; rfl) (by kernel_rfl) (by rw [Tryz.ntmps2]; exact hr)
@[simp] theorem call_2 (args : List V) (h : Heap) : callV E (om E) 2 args h = (viewArgs h args).bind fun a => (pureV E (om E) 2 (!V.flatL args) a).map fun r => (r, h) := callV_pure rfl rfl args h

/-! 3: playpen/playpenlaw25.UndoNone -/
attribute [simp] Tryz.results3
theorem pu_3 {lent : Bool} {args : List V} {r : V} (hr : evK E (om E) 3 [] (Tryz.f3.body.getD .skip) (endK Tryz.prog Tryz.f3.results.toList (pureFin lent)) (args ++ pois (110 - args.length)) [[]] = some r) : pureV E (om E) 3 lent args = some r := pureV_of (dyn := []) rfl (by rw [E_P]; exact Tryz.func3) (by unfold Tryz.f3; rfl) (by kernel_rfl) (by rw [Tryz.ntmps3]; exact hr)
@[simp] theorem call_3 (args : List V) (h : Heap) : callV E (om E) 3 args h = (viewArgs h args).bind fun a => (pureV E (om E) 3 (!V.flatL args) a).map fun r => (r, h) := callV_pure rfl rfl args h
@[simp] theorem hint_3_0 : E.hint 3 9 = [.forget 6, .forget 15, .forget 16, .forget 17, .forget 45, .forget 46, .forget 47, .forget 48, .forget 49, .forget 50, .forget 51, .forget 52, .forget 53, .forget 54, .forget 55, .forget 56, .forget 57, .forget 58, .forget 59, .forget 60, .forget 61, .forget 62, .forget 63, .forget 64, .forget 65, .forget 66, .forget 67, .forget 68, .forget 69, .forget 70, .forget 71, .forget 72, .forget 73, .forget 74, .forget 75, .forget 76, .forget 77, .forget 78, .forget 79, .forget 80, .forget 81, .forget 82, .forget 83, .forget 84, .forget 85, .forget 86, .forget 87, .forget 88, .forget 89, .forget 90, .forget 91, .forget 92, .forget 93, .forget 94, .forget 95, .forget 96, .forget 97, .forget 98, .forget 99, .forget 100, .forget 101, .forget 102, .forget 103, .forget 104, .forget 105, .forget 106, .forget 107, .forget 108, .forget 109] := rfl

/-! 4: playpen/undo.New -/
attribute [simp] Tryz.results4
theorem pu_4 {lent : Bool} {args : List V} {r : V} (hr : evK E (om E) 4 [] (Tryz.f4.body.getD .skip) (endK Tryz.prog Tryz.f4.results.toList (pureFin lent)) (args ++ pois (31 - args.length)) [[]] = some r) : pureV E (om E) 4 lent args = some r := pureV_of (dyn := []) rfl (by rw [E_P]; exact Tryz.func4) (by unfold Tryz.f4; rfl) (by kernel_rfl) (by rw [Tryz.ntmps4]; exact hr)
@[simp] theorem call_4 (args : List V) (h : Heap) : callV E (om E) 4 args h = (viewArgs h args).bind fun a => (pureV E (om E) 4 (!V.flatL args) a).map fun r => (r, h) := callV_pure rfl rfl args h

/-! 5: (*playpen/undo.Run).Go -/
attribute [simp] Tryz.results5
theorem pu_5 {lent : Bool} {args : List V} {r : V} (hr : evK E (om E) 5 [8, 10] (Tryz.f5.body.getD .skip) (endK Tryz.prog Tryz.f5.results.toList (pureFin lent)) (args ++ pois (105 - args.length)) [[]] = some r) : pureV E (om E) 5 lent args = some r := pureV_of (dyn := [8, 10]) rfl (by rw [E_P]; exact Tryz.func5) (by unfold Tryz.f5; rfl) (by kernel_rfl) (by rw [Tryz.ntmps5]; exact hr)
@[simp] theorem call_5 (args : List V) (h : Heap) : callV E (om E) 5 args h = (viewArgs h args).bind fun a => (pureV E (om E) 5 (!V.flatL args) a).map fun r => (r, h) := callV_pure rfl rfl args h
@[simp] theorem hint_5_0 : E.hint 5 7 = [.promoteBox 8 6 4, .forget 11, .forget 12, .forget 13, .forget 37, .forget 38, .forget 39, .forget 40, .forget 41, .forget 42, .forget 43, .forget 44, .forget 45, .forget 46, .forget 47, .forget 48, .forget 49, .forget 50, .forget 51, .forget 52, .forget 53, .forget 54, .forget 55, .forget 56, .forget 57, .forget 58, .forget 59, .forget 60, .forget 61, .forget 62, .forget 63, .forget 64, .forget 65, .forget 66, .forget 67, .forget 68, .forget 69, .forget 70, .forget 71, .forget 72, .forget 73, .forget 74, .forget 75, .forget 76, .forget 77, .forget 78, .forget 79, .forget 80, .forget 81, .forget 82, .forget 83, .forget 84, .forget 85, .forget 86, .forget 87, .forget 88, .forget 89, .forget 90, .forget 91, .forget 92, .forget 93, .forget 94, .forget 95, .forget 96, .forget 97, .forget 98, .forget 99, .forget 100, .forget 101, .forget 102] := rfl

/-! 6: playpen/playpenkit.SameResult -/
attribute [simp] Tryz.results6
theorem pu_6 {lent : Bool} {args : List V} {r : V} (hr : evK E (om E) 6 [] (Tryz.f6.body.getD .skip) (endK Tryz.prog Tryz.f6.results.toList (pureFin lent)) (args ++ pois (59 - args.length)) [[]] = some r) : pureV E (om E) 6 lent args = some r := pureV_of (dyn := []) rfl (by rw [E_P]; exact Tryz.func6) (by unfold Tryz.f6; rfl) (by kernel_rfl) (by rw [Tryz.ntmps6]; exact hr)
@[simp] theorem call_6 (args : List V) (h : Heap) : callV E (om E) 6 args h = (viewArgs h args).bind fun a => (pureV E (om E) 6 (!V.flatL args) a).map fun r => (r, h) := callV_pure rfl rfl args h

/-! 7: (*playpen/undo.Run).Start -/
attribute [simp] Tryz.results7
theorem pu_7 {lent : Bool} {args : List V} {r : V} (hr : evK E (om E) 7 [] (Tryz.f7.body.getD .skip) (endK Tryz.prog Tryz.f7.results.toList (pureFin lent)) (args ++ pois (34 - args.length)) [[]] = some r) : pureV E (om E) 7 lent args = some r := pureV_of (dyn := []) rfl (by rw [E_P]; exact Tryz.func7) (by unfold Tryz.f7; rfl) (by kernel_rfl) (by rw [Tryz.ntmps7]; exact hr)
@[simp] theorem call_7 (args : List V) (h : Heap) : callV E (om E) 7 args h = (viewArgs h args).bind fun a => (pureV E (om E) 7 (!V.flatL args) a).map fun r => (r, h) := callV_pure rfl rfl args h

/-! 8: (*playpen/undo.Run).Back -/
attribute [simp] Tryz.results8
theorem pu_8 {lent : Bool} {args : List V} {r : V} (hr : evK E (om E) 8 [] (Tryz.f8.body.getD .skip) (endK Tryz.prog Tryz.f8.results.toList (pureFin lent)) (args ++ pois (98 - args.length)) [[]] = some r) : pureV E (om E) 8 lent args = some r := pureV_of (dyn := []) rfl (by rw [E_P]; exact Tryz.func8) (by unfold Tryz.f8; rfl) (by kernel_rfl) (by rw [Tryz.ntmps8]; exact hr)
@[simp] theorem call_8 (args : List V) (h : Heap) : callV E (om E) 8 args h = (viewArgs h args).bind fun a => (pureV E (om E) 8 (!V.flatL args) a).map fun r => (r, h) := callV_pure rfl rfl args h
@[simp] theorem hint_8_0 : E.hint 8 8 = [.promoteBox 61 2 3, .forget 7, .forget 8, .forget 28, .forget 29, .forget 30, .forget 31, .forget 32, .forget 33, .forget 34, .forget 35, .forget 36, .forget 37, .forget 38, .forget 39, .forget 40, .forget 41, .forget 42, .forget 43, .forget 44, .forget 45, .forget 46, .forget 47, .forget 48, .forget 49, .forget 50, .forget 51, .forget 52, .forget 53, .forget 54, .forget 55, .forget 56, .forget 57, .forget 58, .forget 59, .forget 60, .forget 61, .forget 62, .forget 63, .forget 64, .forget 65, .forget 66, .forget 67, .forget 68, .forget 69, .forget 70, .forget 71, .forget 72, .forget 73, .forget 74, .forget 75, .forget 76, .forget 77, .forget 78, .forget 79, .forget 80, .forget 81, .forget 82, .forget 83, .forget 84, .forget 85, .forget 86, .forget 87, .forget 88, .forget 89, .forget 90] := rfl

/-! 9: (*playpen/undo.Run).Again -/
attribute [simp] Tryz.results9
theorem pu_9 {lent : Bool} {args : List V} {r : V} (hr : evK E (om E) 9 [] (Tryz.f9.body.getD .skip) (endK Tryz.prog Tryz.f9.results.toList (pureFin lent)) (args ++ pois (90 - args.length)) [[]] = some r) : pureV E (om E) 9 lent args = some r := pureV_of (dyn := []) rfl (by rw [E_P]; exact Tryz.func9) (by unfold Tryz.f9; rfl) (by kernel_rfl) (by rw [Tryz.ntmps9]; exact hr)
@[simp] theorem call_9 (args : List V) (h : Heap) : callV E (om E) 9 args h = (viewArgs h args).bind fun a => (pureV E (om E) 9 (!V.flatL args) a).map fun r => (r, h) := callV_pure rfl rfl args h
@[simp] theorem hint_9_0 : E.hint 9 8 = [.promoteBox 61 1 3, .promoteBox 73 3 4, .forget 7, .forget 8, .forget 28, .forget 29, .forget 30, .forget 31, .forget 32, .forget 33, .forget 34, .forget 35, .forget 36, .forget 37, .forget 38, .forget 39, .forget 40, .forget 41, .forget 42, .forget 43, .forget 44, .forget 45, .forget 46, .forget 47, .forget 48, .forget 49, .forget 50, .forget 51, .forget 52, .forget 53, .forget 54, .forget 55, .forget 56, .forget 57, .forget 58, .forget 59, .forget 60, .forget 61, .forget 62, .forget 63, .forget 64, .forget 65, .forget 66, .forget 67, .forget 68, .forget 69, .forget 70, .forget 71, .forget 72, .forget 73, .forget 74, .forget 75, .forget 76, .forget 77, .forget 78, .forget 79, .forget 80, .forget 81, .forget 82] := rfl

/-! 10: (*playpen/undo.Run).Past -/
attribute [simp] Tryz.results10
theorem pu_10 {lent : Bool} {args : List V} {r : V} (hr : evK E (om E) 10 [] (Tryz.f10.body.getD .skip) (endK Tryz.prog Tryz.f10.results.toList (pureFin lent)) (args ++ pois (20 - args.length)) [[]] = some r) : pureV E (om E) 10 lent args = some r := pureV_of (dyn := []) rfl (by rw [E_P]; exact Tryz.func10) (by unfold Tryz.f10; rfl) (by kernel_rfl) (by rw [Tryz.ntmps10]; exact hr)
@[simp] theorem call_10 (args : List V) (h : Heap) : callV E (om E) 10 args h = (viewArgs h args).bind fun a => (pureV E (om E) 10 (!V.flatL args) a).map fun r => (r, h) := callV_pure rfl rfl args h

/-! 11: (*playpen/undo.Run).Events -/
attribute [simp] Tryz.results11
theorem pu_11 {lent : Bool} {args : List V} {r : V} (hr : evK E (om E) 11 [] (Tryz.f11.body.getD .skip) (endK Tryz.prog Tryz.f11.results.toList (pureFin lent)) (args ++ pois (12 - args.length)) [[]] = some r) : pureV E (om E) 11 lent args = some r := pureV_of (dyn := []) rfl (by rw [E_P]; exact Tryz.func11) (by unfold Tryz.f11; rfl) (by kernel_rfl) (by rw [Tryz.ntmps11]; exact hr)
@[simp] theorem call_11 (args : List V) (h : Heap) : callV E (om E) 11 args h = (viewArgs h args).bind fun a => (pureV E (om E) 11 (!V.flatL args) a).map fun r => (r, h) := callV_pure rfl rfl args h

/-! 12: playpen/playpenkit.SameState -/
attribute [simp] Tryz.results12
theorem pu_12 {lent : Bool} {args : List V} {r : V} (hr : evK E (om E) 12 [] (Tryz.f12.body.getD .skip) (endK Tryz.prog Tryz.f12.results.toList (pureFin lent)) (args ++ pois (52 - args.length)) [[]] = some r) : pureV E (om E) 12 lent args = some r := pureV_of (dyn := []) rfl (by rw [E_P]; exact Tryz.func12) (by unfold Tryz.f12; rfl) (by kernel_rfl) (by rw [Tryz.ntmps12]; exact hr)
@[simp] theorem call_12 (args : List V) (h : Heap) : callV E (om E) 12 args h = (viewArgs h args).bind fun a => (pureV E (om E) 12 (!V.flatL args) a).map fun r => (r, h) := callV_pure rfl rfl args h

/-! 13: (*playpen/undo.Run).State -/
attribute [simp] Tryz.results13
theorem pu_13 {lent : Bool} {args : List V} {r : V} (hr : evK E (om E) 13 [] (Tryz.f13.body.getD .skip) (endK Tryz.prog Tryz.f13.results.toList (pureFin lent)) (args ++ pois (13 - args.length)) [[]] = some r) : pureV E (om E) 13 lent args = some r := pureV_of (dyn := []) rfl (by rw [E_P]; exact Tryz.func13) (by unfold Tryz.f13; rfl) (by kernel_rfl) (by rw [Tryz.ntmps13]; exact hr)
@[simp] theorem call_13 (args : List V) (h : Heap) : callV E (om E) 13 args h = (viewArgs h args).bind fun a => (pureV E (om E) 13 (!V.flatL args) a).map fun r => (r, h) := callV_pure rfl rfl args h

/-! 14: playpen/run.New -/
attribute [simp] Tryz.results14
theorem pu_14 {lent : Bool} {args : List V} {r : V} (hr : evK E (om E) 14 [] (Tryz.f14.body.getD .skip) (endK Tryz.prog Tryz.f14.results.toList (pureFin lent)) (args ++ pois (60 - args.length)) [[]] = some r) : pureV E (om E) 14 lent args = some r := pureV_of (dyn := []) rfl (by rw [E_P]; exact Tryz.func14) (by unfold Tryz.f14; rfl) (by kernel_rfl) (by rw [Tryz.ntmps14]; exact hr)
@[simp] theorem call_14 (args : List V) (h : Heap) : callV E (om E) 14 args h = (viewArgs h args).bind fun a => (pureV E (om E) 14 (!V.flatL args) a).map fun r => (r, h) := callV_pure rfl rfl args h

/-! 15: (*playpen/undo.Run).made -/
attribute [simp] Tryz.results15
theorem pu_15 {lent : Bool} {args : List V} {r : V} (hr : evK E (om E) 15 [] (Tryz.f15.body.getD .skip) (endK Tryz.prog Tryz.f15.results.toList (pureFin lent)) (args ++ pois (13 - args.length)) [[]] = some r) : pureV E (om E) 15 lent args = some r := pureV_of (dyn := []) rfl (by rw [E_P]; exact Tryz.func15) (by unfold Tryz.f15; rfl) (by kernel_rfl) (by rw [Tryz.ntmps15]; exact hr)
@[simp] theorem call_15 (args : List V) (h : Heap) : callV E (om E) 15 args h = (viewArgs h args).bind fun a => (pureV E (om E) 15 (!V.flatL args) a).map fun r => (r, h) := callV_pure rfl rfl args h

/-! 16: (*playpen/undo.Run).remember -/
attribute [simp] Tryz.results16
theorem pu_16 {lent : Bool} {args : List V} {r : V} (hr : evK E (om E) 16 [] (Tryz.f16.body.getD .skip) (endK Tryz.prog Tryz.f16.results.toList (pureFin lent)) (args ++ pois (83 - args.length)) [[]] = some r) : pureV E (om E) 16 lent args = some r := pureV_of (dyn := []) rfl (by rw [E_P]; exact Tryz.func16) (by unfold Tryz.f16; rfl) (by kernel_rfl) (by rw [Tryz.ntmps16]; exact hr)
@[simp] theorem call_16 (args : List V) (h : Heap) : callV E (om E) 16 args h = (viewArgs h args).bind fun a => (pureV E (om E) 16 (!V.flatL args) a).map fun r => (r, h) := callV_pure rfl rfl args h

/-! 17: playpen/undo.copies -/
attribute [simp] Tryz.results17
theorem pu_17 {lent : Bool} {args : List V} {r : V} (hr : evK E (om E) 17 [] (Tryz.f17.body.getD .skip) (endK Tryz.prog Tryz.f17.results.toList (pureFin lent)) (args ++ pois (22 - args.length)) [[]] = some r) : pureV E (om E) 17 lent args = some r := pureV_of (dyn := []) rfl (by rw [E_P]; exact Tryz.func17) (by unfold Tryz.f17; rfl) (by kernel_rfl) (by rw [Tryz.ntmps17]; exact hr)
@[simp] theorem call_17 (args : List V) (h : Heap) : callV E (om E) 17 args h = (viewArgs h args).bind fun a => (pureV E (om E) 17 (!V.flatL args) a).map fun r => (r, h) := callV_pure rfl rfl args h
@[simp] theorem hint_17_0 : E.hint 17 3 = [.promote 3 4, .forget 5, .forget 9, .forget 10, .forget 11, .forget 12, .forget 13, .forget 14, .forget 15, .forget 16, .forget 17, .forget 18, .forget 19, .forget 20] := rfl

/-! 18: playpen/playpenkit.SameEvents -/
attribute [simp] Tryz.results18
theorem pu_18 {lent : Bool} {args : List V} {r : V} (hr : evK E (om E) 18 [] (Tryz.f18.body.getD .skip) (endK Tryz.prog Tryz.f18.results.toList (pureFin lent)) (args ++ pois (27 - args.length)) [[]] = some r) : pureV E (om E) 18 lent args = some r := pureV_of (dyn := []) rfl (by rw [E_P]; exact Tryz.func18) (by unfold Tryz.f18; rfl) (by kernel_rfl) (by rw [Tryz.ntmps18]; exact hr)
@[simp] theorem call_18 (args : List V) (h : Heap) : callV E (om E) 18 args h = (viewArgs h args).bind fun a => (pureV E (om E) 18 (!V.flatL args) a).map fun r => (r, h) := callV_pure rfl rfl args h
@[simp] theorem hint_18_0 : E.hint 18 4 = [.forget 4, .forget 11, .forget 12, .forget 13, .forget 14, .forget 15, .forget 16, .forget 17, .forget 18, .forget 19, .forget 20, .forget 21, .forget 22, .forget 23, .forget 24, .forget 25, .forget 26] := rfl

/-! 19: playpen/playpenkit.SameEvent -/
attribute [simp] Tryz.results19
theorem pu_19 {lent : Bool} {args : List V} {r : V} (hr : evK E (om E) 19 [] (Tryz.f19.body.getD .skip) (endK Tryz.prog Tryz.f19.results.toList (pureFin lent)) (args ++ pois (31 - args.length)) [[]] = some r) : pureV E (om E) 19 lent args = some r := pureV_of (dyn := []) rfl (by rw [E_P]; exact Tryz.func19) (by unfold Tryz.f19; rfl) (by kernel_rfl) (by rw [Tryz.ntmps19]; exact hr)
@[simp] theorem call_19 (args : List V) (h : Heap) : callV E (om E) 19 args h = (viewArgs h args).bind fun a => (pureV E (om E) 19 (!V.flatL args) a).map fun r => (r, h) := callV_pure rfl rfl args h

/-! 20: (*playpen/undo.Run).asked -/
attribute [simp] Tryz.results20
theorem pu_20 {lent : Bool} {args : List V} {r : V} (hr : evK E (om E) 20 [] (Tryz.f20.body.getD .skip) (endK Tryz.prog Tryz.f20.results.toList (pureFin lent)) (args ++ pois (17 - args.length)) [[]] = some r) : pureV E (om E) 20 lent args = some r := pureV_of (dyn := []) rfl (by rw [E_P]; exact Tryz.func20) (by unfold Tryz.f20; rfl) (by kernel_rfl) (by rw [Tryz.ntmps20]; exact hr)
@[simp] theorem call_20 (args : List V) (h : Heap) : callV E (om E) 20 args h = (viewArgs h args).bind fun a => (pureV E (om E) 20 (!V.flatL args) a).map fun r => (r, h) := callV_pure rfl rfl args h

/-! 21: playpen/playpenkit.SameWords -/
attribute [simp] Tryz.results21
theorem pu_21 {lent : Bool} {args : List V} {r : V} (hr : evK E (om E) 21 [] (Tryz.f21.body.getD .skip) (endK Tryz.prog Tryz.f21.results.toList (pureFin lent)) (args ++ pois (26 - args.length)) [[]] = some r) : pureV E (om E) 21 lent args = some r := pureV_of (dyn := []) rfl (by rw [E_P]; exact Tryz.func21) (by unfold Tryz.f21; rfl) (by kernel_rfl) (by rw [Tryz.ntmps21]; exact hr)
@[simp] theorem call_21 (args : List V) (h : Heap) : callV E (om E) 21 args h = (viewArgs h args).bind fun a => (pureV E (om E) 21 (!V.flatL args) a).map fun r => (r, h) := callV_pure rfl rfl args h
@[simp] theorem hint_21_0 : E.hint 21 4 = [.forget 4, .forget 11, .forget 12, .forget 13, .forget 14, .forget 15, .forget 16, .forget 17, .forget 18, .forget 19, .forget 20, .forget 21, .forget 22, .forget 23, .forget 24, .forget 25] := rfl

/-! 22: playpen/playpenkit.SameBytes -/
attribute [simp] Tryz.results22
theorem pu_22 {lent : Bool} {args : List V} {r : V} (hr : evK E (om E) 22 [] (Tryz.f22.body.getD .skip) (endK Tryz.prog Tryz.f22.results.toList (pureFin lent)) (args ++ pois (26 - args.length)) [[]] = some r) : pureV E (om E) 22 lent args = some r := pureV_of (dyn := []) rfl (by rw [E_P]; exact Tryz.func22) (by unfold Tryz.f22; rfl) (by kernel_rfl) (by rw [Tryz.ntmps22]; exact hr)
@[simp] theorem call_22 (args : List V) (h : Heap) : callV E (om E) 22 args h = (viewArgs h args).bind fun a => (pureV E (om E) 22 (!V.flatL args) a).map fun r => (r, h) := callV_pure rfl rfl args h
@[simp] theorem hint_22_0 : E.hint 22 4 = [.forget 4, .forget 11, .forget 12, .forget 13, .forget 14, .forget 15, .forget 16, .forget 17, .forget 18, .forget 19, .forget 20, .forget 21, .forget 22, .forget 23, .forget 24, .forget 25] := rfl

/-! 23: playpen/step.Fresh -/
attribute [simp] Tryz.results23
theorem pu_23 {lent : Bool} {args : List V} {r : V} (hr : evK E (om E) 23 [] (Tryz.f23.body.getD .skip) (endK Tryz.prog Tryz.f23.results.toList (pureFin lent)) (args ++ pois (21 - args.length)) [[]] = some r) : pureV E (om E) 23 lent args = some r := pureV_of (dyn := []) rfl (by rw [E_P]; exact Tryz.func23) (by unfold Tryz.f23; rfl) (by kernel_rfl) (by rw [Tryz.ntmps23]; exact hr)
@[simp] theorem call_23 (args : List V) (h : Heap) : callV E (om E) 23 args h = (viewArgs h args).bind fun a => (pureV E (om E) 23 (!V.flatL args) a).map fun r => (r, h) := callV_pure rfl rfl args h

/-! 24: playpen/gate.New -/
attribute [simp] Tryz.results24
theorem pu_24 {lent : Bool} {args : List V} {r : V} (hr : evK E (om E) 24 [] (Tryz.f24.body.getD .skip) (endK Tryz.prog Tryz.f24.results.toList (pureFin lent)) (args ++ pois (57 - args.length)) [[]] = some r) : pureV E (om E) 24 lent args = some r := pureV_of (dyn := []) rfl (by rw [E_P]; exact Tryz.func24) (by unfold Tryz.f24; rfl) (by kernel_rfl) (by rw [Tryz.ntmps24]; exact hr)
@[simp] theorem call_24 (args : List V) (h : Heap) : callV E (om E) 24 args h = (viewArgs h args).bind fun a => (pureV E (om E) 24 (!V.flatL args) a).map fun r => (r, h) := callV_pure rfl rfl args h
@[simp] theorem hint_24_0 : E.hint 24 5 = [.forget 2, .forget 3, .forget 6, .forget 7, .forget 8, .forget 18, .forget 19, .forget 20, .forget 21, .forget 22, .forget 23, .forget 24, .forget 25, .forget 26, .forget 27, .forget 28, .forget 29, .forget 30, .forget 31, .forget 32, .forget 33, .forget 34, .forget 35, .forget 36, .forget 37, .forget 38, .forget 39, .forget 40, .forget 41, .forget 42, .forget 43, .forget 44, .forget 45, .forget 46, .forget 47, .forget 48, .forget 49, .forget 50, .forget 51, .forget 52, .forget 53, .forget 54, .forget 55] := rfl

/-! 25: (*playpen/verify.Module).Image -/
attribute [simp] Tryz.results25
theorem pu_25 {lent : Bool} {args : List V} {r : V} (hr : evK E (om E) 25 [] (Tryz.f25.body.getD .skip) (endK Tryz.prog Tryz.f25.results.toList (pureFin lent)) (args ++ pois (9 - args.length)) [[]] = some r) : pureV E (om E) 25 lent args = some r := pureV_of (dyn := []) rfl (by rw [E_P]; exact Tryz.func25) (by unfold Tryz.f25; rfl) (by kernel_rfl) (by rw [Tryz.ntmps25]; exact hr)
@[simp] theorem call_25 (args : List V) (h : Heap) : callV E (om E) 25 args h = (viewArgs h args).bind fun a => (pureV E (om E) 25 (!V.flatL args) a).map fun r => (r, h) := callV_pure rfl rfl args h

/-! 26: playpen/run.acts -/
attribute [simp] Tryz.results26
theorem pu_26 {lent : Bool} {args : List V} {r : V} (hr : evK E (om E) 26 [] (Tryz.f26.body.getD .skip) (endK Tryz.prog Tryz.f26.results.toList (pureFin lent)) (args ++ pois (27 - args.length)) [[]] = some r) : pureV E (om E) 26 lent args = some r := pureV_of (dyn := []) rfl (by rw [E_P]; exact Tryz.func26) (by unfold Tryz.f26; rfl) (by kernel_rfl) (by rw [Tryz.ntmps26]; exact hr)
@[simp] theorem call_26 (args : List V) (h : Heap) : callV E (om E) 26 args h = (viewArgs h args).bind fun a => (pureV E (om E) 26 (!V.flatL args) a).map fun r => (r, h) := callV_pure rfl rfl args h
@[simp] theorem hint_26_0 : E.hint 26 3 = [.forget 2, .forget 5, .forget 6, .forget 7, .forget 8, .forget 9, .forget 10, .forget 11, .forget 12, .forget 13, .forget 14, .forget 15, .forget 16, .forget 17, .forget 18, .forget 19, .forget 20, .forget 21, .forget 22, .forget 23, .forget 24, .forget 25] := rfl

/-! 27: (*playpen/verify.Module).Bits -/
attribute [simp] Tryz.results27
theorem pu_27 {lent : Bool} {args : List V} {r : V} (hr : evK E (om E) 27 [] (Tryz.f27.body.getD .skip) (endK Tryz.prog Tryz.f27.results.toList (pureFin lent)) (args ++ pois (8 - args.length)) [[]] = some r) : pureV E (om E) 27 lent args = some r := pureV_of (dyn := []) rfl (by rw [E_P]; exact Tryz.func27) (by unfold Tryz.f27; rfl) (by kernel_rfl) (by rw [Tryz.ntmps27]; exact hr)
@[simp] theorem call_27 (args : List V) (h : Heap) : callV E (om E) 27 args h = (viewArgs h args).bind fun a => (pureV E (om E) 27 (!V.flatL args) a).map fun r => (r, h) := callV_pure rfl rfl args h

/-! 28: (*playpen/run.Machine).Put -/
attribute [simp] Tryz.results28
theorem pu_28 {lent : Bool} {args : List V} {r : V} (hr : evK E (om E) 28 [10] (Tryz.f28.body.getD .skip) (endK Tryz.prog Tryz.f28.results.toList (pureFin lent)) (args ++ pois (66 - args.length)) [[]] = some r) : pureV E (om E) 28 lent args = some r := pureV_of (dyn := [10]) rfl (by rw [E_P]; exact Tryz.func28) (by unfold Tryz.f28; rfl) (by kernel_rfl) (by rw [Tryz.ntmps28]; exact hr)
@[simp] theorem call_28 (args : List V) (h : Heap) : callV E (om E) 28 args h = (viewArgs h args).bind fun a => (pureV E (om E) 28 (!V.flatL args) a).map fun r => (r, h) := callV_pure rfl rfl args h

/-! 29: playpen/little.Runs -/
attribute [simp] Tryz.results29
theorem pu_29 {lent : Bool} {args : List V} {r : V} (hr : evK E (om E) 29 [] (Tryz.f29.body.getD .skip) (endK Tryz.prog Tryz.f29.results.toList (pureFin lent)) (args ++ pois (65 - args.length)) [[]] = some r) : pureV E (om E) 29 lent args = some r := pureV_of (dyn := []) rfl (by rw [E_P]; exact Tryz.func29) (by unfold Tryz.f29; rfl) (by kernel_rfl) (by rw [Tryz.ntmps29]; exact hr)
@[simp] theorem call_29 (args : List V) (h : Heap) : callV E (om E) 29 args h = (viewArgs h args).bind fun a => (pureV E (om E) 29 (!V.flatL args) a).map fun r => (r, h) := callV_pure rfl rfl args h
@[simp] theorem hint_29_0 : E.hint 29 5 = [.promote 6 2, .promoteBox 8 1 1, .forget 8, .forget 14, .forget 15, .forget 16, .forget 17, .forget 18, .forget 19, .forget 20, .forget 21, .forget 22, .forget 23, .forget 24, .forget 25, .forget 26, .forget 27, .forget 28, .forget 29, .forget 30, .forget 31, .forget 32, .forget 33, .forget 34, .forget 35, .forget 36, .forget 37, .forget 38, .forget 39, .forget 40, .forget 41, .forget 42, .forget 43, .forget 44, .forget 45, .forget 46, .forget 47, .forget 48, .forget 49, .forget 50, .forget 51, .forget 52, .forget 53, .forget 54, .forget 55, .forget 56, .forget 57, .forget 58, .forget 59, .forget 60, .forget 61, .forget 62, .forget 63] := rfl
@[simp] theorem hint_29_1 : E.hint 29 9 = [.promote 6 2, .promoteBox 8 1 1, .forget 32, .forget 33, .forget 34, .forget 35, .forget 36, .forget 37, .forget 38, .forget 39, .forget 40, .forget 41, .forget 42, .forget 43, .forget 44, .forget 45, .forget 46, .forget 47, .forget 48, .forget 49, .forget 50, .forget 51, .forget 52, .forget 53, .forget 54, .forget 55, .forget 56, .forget 57, .forget 58, .forget 59] := rfl

/-! 30: playpen/undo.lay -/
attribute [simp] Tryz.results30
theorem pu_30 {lent : Bool} {args : List V} {r : V} (hr : evK E (om E) 30 [] (Tryz.f30.body.getD .skip) (endK Tryz.prog Tryz.f30.results.toList (pureFin lent)) (args ++ pois (11 - args.length)) [[]] = some r) : pureV E (om E) 30 lent args = some r := pureV_of (dyn := []) rfl (by rw [E_P]; exact Tryz.func30) (by unfold Tryz.f30; rfl) (by kernel_rfl) (by rw [Tryz.ntmps30]; exact hr)
@[simp] theorem call_30 (args : List V) (h : Heap) : callV E (om E) 30 args h = (viewArgs h args).bind fun a => (pureV E (om E) 30 (!V.flatL args) a).map fun r => (r, h) := callV_pure rfl rfl args h

/-! 31: slices.Clone[[]uint32,uint32] -/
attribute [simp] Tryz.results31
@[simp] theorem call_31 (args : List V) (h : Heap) : callV E (om E) 31 args h = cloneW 1 args h := callV_known rfl args h

/-! 32: playpen/step.none -/
attribute [simp] Tryz.results32
theorem pu_32 {lent : Bool} {args : List V} {r : V} (hr : evK E (om E) 32 [] (Tryz.f32.body.getD .skip) (endK Tryz.prog Tryz.f32.results.toList (pureFin lent)) (args ++ pois (6 - args.length)) [[]] = some r) : pureV E (om E) 32 lent args = some r := pureV_of (dyn := []) rfl (by rw [E_P]; exact Tryz.func32) (by unfold Tryz.f32; rfl) (by kernel_rfl) (by rw [Tryz.ntmps32]; exact hr)
@[simp] theorem call_32 (args : List V) (h : Heap) : callV E (om E) 32 args h = (viewArgs h args).bind fun a => (pureV E (om E) 32 (!V.flatL args) a).map fun r => (r, h) := callV_pure rfl rfl args h

/-! 33: playpen/step.top -/
attribute [simp] Tryz.results33
theorem pu_33 {lent : Bool} {args : List V} {r : V} (hr : evK E (om E) 33 [] (Tryz.f33.body.getD .skip) (endK Tryz.prog Tryz.f33.results.toList (pureFin lent)) (args ++ pois (7 - args.length)) [[]] = some r) : pureV E (om E) 33 lent args = some r := pureV_of (dyn := []) rfl (by rw [E_P]; exact Tryz.func33) (by unfold Tryz.f33; rfl) (by kernel_rfl) (by rw [Tryz.ntmps33]; exact hr)
@[simp] theorem call_33 (args : List V) (h : Heap) : callV E (om E) 33 args h = (viewArgs h args).bind fun a => (pureV E (om E) 33 (!V.flatL args) a).map fun r => (r, h) := callV_pure rfl rfl args h

/-! 34: playpen/verify.copied -/
attribute [simp] Tryz.results34
theorem pu_34 {lent : Bool} {args : List V} {r : V} (hr : evK E (om E) 34 [] (Tryz.f34.body.getD .skip) (endK Tryz.prog Tryz.f34.results.toList (pureFin lent)) (args ++ pois (20 - args.length)) [[]] = some r) : pureV E (om E) 34 lent args = some r := pureV_of (dyn := []) rfl (by rw [E_P]; exact Tryz.func34) (by unfold Tryz.f34; rfl) (by kernel_rfl) (by rw [Tryz.ntmps34]; exact hr)
@[simp] theorem call_34 (args : List V) (h : Heap) : callV E (om E) 34 args h = (viewArgs h args).bind fun a => (pureV E (om E) 34 (!V.flatL args) a).map fun r => (r, h) := callV_pure rfl rfl args h

/-! 35: (*playpen/verify.Module).all -/
attribute [simp] Tryz.results35
theorem pu_35 {lent : Bool} {args : List V} {r : V} (hr : evK E (om E) 35 [] (Tryz.f35.body.getD .skip) (endK Tryz.prog Tryz.f35.results.toList (pureFin lent)) (args ++ pois (18 - args.length)) [[]] = some r) : pureV E (om E) 35 lent args = some r := pureV_of (dyn := []) rfl (by rw [E_P]; exact Tryz.func35) (by unfold Tryz.f35; rfl) (by kernel_rfl) (by rw [Tryz.ntmps35]; exact hr)
@[simp] theorem call_35 (args : List V) (h : Heap) : callV E (om E) 35 args h = (viewArgs h args).bind fun a => (pureV E (om E) 35 (!V.flatL args) a).map fun r => (r, h) := callV_pure rfl rfl args h

/-! 36: (*playpen/run.Machine).nop -/
attribute [simp] Tryz.results36
theorem pu_36 {lent : Bool} {args : List V} {r : V} (hr : evK E (om E) 36 [] (Tryz.f36.body.getD .skip) (endK Tryz.prog Tryz.f36.results.toList (pureFin lent)) (args ++ pois (11 - args.length)) [[]] = some r) : pureV E (om E) 36 lent args = some r := pureV_of (dyn := []) rfl (by rw [E_P]; exact Tryz.func36) (by unfold Tryz.f36; rfl) (by kernel_rfl) (by rw [Tryz.ntmps36]; exact hr)
@[simp] theorem call_36 (args : List V) (h : Heap) : callV E (om E) 36 args h = (viewArgs h args).bind fun a => (pureV E (om E) 36 (!V.flatL args) a).map fun r => (r, h) := callV_pure rfl rfl args h

/-! 37: (*playpen/run.Machine).halt -/
attribute [simp] Tryz.results37
theorem pu_37 {lent : Bool} {args : List V} {r : V} (hr : evK E (om E) 37 [] (Tryz.f37.body.getD .skip) (endK Tryz.prog Tryz.f37.results.toList (pureFin lent)) (args ++ pois (5 - args.length)) [[]] = some r) : pureV E (om E) 37 lent args = some r := pureV_of (dyn := []) rfl (by rw [E_P]; exact Tryz.func37) (by unfold Tryz.f37; rfl) (by kernel_rfl) (by rw [Tryz.ntmps37]; exact hr)
@[simp] theorem call_37 (args : List V) (h : Heap) : callV E (om E) 37 args h = (viewArgs h args).bind fun a => (pureV E (om E) 37 (!V.flatL args) a).map fun r => (r, h) := callV_pure rfl rfl args h

/-! 38: (*playpen/run.Machine).enter -/
attribute [simp] Tryz.results38
theorem pu_38 {lent : Bool} {args : List V} {r : V} (hr : evK E (om E) 38 [] (Tryz.f38.body.getD .skip) (endK Tryz.prog Tryz.f38.results.toList (pureFin lent)) (args ++ pois (36 - args.length)) [[]] = some r) : pureV E (om E) 38 lent args = some r := pureV_of (dyn := []) rfl (by rw [E_P]; exact Tryz.func38) (by unfold Tryz.f38; rfl) (by kernel_rfl) (by rw [Tryz.ntmps38]; exact hr)
@[simp] theorem call_38 (args : List V) (h : Heap) : callV E (om E) 38 args h = (viewArgs h args).bind fun a => (pureV E (om E) 38 (!V.flatL args) a).map fun r => (r, h) := callV_pure rfl rfl args h

/-! 39: (*playpen/run.Machine).leave -/
attribute [simp] Tryz.results39
theorem pu_39 {lent : Bool} {args : List V} {r : V} (hr : evK E (om E) 39 [] (Tryz.f39.body.getD .skip) (endK Tryz.prog Tryz.f39.results.toList (pureFin lent)) (args ++ pois (98 - args.length)) [[]] = some r) : pureV E (om E) 39 lent args = some r := pureV_of (dyn := []) rfl (by rw [E_P]; exact Tryz.func39) (by unfold Tryz.f39; rfl) (by kernel_rfl) (by rw [Tryz.ntmps39]; exact hr)
@[simp] theorem call_39 (args : List V) (h : Heap) : callV E (om E) 39 args h = (viewArgs h args).bind fun a => (pureV E (om E) 39 (!V.flatL args) a).map fun r => (r, h) := callV_pure rfl rfl args h

/-! 40: (*playpen/run.Machine).call -/
attribute [simp] Tryz.results40
theorem pu_40 {lent : Bool} {args : List V} {r : V} (hr : evK E (om E) 40 [] (Tryz.f40.body.getD .skip) (endK Tryz.prog Tryz.f40.results.toList (pureFin lent)) (args ++ pois (78 - args.length)) [[]] = some r) : pureV E (om E) 40 lent args = some r := pureV_of (dyn := []) rfl (by rw [E_P]; exact Tryz.func40) (by unfold Tryz.f40; rfl) (by kernel_rfl) (by rw [Tryz.ntmps40]; exact hr)
@[simp] theorem call_40 (args : List V) (h : Heap) : callV E (om E) 40 args h = (viewArgs h args).bind fun a => (pureV E (om E) 40 (!V.flatL args) a).map fun r => (r, h) := callV_pure rfl rfl args h

/-! 41: (*playpen/run.Machine).goTo -/
attribute [simp] Tryz.results41
theorem pu_41 {lent : Bool} {args : List V} {r : V} (hr : evK E (om E) 41 [] (Tryz.f41.body.getD .skip) (endK Tryz.prog Tryz.f41.results.toList (pureFin lent)) (args ++ pois (9 - args.length)) [[]] = some r) : pureV E (om E) 41 lent args = some r := pureV_of (dyn := []) rfl (by rw [E_P]; exact Tryz.func41) (by unfold Tryz.f41; rfl) (by kernel_rfl) (by rw [Tryz.ntmps41]; exact hr)
@[simp] theorem call_41 (args : List V) (h : Heap) : callV E (om E) 41 args h = (viewArgs h args).bind fun a => (pureV E (om E) 41 (!V.flatL args) a).map fun r => (r, h) := callV_pure rfl rfl args h

/-! 42: (*playpen/run.Machine).jump -/
attribute [simp] Tryz.results42
theorem pu_42 {lent : Bool} {args : List V} {r : V} (hr : evK E (om E) 42 [] (Tryz.f42.body.getD .skip) (endK Tryz.prog Tryz.f42.results.toList (pureFin lent)) (args ++ pois (23 - args.length)) [[]] = some r) : pureV E (om E) 42 lent args = some r := pureV_of (dyn := []) rfl (by rw [E_P]; exact Tryz.func42) (by unfold Tryz.f42; rfl) (by kernel_rfl) (by rw [Tryz.ntmps42]; exact hr)
@[simp] theorem call_42 (args : List V) (h : Heap) : callV E (om E) 42 args h = (viewArgs h args).bind fun a => (pureV E (om E) 42 (!V.flatL args) a).map fun r => (r, h) := callV_pure rfl rfl args h

/-! 43: (*playpen/run.Machine).constant -/
attribute [simp] Tryz.results43
theorem pu_43 {lent : Bool} {args : List V} {r : V} (hr : evK E (om E) 43 [] (Tryz.f43.body.getD .skip) (endK Tryz.prog Tryz.f43.results.toList (pureFin lent)) (args ++ pois (15 - args.length)) [[]] = some r) : pureV E (om E) 43 lent args = some r := pureV_of (dyn := []) rfl (by rw [E_P]; exact Tryz.func43) (by unfold Tryz.f43; rfl) (by kernel_rfl) (by rw [Tryz.ntmps43]; exact hr)
@[simp] theorem call_43 (args : List V) (h : Heap) : callV E (om E) 43 args h = (viewArgs h args).bind fun a => (pureV E (om E) 43 (!V.flatL args) a).map fun r => (r, h) := callV_pure rfl rfl args h

/-! 44: (*playpen/run.Machine).local -/
attribute [simp] Tryz.results44
theorem pu_44 {lent : Bool} {args : List V} {r : V} (hr : evK E (om E) 44 [] (Tryz.f44.body.getD .skip) (endK Tryz.prog Tryz.f44.results.toList (pureFin lent)) (args ++ pois (20 - args.length)) [[]] = some r) : pureV E (om E) 44 lent args = some r := pureV_of (dyn := []) rfl (by rw [E_P]; exact Tryz.func44) (by unfold Tryz.f44; rfl) (by kernel_rfl) (by rw [Tryz.ntmps44]; exact hr)
@[simp] theorem call_44 (args : List V) (h : Heap) : callV E (om E) 44 args h = (viewArgs h args).bind fun a => (pureV E (om E) 44 (!V.flatL args) a).map fun r => (r, h) := callV_pure rfl rfl args h

/-! 45: (*playpen/run.Machine).drop -/
attribute [simp] Tryz.results45
theorem pu_45 {lent : Bool} {args : List V} {r : V} (hr : evK E (om E) 45 [] (Tryz.f45.body.getD .skip) (endK Tryz.prog Tryz.f45.results.toList (pureFin lent)) (args ++ pois (13 - args.length)) [[]] = some r) : pureV E (om E) 45 lent args = some r := pureV_of (dyn := []) rfl (by rw [E_P]; exact Tryz.func45) (by unfold Tryz.f45; rfl) (by kernel_rfl) (by rw [Tryz.ntmps45]; exact hr)
@[simp] theorem call_45 (args : List V) (h : Heap) : callV E (om E) 45 args h = (viewArgs h args).bind fun a => (pureV E (om E) 45 (!V.flatL args) a).map fun r => (r, h) := callV_pure rfl rfl args h

/-! 46: (*playpen/run.Machine).dup -/
attribute [simp] Tryz.results46
theorem pu_46 {lent : Bool} {args : List V} {r : V} (hr : evK E (om E) 46 [] (Tryz.f46.body.getD .skip) (endK Tryz.prog Tryz.f46.results.toList (pureFin lent)) (args ++ pois (25 - args.length)) [[]] = some r) : pureV E (om E) 46 lent args = some r := pureV_of (dyn := []) rfl (by rw [E_P]; exact Tryz.func46) (by unfold Tryz.f46; rfl) (by kernel_rfl) (by rw [Tryz.ntmps46]; exact hr)
@[simp] theorem call_46 (args : List V) (h : Heap) : callV E (om E) 46 args h = (viewArgs h args).bind fun a => (pureV E (om E) 46 (!V.flatL args) a).map fun r => (r, h) := callV_pure rfl rfl args h

/-! 47: (*playpen/run.Machine).arg -/
attribute [simp] Tryz.results47
theorem pu_47 {lent : Bool} {args : List V} {r : V} (hr : evK E (om E) 47 [] (Tryz.f47.body.getD .skip) (endK Tryz.prog Tryz.f47.results.toList (pureFin lent)) (args ++ pois (27 - args.length)) [[]] = some r) : pureV E (om E) 47 lent args = some r := pureV_of (dyn := []) rfl (by rw [E_P]; exact Tryz.func47) (by unfold Tryz.f47; rfl) (by kernel_rfl) (by rw [Tryz.ntmps47]; exact hr)
@[simp] theorem call_47 (args : List V) (h : Heap) : callV E (om E) 47 args h = (viewArgs h args).bind fun a => (pureV E (om E) 47 (!V.flatL args) a).map fun r => (r, h) := callV_pure rfl rfl args h

/-! 48: (*playpen/run.Machine).load1 -/
attribute [simp] Tryz.results48
theorem pu_48 {lent : Bool} {args : List V} {r : V} (hr : evK E (om E) 48 [] (Tryz.f48.body.getD .skip) (endK Tryz.prog Tryz.f48.results.toList (pureFin lent)) (args ++ pois (20 - args.length)) [[]] = some r) : pureV E (om E) 48 lent args = some r := pureV_of (dyn := []) rfl (by rw [E_P]; exact Tryz.func48) (by unfold Tryz.f48; rfl) (by kernel_rfl) (by rw [Tryz.ntmps48]; exact hr)
@[simp] theorem call_48 (args : List V) (h : Heap) : callV E (om E) 48 args h = (viewArgs h args).bind fun a => (pureV E (om E) 48 (!V.flatL args) a).map fun r => (r, h) := callV_pure rfl rfl args h

/-! 49: (*playpen/run.Machine).load2 -/
attribute [simp] Tryz.results49
theorem pu_49 {lent : Bool} {args : List V} {r : V} (hr : evK E (om E) 49 [] (Tryz.f49.body.getD .skip) (endK Tryz.prog Tryz.f49.results.toList (pureFin lent)) (args ++ pois (20 - args.length)) [[]] = some r) : pureV E (om E) 49 lent args = some r := pureV_of (dyn := []) rfl (by rw [E_P]; exact Tryz.func49) (by unfold Tryz.f49; rfl) (by kernel_rfl) (by rw [Tryz.ntmps49]; exact hr)
@[simp] theorem call_49 (args : List V) (h : Heap) : callV E (om E) 49 args h = (viewArgs h args).bind fun a => (pureV E (om E) 49 (!V.flatL args) a).map fun r => (r, h) := callV_pure rfl rfl args h

/-! 50: (*playpen/run.Machine).load4 -/
attribute [simp] Tryz.results50
theorem pu_50 {lent : Bool} {args : List V} {r : V} (hr : evK E (om E) 50 [] (Tryz.f50.body.getD .skip) (endK Tryz.prog Tryz.f50.results.toList (pureFin lent)) (args ++ pois (20 - args.length)) [[]] = some r) : pureV E (om E) 50 lent args = some r := pureV_of (dyn := []) rfl (by rw [E_P]; exact Tryz.func50) (by unfold Tryz.f50; rfl) (by kernel_rfl) (by rw [Tryz.ntmps50]; exact hr)
@[simp] theorem call_50 (args : List V) (h : Heap) : callV E (om E) 50 args h = (viewArgs h args).bind fun a => (pureV E (om E) 50 (!V.flatL args) a).map fun r => (r, h) := callV_pure rfl rfl args h

/-! 51: (*playpen/run.Machine).store1 -/
attribute [simp] Tryz.results51
theorem pu_51 {lent : Bool} {args : List V} {r : V} (hr : evK E (om E) 51 [] (Tryz.f51.body.getD .skip) (endK Tryz.prog Tryz.f51.results.toList (pureFin lent)) (args ++ pois (22 - args.length)) [[]] = some r) : pureV E (om E) 51 lent args = some r := pureV_of (dyn := []) rfl (by rw [E_P]; exact Tryz.func51) (by unfold Tryz.f51; rfl) (by kernel_rfl) (by rw [Tryz.ntmps51]; exact hr)
@[simp] theorem call_51 (args : List V) (h : Heap) : callV E (om E) 51 args h = (viewArgs h args).bind fun a => (pureV E (om E) 51 (!V.flatL args) a).map fun r => (r, h) := callV_pure rfl rfl args h

/-! 52: (*playpen/run.Machine).store2 -/
attribute [simp] Tryz.results52
theorem pu_52 {lent : Bool} {args : List V} {r : V} (hr : evK E (om E) 52 [] (Tryz.f52.body.getD .skip) (endK Tryz.prog Tryz.f52.results.toList (pureFin lent)) (args ++ pois (22 - args.length)) [[]] = some r) : pureV E (om E) 52 lent args = some r := pureV_of (dyn := []) rfl (by rw [E_P]; exact Tryz.func52) (by unfold Tryz.f52; rfl) (by kernel_rfl) (by rw [Tryz.ntmps52]; exact hr)
@[simp] theorem call_52 (args : List V) (h : Heap) : callV E (om E) 52 args h = (viewArgs h args).bind fun a => (pureV E (om E) 52 (!V.flatL args) a).map fun r => (r, h) := callV_pure rfl rfl args h

/-! 53: (*playpen/run.Machine).store4 -/
attribute [simp] Tryz.results53
theorem pu_53 {lent : Bool} {args : List V} {r : V} (hr : evK E (om E) 53 [] (Tryz.f53.body.getD .skip) (endK Tryz.prog Tryz.f53.results.toList (pureFin lent)) (args ++ pois (22 - args.length)) [[]] = some r) : pureV E (om E) 53 lent args = some r := pureV_of (dyn := []) rfl (by rw [E_P]; exact Tryz.func53) (by unfold Tryz.f53; rfl) (by kernel_rfl) (by rw [Tryz.ntmps53]; exact hr)
@[simp] theorem call_53 (args : List V) (h : Heap) : callV E (om E) 53 args h = (viewArgs h args).bind fun a => (pureV E (om E) 53 (!V.flatL args) a).map fun r => (r, h) := callV_pure rfl rfl args h

/-! 54: (*playpen/run.Machine).copy -/
attribute [simp] Tryz.results54
theorem pu_54 {lent : Bool} {args : List V} {r : V} (hr : evK E (om E) 54 [] (Tryz.f54.body.getD .skip) (endK Tryz.prog Tryz.f54.results.toList (pureFin lent)) (args ++ pois (24 - args.length)) [[]] = some r) : pureV E (om E) 54 lent args = some r := pureV_of (dyn := []) rfl (by rw [E_P]; exact Tryz.func54) (by unfold Tryz.f54; rfl) (by kernel_rfl) (by rw [Tryz.ntmps54]; exact hr)
@[simp] theorem call_54 (args : List V) (h : Heap) : callV E (om E) 54 args h = (viewArgs h args).bind fun a => (pureV E (om E) 54 (!V.flatL args) a).map fun r => (r, h) := callV_pure rfl rfl args h

/-! 55: (*playpen/run.Machine).unary -/
attribute [simp] Tryz.results55
theorem pu_55 {lent : Bool} {args : List V} {r : V} (hr : evK E (om E) 55 [] (Tryz.f55.body.getD .skip) (endK Tryz.prog Tryz.f55.results.toList (pureFin lent)) (args ++ pois (24 - args.length)) [[]] = some r) : pureV E (om E) 55 lent args = some r := pureV_of (dyn := []) rfl (by rw [E_P]; exact Tryz.func55) (by unfold Tryz.f55; rfl) (by kernel_rfl) (by rw [Tryz.ntmps55]; exact hr)
@[simp] theorem call_55 (args : List V) (h : Heap) : callV E (om E) 55 args h = (viewArgs h args).bind fun a => (pureV E (om E) 55 (!V.flatL args) a).map fun r => (r, h) := callV_pure rfl rfl args h

/-! 56: (*playpen/run.Machine).branch -/
attribute [simp] Tryz.results56
theorem pu_56 {lent : Bool} {args : List V} {r : V} (hr : evK E (om E) 56 [] (Tryz.f56.body.getD .skip) (endK Tryz.prog Tryz.f56.results.toList (pureFin lent)) (args ++ pois (33 - args.length)) [[]] = some r) : pureV E (om E) 56 lent args = some r := pureV_of (dyn := []) rfl (by rw [E_P]; exact Tryz.func56) (by unfold Tryz.f56; rfl) (by kernel_rfl) (by rw [Tryz.ntmps56]; exact hr)
@[simp] theorem call_56 (args : List V) (h : Heap) : callV E (om E) 56 args h = (viewArgs h args).bind fun a => (pureV E (om E) 56 (!V.flatL args) a).map fun r => (r, h) := callV_pure rfl rfl args h

/-! 57: (*playpen/run.Machine).binary -/
attribute [simp] Tryz.results57
theorem pu_57 {lent : Bool} {args : List V} {r : V} (hr : evK E (om E) 57 [] (Tryz.f57.body.getD .skip) (endK Tryz.prog Tryz.f57.results.toList (pureFin lent)) (args ++ pois (57 - args.length)) [[]] = some r) : pureV E (om E) 57 lent args = some r := pureV_of (dyn := []) rfl (by rw [E_P]; exact Tryz.func57) (by unfold Tryz.f57; rfl) (by kernel_rfl) (by rw [Tryz.ntmps57]; exact hr)
@[simp] theorem call_57 (args : List V) (h : Heap) : callV E (om E) 57 args h = (viewArgs h args).bind fun a => (pureV E (om E) 57 (!V.flatL args) a).map fun r => (r, h) := callV_pure rfl rfl args h

/-! 58: (*playpen/run.Machine).made -/
attribute [simp] Tryz.results58
theorem pu_58 {lent : Bool} {args : List V} {r : V} (hr : evK E (om E) 58 [] (Tryz.f58.body.getD .skip) (endK Tryz.prog Tryz.f58.results.toList (pureFin lent)) (args ++ pois (12 - args.length)) [[]] = some r) : pureV E (om E) 58 lent args = some r := pureV_of (dyn := []) rfl (by rw [E_P]; exact Tryz.func58) (by unfold Tryz.f58; rfl) (by kernel_rfl) (by rw [Tryz.ntmps58]; exact hr)
@[simp] theorem call_58 (args : List V) (h : Heap) : callV E (om E) 58 args h = (viewArgs h args).bind fun a => (pureV E (om E) 58 (!V.flatL args) a).map fun r => (r, h) := callV_pure rfl rfl args h

/-! 59: playpen/step.Fits -/
attribute [simp] Tryz.results59
theorem pu_59 {lent : Bool} {args : List V} {r : V} (hr : evK E (om E) 59 [] (Tryz.f59.body.getD .skip) (endK Tryz.prog Tryz.f59.results.toList (pureFin lent)) (args ++ pois (146 - args.length)) [[]] = some r) : pureV E (om E) 59 lent args = some r := pureV_of (dyn := []) rfl (by rw [E_P]; exact Tryz.func59) (by unfold Tryz.f59; rfl) (by kernel_rfl) (by rw [Tryz.ntmps59]; exact hr)
@[simp] theorem call_59 (args : List V) (h : Heap) : callV E (om E) 59 args h = (viewArgs h args).bind fun a => (pureV E (om E) 59 (!V.flatL args) a).map fun r => (r, h) := callV_pure rfl rfl args h

/-! 60: playpen/mem.From -/
attribute [simp] Tryz.results60
theorem pu_60 {lent : Bool} {args : List V} {r : V} (hr : evK E (om E) 60 [] (Tryz.f60.body.getD .skip) (endK Tryz.prog Tryz.f60.results.toList (pureFin lent)) (args ++ pois (24 - args.length)) [[]] = some r) : pureV E (om E) 60 lent args = some r := pureV_of (dyn := []) rfl (by rw [E_P]; exact Tryz.func60) (by unfold Tryz.f60; rfl) (by kernel_rfl) (by rw [Tryz.ntmps60]; exact hr)
@[simp] theorem call_60 (args : List V) (h : Heap) : callV E (om E) 60 args h = (viewArgs h args).bind fun a => (pureV E (om E) 60 (!V.flatL args) a).map fun r => (r, h) := callV_pure rfl rfl args h

/-! 61: (*playpen/mem.Memory).Log -/
attribute [simp] Tryz.results61
theorem pu_61 {lent : Bool} {args : List V} {r : V} (hr : evK E (om E) 61 [] (Tryz.f61.body.getD .skip) (endK Tryz.prog Tryz.f61.results.toList (pureFin lent)) (args ++ pois (13 - args.length)) [[]] = some r) : pureV E (om E) 61 lent args = some r := pureV_of (dyn := []) rfl (by rw [E_P]; exact Tryz.func61) (by unfold Tryz.f61; rfl) (by kernel_rfl) (by rw [Tryz.ntmps61]; exact hr)
@[simp] theorem call_61 (args : List V) (h : Heap) : callV E (om E) 61 args h = (viewArgs h args).bind fun a => (pureV E (om E) 61 (!V.flatL args) a).map fun r => (r, h) := callV_pure rfl rfl args h

/-! 62: playpen/undo.lay$1 -/
attribute [simp] Tryz.results62
theorem pu_62 {lent : Bool} {args : List V} {r : V} (hr : evK E (om E) 62 [] (Tryz.f62.body.getD .skip) (endK Tryz.prog Tryz.f62.results.toList (pureFin lent)) (args ++ pois (30 - args.length)) [[]] = some r) : pureV E (om E) 62 lent args = some r := pureV_of (dyn := []) rfl (by rw [E_P]; exact Tryz.func62) (by unfold Tryz.f62; rfl) (by kernel_rfl) (by rw [Tryz.ntmps62]; exact hr)
@[simp] theorem call_62 (args : List V) (h : Heap) : callV E (om E) 62 args h = (viewArgs h args).bind fun a => (pureV E (om E) 62 (!V.flatL args) a).map fun r => (r, h) := callV_pure rfl rfl args h

/-! 63: playpen/little.Mend -/
attribute [simp] Tryz.results63
theorem pu_63 {lent : Bool} {args : List V} {r : V} (hr : evK E (om E) 63 [] (Tryz.f63.body.getD .skip) (endK Tryz.prog Tryz.f63.results.toList (pureFin lent)) (args ++ pois (64 - args.length)) [[]] = some r) : pureV E (om E) 63 lent args = some r := pureV_of (dyn := []) rfl (by rw [E_P]; exact Tryz.func63) (by unfold Tryz.f63; rfl) (by kernel_rfl) (by rw [Tryz.ntmps63]; exact hr)
@[simp] theorem call_63 (args : List V) (h : Heap) : callV E (om E) 63 args h = (viewArgs h args).bind fun a => (pureV E (om E) 63 (!V.flatL args) a).map fun r => (r, h) := callV_pure rfl rfl args h
@[simp] theorem hint_63_0 : E.hint 63 3 = [.forget 4, .forget 5, .forget 8, .forget 9, .forget 16, .forget 17, .forget 18, .forget 19, .forget 20, .forget 21, .forget 22, .forget 23, .forget 24, .forget 25, .forget 26, .forget 27, .forget 28, .forget 29, .forget 30, .forget 31, .forget 32, .forget 33, .forget 34, .forget 35, .forget 36, .forget 37, .forget 38, .forget 39, .forget 40, .forget 41, .forget 42, .forget 43, .forget 44, .forget 45, .forget 46] := rfl
@[simp] theorem hint_63_1 : E.hint 63 12 = [.forget 12, .forget 52, .forget 53, .forget 54, .forget 55, .forget 56, .forget 57, .forget 58, .forget 59, .forget 60, .forget 61, .forget 62] := rfl

/-! 64: slices.Clone[[]playpen/api.Instr,playpen/api.Instr] -/
attribute [simp] Tryz.results64
@[simp] theorem call_64 (args : List V) (h : Heap) : callV E (om E) 64 args h = cloneW 2 args h := callV_known rfl args h

/-! 65: bytes.Clone -/
attribute [simp] Tryz.results65
@[simp] theorem call_65 (args : List V) (h : Heap) : callV E (om E) 65 args h = cloneW 1 args h := callV_known rfl args h

/-! 66: slices.Clone[[]playpen/api.Export,playpen/api.Export] -/
attribute [simp] Tryz.results66
@[simp] theorem call_66 (args : List V) (h : Heap) : callV E (om E) 66 args h = cloneW 2 args h := callV_known rfl args h

/-! 67: (*playpen/mem.Memory).Load4 -/
attribute [simp] Tryz.results67
theorem pu_67 {lent : Bool} {args : List V} {r : V} (hr : evK E (om E) 67 [] (Tryz.f67.body.getD .skip) (endK Tryz.prog Tryz.f67.results.toList (pureFin lent)) (args ++ pois (8 - args.length)) [[]] = some r) : pureV E (om E) 67 lent args = some r := pureV_of (dyn := []) rfl (by rw [E_P]; exact Tryz.func67) (by unfold Tryz.f67; rfl) (by kernel_rfl) (by rw [Tryz.ntmps67]; exact hr)
@[simp] theorem call_67 (args : List V) (h : Heap) : callV E (om E) 67 args h = (viewArgs h args).bind fun a => (pureV E (om E) 67 (!V.flatL args) a).map fun r => (r, h) := callV_pure rfl rfl args h

/-! 68: (*playpen/run.Machine).pop -/
attribute [simp] Tryz.results68
theorem pu_68 {lent : Bool} {args : List V} {r : V} (hr : evK E (om E) 68 [] (Tryz.f68.body.getD .skip) (endK Tryz.prog Tryz.f68.results.toList (pureFin lent)) (args ++ pois (28 - args.length)) [[]] = some r) : pureV E (om E) 68 lent args = some r := pureV_of (dyn := []) rfl (by rw [E_P]; exact Tryz.func68) (by unfold Tryz.f68; rfl) (by kernel_rfl) (by rw [Tryz.ntmps68]; exact hr)
@[simp] theorem call_68 (args : List V) (h : Heap) : callV E (om E) 68 args h = (viewArgs h args).bind fun a => (pureV E (om E) 68 (!V.flatL args) a).map fun r => (r, h) := callV_pure rfl rfl args h

/-! 69: (*playpen/verify.Module).Back -/
attribute [simp] Tryz.results69
theorem pu_69 {lent : Bool} {args : List V} {r : V} (hr : evK E (om E) 69 [] (Tryz.f69.body.getD .skip) (endK Tryz.prog Tryz.f69.results.toList (pureFin lent)) (args ++ pois (12 - args.length)) [[]] = some r) : pureV E (om E) 69 lent args = some r := pureV_of (dyn := []) rfl (by rw [E_P]; exact Tryz.func69) (by unfold Tryz.f69; rfl) (by kernel_rfl) (by rw [Tryz.ntmps69]; exact hr)
@[simp] theorem call_69 (args : List V) (h : Heap) : callV E (om E) 69 args h = (viewArgs h args).bind fun a => (pureV E (om E) 69 (!V.flatL args) a).map fun r => (r, h) := callV_pure rfl rfl args h

/-! 70: (*playpen/verify.Module).Depth -/
attribute [simp] Tryz.results70
theorem pu_70 {lent : Bool} {args : List V} {r : V} (hr : evK E (om E) 70 [] (Tryz.f70.body.getD .skip) (endK Tryz.prog Tryz.f70.results.toList (pureFin lent)) (args ++ pois (12 - args.length)) [[]] = some r) : pureV E (om E) 70 lent args = some r := pureV_of (dyn := []) rfl (by rw [E_P]; exact Tryz.func70) (by unfold Tryz.f70; rfl) (by kernel_rfl) (by rw [Tryz.ntmps70]; exact hr)
@[simp] theorem call_70 (args : List V) (h : Heap) : callV E (om E) 70 args h = (viewArgs h args).bind fun a => (pureV E (om E) 70 (!V.flatL args) a).map fun r => (r, h) := callV_pure rfl rfl args h

/-! 71: (*playpen/verify.Module).ProcOf -/
attribute [simp] Tryz.results71
theorem pu_71 {lent : Bool} {args : List V} {r : V} (hr : evK E (om E) 71 [] (Tryz.f71.body.getD .skip) (endK Tryz.prog Tryz.f71.results.toList (pureFin lent)) (args ++ pois (15 - args.length)) [[]] = some r) : pureV E (om E) 71 lent args = some r := pureV_of (dyn := []) rfl (by rw [E_P]; exact Tryz.func71) (by unfold Tryz.f71; rfl) (by kernel_rfl) (by rw [Tryz.ntmps71]; exact hr)
@[simp] theorem call_71 (args : List V) (h : Heap) : callV E (om E) 71 args h = (viewArgs h args).bind fun a => (pureV E (om E) 71 (!V.flatL args) a).map fun r => (r, h) := callV_pure rfl rfl args h

/-! 72: playpen/gate.Number -/
attribute [simp] Tryz.results72
theorem pu_72 {lent : Bool} {args : List V} {r : V} (hr : evK E (om E) 72 [] (Tryz.f72.body.getD .skip) (endK Tryz.prog Tryz.f72.results.toList (pureFin lent)) (args ++ pois (9 - args.length)) [[]] = some r) : pureV E (om E) 72 lent args = some r := pureV_of (dyn := []) rfl (by rw [E_P]; exact Tryz.func72) (by unfold Tryz.f72; rfl) (by kernel_rfl) (by rw [Tryz.ntmps72]; exact hr)
@[simp] theorem call_72 (args : List V) (h : Heap) : callV E (om E) 72 args h = (viewArgs h args).bind fun a => (pureV E (om E) 72 (!V.flatL args) a).map fun r => (r, h) := callV_pure rfl rfl args h

/-! 73: (*playpen/run.Machine).system -/
attribute [simp] Tryz.results73
theorem pu_73 {lent : Bool} {args : List V} {r : V} (hr : evK E (om E) 73 [] (Tryz.f73.body.getD .skip) (endK Tryz.prog Tryz.f73.results.toList (pureFin lent)) (args ++ pois (91 - args.length)) [[]] = some r) : pureV E (om E) 73 lent args = some r := pureV_of (dyn := []) rfl (by rw [E_P]; exact Tryz.func73) (by unfold Tryz.f73; rfl) (by kernel_rfl) (by rw [Tryz.ntmps73]; exact hr)
@[simp] theorem call_73 (args : List V) (h : Heap) : callV E (om E) 73 args h = (viewArgs h args).bind fun a => (pureV E (om E) 73 (!V.flatL args) a).map fun r => (r, h) := callV_pure rfl rfl args h

/-! 74: (*playpen/verify.Module).Begins -/
attribute [simp] Tryz.results74
theorem pu_74 {lent : Bool} {args : List V} {r : V} (hr : evK E (om E) 74 [] (Tryz.f74.body.getD .skip) (endK Tryz.prog Tryz.f74.results.toList (pureFin lent)) (args ++ pois (12 - args.length)) [[]] = some r) : pureV E (om E) 74 lent args = some r := pureV_of (dyn := []) rfl (by rw [E_P]; exact Tryz.func74) (by unfold Tryz.f74; rfl) (by kernel_rfl) (by rw [Tryz.ntmps74]; exact hr)
@[simp] theorem call_74 (args : List V) (h : Heap) : callV E (om E) 74 args h = (viewArgs h args).bind fun a => (pureV E (om E) 74 (!V.flatL args) a).map fun r => (r, h) := callV_pure rfl rfl args h

/-! 75: (*playpen/mem.Memory).Store4 -/
attribute [simp] Tryz.results75
theorem pu_75 {lent : Bool} {args : List V} {r : V} (hr : evK E (om E) 75 [] (Tryz.f75.body.getD .skip) (endK Tryz.prog Tryz.f75.results.toList (pureFin lent)) (args ++ pois (10 - args.length)) [[]] = some r) : pureV E (om E) 75 lent args = some r := pureV_of (dyn := []) rfl (by rw [E_P]; exact Tryz.func75) (by unfold Tryz.f75; rfl) (by kernel_rfl) (by rw [Tryz.ntmps75]; exact hr)
@[simp] theorem call_75 (args : List V) (h : Heap) : callV E (om E) 75 args h = (viewArgs h args).bind fun a => (pureV E (om E) 75 (!V.flatL args) a).map fun r => (r, h) := callV_pure rfl rfl args h

/-! 76: (*playpen/verify.Module).Legal -/
attribute [simp] Tryz.results76
theorem pu_76 {lent : Bool} {args : List V} {r : V} (hr : evK E (om E) 76 [] (Tryz.f76.body.getD .skip) (endK Tryz.prog Tryz.f76.results.toList (pureFin lent)) (args ++ pois (15 - args.length)) [[]] = some r) : pureV E (om E) 76 lent args = some r := pureV_of (dyn := []) rfl (by rw [E_P]; exact Tryz.func76) (by unfold Tryz.f76; rfl) (by kernel_rfl) (by rw [Tryz.ntmps76]; exact hr)
@[simp] theorem call_76 (args : List V) (h : Heap) : callV E (om E) 76 args h = (viewArgs h args).bind fun a => (pureV E (om E) 76 (!V.flatL args) a).map fun r => (r, h) := callV_pure rfl rfl args h

/-! 77: (*playpen/run.Machine).push -/
attribute [simp] Tryz.results77
theorem pu_77 {lent : Bool} {args : List V} {r : V} (hr : evK E (om E) 77 [] (Tryz.f77.body.getD .skip) (endK Tryz.prog Tryz.f77.results.toList (pureFin lent)) (args ++ pois (14 - args.length)) [[]] = some r) : pureV E (om E) 77 lent args = some r := pureV_of (dyn := []) rfl (by rw [E_P]; exact Tryz.func77) (by unfold Tryz.f77; rfl) (by kernel_rfl) (by rw [Tryz.ntmps77]; exact hr)
@[simp] theorem call_77 (args : List V) (h : Heap) : callV E (om E) 77 args h = (viewArgs h args).bind fun a => (pureV E (om E) 77 (!V.flatL args) a).map fun r => (r, h) := callV_pure rfl rfl args h

/-! 78: (*playpen/mem.Memory).Load1 -/
attribute [simp] Tryz.results78
theorem pu_78 {lent : Bool} {args : List V} {r : V} (hr : evK E (om E) 78 [] (Tryz.f78.body.getD .skip) (endK Tryz.prog Tryz.f78.results.toList (pureFin lent)) (args ++ pois (8 - args.length)) [[]] = some r) : pureV E (om E) 78 lent args = some r := pureV_of (dyn := []) rfl (by rw [E_P]; exact Tryz.func78) (by unfold Tryz.f78; rfl) (by kernel_rfl) (by rw [Tryz.ntmps78]; exact hr)
@[simp] theorem call_78 (args : List V) (h : Heap) : callV E (om E) 78 args h = (viewArgs h args).bind fun a => (pureV E (om E) 78 (!V.flatL args) a).map fun r => (r, h) := callV_pure rfl rfl args h

/-! 79: (*playpen/mem.Memory).Load2 -/
attribute [simp] Tryz.results79
theorem pu_79 {lent : Bool} {args : List V} {r : V} (hr : evK E (om E) 79 [] (Tryz.f79.body.getD .skip) (endK Tryz.prog Tryz.f79.results.toList (pureFin lent)) (args ++ pois (8 - args.length)) [[]] = some r) : pureV E (om E) 79 lent args = some r := pureV_of (dyn := []) rfl (by rw [E_P]; exact Tryz.func79) (by unfold Tryz.f79; rfl) (by kernel_rfl) (by rw [Tryz.ntmps79]; exact hr)
@[simp] theorem call_79 (args : List V) (h : Heap) : callV E (om E) 79 args h = (viewArgs h args).bind fun a => (pureV E (om E) 79 (!V.flatL args) a).map fun r => (r, h) := callV_pure rfl rfl args h

/-! 80: (*playpen/mem.Memory).Store1 -/
attribute [simp] Tryz.results80
theorem pu_80 {lent : Bool} {args : List V} {r : V} (hr : evK E (om E) 80 [] (Tryz.f80.body.getD .skip) (endK Tryz.prog Tryz.f80.results.toList (pureFin lent)) (args ++ pois (10 - args.length)) [[]] = some r) : pureV E (om E) 80 lent args = some r := pureV_of (dyn := []) rfl (by rw [E_P]; exact Tryz.func80) (by unfold Tryz.f80; rfl) (by kernel_rfl) (by rw [Tryz.ntmps80]; exact hr)
@[simp] theorem call_80 (args : List V) (h : Heap) : callV E (om E) 80 args h = (viewArgs h args).bind fun a => (pureV E (om E) 80 (!V.flatL args) a).map fun r => (r, h) := callV_pure rfl rfl args h

/-! 81: (*playpen/mem.Memory).Store2 -/
attribute [simp] Tryz.results81
theorem pu_81 {lent : Bool} {args : List V} {r : V} (hr : evK E (om E) 81 [] (Tryz.f81.body.getD .skip) (endK Tryz.prog Tryz.f81.results.toList (pureFin lent)) (args ++ pois (10 - args.length)) [[]] = some r) : pureV E (om E) 81 lent args = some r := pureV_of (dyn := []) rfl (by rw [E_P]; exact Tryz.func81) (by unfold Tryz.f81; rfl) (by kernel_rfl) (by rw [Tryz.ntmps81]; exact hr)
@[simp] theorem call_81 (args : List V) (h : Heap) : callV E (om E) 81 args h = (viewArgs h args).bind fun a => (pureV E (om E) 81 (!V.flatL args) a).map fun r => (r, h) := callV_pure rfl rfl args h

/-! 82: (*playpen/mem.Memory).Copy -/
attribute [simp] Tryz.results82
theorem pu_82 {lent : Bool} {args : List V} {r : V} (hr : evK E (om E) 82 [] (Tryz.f82.body.getD .skip) (endK Tryz.prog Tryz.f82.results.toList (pureFin lent)) (args ++ pois (24 - args.length)) [[]] = some r) : pureV E (om E) 82 lent args = some r := pureV_of (dyn := []) rfl (by rw [E_P]; exact Tryz.func82) (by unfold Tryz.f82; rfl) (by kernel_rfl) (by rw [Tryz.ntmps82]; exact hr)
@[simp] theorem call_82 (args : List V) (h : Heap) : callV E (om E) 82 args h = (viewArgs h args).bind fun a => (pureV E (om E) 82 (!V.flatL args) a).map fun r => (r, h) := callV_pure rfl rfl args h

/-! 83: playpen/alu.Unary -/
attribute [simp] Tryz.results83
theorem pu_83 {lent : Bool} {args : List V} {r : V} (hr : evK E (om E) 83 [] (Tryz.f83.body.getD .skip) (endK Tryz.prog Tryz.f83.results.toList (pureFin lent)) (args ++ pois (39 - args.length)) [[]] = some r) : pureV E (om E) 83 lent args = some r := pureV_of (dyn := []) rfl (by rw [E_P]; exact Tryz.func83) (by unfold Tryz.f83; rfl) (by kernel_rfl) (by rw [Tryz.ntmps83]; exact hr)
@[simp] theorem call_83 (args : List V) (h : Heap) : callV E (om E) 83 args h = (viewArgs h args).bind fun a => (pureV E (om E) 83 (!V.flatL args) a).map fun r => (r, h) := callV_pure rfl rfl args h

/-! 84: playpen/alu.Holds -/
attribute [simp] Tryz.results84
theorem pu_84 {lent : Bool} {args : List V} {r : V} (hr : evK E (om E) 84 [] (Tryz.f84.body.getD .skip) (endK Tryz.prog Tryz.f84.results.toList (pureFin lent)) (args ++ pois (74 - args.length)) [[]] = some r) : pureV E (om E) 84 lent args = some r := pureV_of (dyn := []) rfl (by rw [E_P]; exact Tryz.func84) (by unfold Tryz.f84; rfl) (by kernel_rfl) (by rw [Tryz.ntmps84]; exact hr)
@[simp] theorem call_84 (args : List V) (h : Heap) : callV E (om E) 84 args h = (viewArgs h args).bind fun a => (pureV E (om E) 84 (!V.flatL args) a).map fun r => (r, h) := callV_pure rfl rfl args h

/-! 85: playpen/alu.Binary -/
attribute [simp] Tryz.results85
theorem pu_85 {lent : Bool} {args : List V} {r : V} (hr : evK E (om E) 85 [] (Tryz.f85.body.getD .skip) (endK Tryz.prog Tryz.f85.results.toList (pureFin lent)) (args ++ pois (15 - args.length)) [[]] = some r) : pureV E (om E) 85 lent args = some r := pureV_of (dyn := []) rfl (by rw [E_P]; exact Tryz.func85) (by unfold Tryz.f85; rfl) (by kernel_rfl) (by rw [Tryz.ntmps85]; exact hr)
@[simp] theorem call_85 (args : List V) (h : Heap) : callV E (om E) 85 args h = (viewArgs h args).bind fun a => (pureV E (om E) 85 (!V.flatL args) a).map fun r => (r, h) := callV_pure rfl rfl args h

/-! 86: playpen/step.room -/
attribute [simp] Tryz.results86
theorem pu_86 {lent : Bool} {args : List V} {r : V} (hr : evK E (om E) 86 [] (Tryz.f86.body.getD .skip) (endK Tryz.prog Tryz.f86.results.toList (pureFin lent)) (args ++ pois (35 - args.length)) [[]] = some r) : pureV E (om E) 86 lent args = some r := pureV_of (dyn := []) rfl (by rw [E_P]; exact Tryz.func86) (by unfold Tryz.f86; rfl) (by kernel_rfl) (by rw [Tryz.ntmps86]; exact hr)
@[simp] theorem call_86 (args : List V) (h : Heap) : callV E (om E) 86 args h = (viewArgs h args).bind fun a => (pureV E (om E) 86 (!V.flatL args) a).map fun r => (r, h) := callV_pure rfl rfl args h

/-! 87: (*playpen/verify.Module).At -/
attribute [simp] Tryz.results87
theorem pu_87 {lent : Bool} {args : List V} {r : V} (hr : evK E (om E) 87 [] (Tryz.f87.body.getD .skip) (endK Tryz.prog Tryz.f87.results.toList (pureFin lent)) (args ++ pois (24 - args.length)) [[]] = some r) : pureV E (om E) 87 lent args = some r := pureV_of (dyn := []) rfl (by rw [E_P]; exact Tryz.func87) (by unfold Tryz.f87; rfl) (by kernel_rfl) (by rw [Tryz.ntmps87]; exact hr)
@[simp] theorem call_87 (args : List V) (h : Heap) : callV E (om E) 87 args h = (viewArgs h args).bind fun a => (pureV E (om E) 87 (!V.flatL args) a).map fun r => (r, h) := callV_pure rfl rfl args h

/-! 88: (*playpen/mem.Memory).made -/
attribute [simp] Tryz.results88
theorem pu_88 {lent : Bool} {args : List V} {r : V} (hr : evK E (om E) 88 [] (Tryz.f88.body.getD .skip) (endK Tryz.prog Tryz.f88.results.toList (pureFin lent)) (args ++ pois (13 - args.length)) [[]] = some r) : pureV E (om E) 88 lent args = some r := pureV_of (dyn := []) rfl (by rw [E_P]; exact Tryz.func88) (by unfold Tryz.f88; rfl) (by kernel_rfl) (by rw [Tryz.ntmps88]; exact hr)
@[simp] theorem call_88 (args : List V) (h : Heap) : callV E (om E) 88 args h = (viewArgs h args).bind fun a => (pureV E (om E) 88 (!V.flatL args) a).map fun r => (r, h) := callV_pure rfl rfl args h

/-! 89: slices.Clone[[]byte,byte] -/
attribute [simp] Tryz.results89
@[simp] theorem call_89 (args : List V) (h : Heap) : callV E (om E) 89 args h = cloneW 1 args h := callV_known rfl args h

/-! 90: (*playpen/mem.Memory).load -/
attribute [simp] Tryz.results90
theorem pu_90 {lent : Bool} {args : List V} {r : V} (hr : evK E (om E) 90 [] (Tryz.f90.body.getD .skip) (endK Tryz.prog Tryz.f90.results.toList (pureFin lent)) (args ++ pois (33 - args.length)) [[]] = some r) : pureV E (om E) 90 lent args = some r := pureV_of (dyn := []) rfl (by rw [E_P]; exact Tryz.func90) (by unfold Tryz.f90; rfl) (by kernel_rfl) (by rw [Tryz.ntmps90]; exact hr)
@[simp] theorem call_90 (args : List V) (h : Heap) : callV E (om E) 90 args h = (viewArgs h args).bind fun a => (pureV E (om E) 90 (!V.flatL args) a).map fun r => (r, h) := callV_pure rfl rfl args h

/-! 91: (playpen/verify.deep).Back -/
attribute [simp] Tryz.results91
theorem pu_91 {lent : Bool} {args : List V} {r : V} (hr : evK E (om E) 91 [] (Tryz.f91.body.getD .skip) (endK Tryz.prog Tryz.f91.results.toList (pureFin lent)) (args ++ pois (24 - args.length)) [[]] = some r) : pureV E (om E) 91 lent args = some r := pureV_of (dyn := []) rfl (by rw [E_P]; exact Tryz.func91) (by unfold Tryz.f91; rfl) (by kernel_rfl) (by rw [Tryz.ntmps91]; exact hr)
@[simp] theorem call_91 (args : List V) (h : Heap) : callV E (om E) 91 args h = (viewArgs h args).bind fun a => (pureV E (om E) 91 (!V.flatL args) a).map fun r => (r, h) := callV_pure rfl rfl args h

/-! 92: (playpen/verify.deep).Depth -/
attribute [simp] Tryz.results92
theorem pu_92 {lent : Bool} {args : List V} {r : V} (hr : evK E (om E) 92 [] (Tryz.f92.body.getD .skip) (endK Tryz.prog Tryz.f92.results.toList (pureFin lent)) (args ++ pois (17 - args.length)) [[]] = some r) : pureV E (om E) 92 lent args = some r := pureV_of (dyn := []) rfl (by rw [E_P]; exact Tryz.func92) (by unfold Tryz.f92; rfl) (by kernel_rfl) (by rw [Tryz.ntmps92]; exact hr)
@[simp] theorem call_92 (args : List V) (h : Heap) : callV E (om E) 92 args h = (viewArgs h args).bind fun a => (pureV E (om E) 92 (!V.flatL args) a).map fun r => (r, h) := callV_pure rfl rfl args h

/-! 93: (playpen/verify.where).ProcOf -/
attribute [simp] Tryz.results93
theorem pu_93 {lent : Bool} {args : List V} {r : V} (hr : evK E (om E) 93 [] (Tryz.f93.body.getD .skip) (endK Tryz.prog Tryz.f93.results.toList (pureFin lent)) (args ++ pois (17 - args.length)) [[]] = some r) : pureV E (om E) 93 lent args = some r := pureV_of (dyn := []) rfl (by rw [E_P]; exact Tryz.func93) (by unfold Tryz.f93; rfl) (by kernel_rfl) (by rw [Tryz.ntmps93]; exact hr)
@[simp] theorem call_93 (args : List V) (h : Heap) : callV E (om E) 93 args h = (viewArgs h args).bind fun a => (pureV E (om E) 93 (!V.flatL args) a).map fun r => (r, h) := callV_pure rfl rfl args h

/-! 94: (*playpen/gate.Gate).Words -/
attribute [simp] Tryz.results94
theorem pu_94 {lent : Bool} {args : List V} {r : V} (hr : evK E (om E) 94 [] (Tryz.f94.body.getD .skip) (endK Tryz.prog Tryz.f94.results.toList (pureFin lent)) (args ++ pois (47 - args.length)) [[]] = some r) : pureV E (om E) 94 lent args = some r := pureV_of (dyn := []) rfl (by rw [E_P]; exact Tryz.func94) (by unfold Tryz.f94; rfl) (by kernel_rfl) (by rw [Tryz.ntmps94]; exact hr)
@[simp] theorem call_94 (args : List V) (h : Heap) : callV E (om E) 94 args h = (viewArgs h args).bind fun a => (pureV E (om E) 94 (!V.flatL args) a).map fun r => (r, h) := callV_pure rfl rfl args h
@[simp] theorem hint_94_0 : E.hint 94 7 = [.promote 13 1, .forget 14, .forget 32, .forget 33, .forget 34, .forget 35, .forget 36, .forget 37, .forget 38, .forget 39, .forget 40, .forget 41, .forget 42, .forget 43, .forget 44, .forget 45] := rfl

/-! 95: (*playpen/gate.Gate).Event -/
attribute [simp] Tryz.results95
theorem pu_95 {lent : Bool} {args : List V} {r : V} (hr : evK E (om E) 95 [10] (Tryz.f95.body.getD .skip) (endK Tryz.prog Tryz.f95.results.toList (pureFin lent)) (args ++ pois (47 - args.length)) [[]] = some r) : pureV E (om E) 95 lent args = some r := pureV_of (dyn := [10]) rfl (by rw [E_P]; exact Tryz.func95) (by unfold Tryz.f95; rfl) (by kernel_rfl) (by rw [Tryz.ntmps95]; exact hr)
@[simp] theorem call_95 (args : List V) (h : Heap) : callV E (om E) 95 args h = (viewArgs h args).bind fun a => (pureV E (om E) 95 (!V.flatL args) a).map fun r => (r, h) := callV_pure rfl rfl args h

/-! 96: (*playpen/gate.Gate).Apply -/
attribute [simp] Tryz.results96
theorem pu_96 {lent : Bool} {args : List V} {r : V} (hr : evK E (om E) 96 [] (Tryz.f96.body.getD .skip) (endK Tryz.prog Tryz.f96.results.toList (pureFin lent)) (args ++ pois (38 - args.length)) [[]] = some r) : pureV E (om E) 96 lent args = some r := pureV_of (dyn := []) rfl (by rw [E_P]; exact Tryz.func96) (by unfold Tryz.f96; rfl) (by kernel_rfl) (by rw [Tryz.ntmps96]; exact hr)
@[simp] theorem call_96 (args : List V) (h : Heap) : callV E (om E) 96 args h = (viewArgs h args).bind fun a => (pureV E (om E) 96 (!V.flatL args) a).map fun r => (r, h) := callV_pure rfl rfl args h
@[simp] theorem hint_96_0 : E.hint 96 7 = [.forget 6, .forget 8, .forget 9, .forget 25, .forget 26, .forget 27, .forget 28, .forget 29, .forget 30, .forget 31, .forget 32, .forget 33, .forget 34, .forget 35, .forget 36, .forget 37] := rfl

/-! 97: (playpen/verify.where).Begins -/
attribute [simp] Tryz.results97
theorem pu_97 {lent : Bool} {args : List V} {r : V} (hr : evK E (om E) 97 [] (Tryz.f97.body.getD .skip) (endK Tryz.prog Tryz.f97.results.toList (pureFin lent)) (args ++ pois (9 - args.length)) [[]] = some r) : pureV E (om E) 97 lent args = some r := pureV_of (dyn := []) rfl (by rw [E_P]; exact Tryz.func97) (by unfold Tryz.f97; rfl) (by kernel_rfl) (by rw [Tryz.ntmps97]; exact hr)
@[simp] theorem call_97 (args : List V) (h : Heap) : callV E (om E) 97 args h = (viewArgs h args).bind fun a => (pureV E (om E) 97 (!V.flatL args) a).map fun r => (r, h) := callV_pure rfl rfl args h

/-! 98: (*playpen/mem.Memory).store -/
attribute [simp] Tryz.results98
theorem pu_98 {lent : Bool} {args : List V} {r : V} (hr : evK E (om E) 98 [] (Tryz.f98.body.getD .skip) (endK Tryz.prog Tryz.f98.results.toList (pureFin lent)) (args ++ pois (29 - args.length)) [[]] = some r) : pureV E (om E) 98 lent args = some r := pureV_of (dyn := []) rfl (by rw [E_P]; exact Tryz.func98) (by unfold Tryz.f98; rfl) (by kernel_rfl) (by rw [Tryz.ntmps98]; exact hr)
@[simp] theorem call_98 (args : List V) (h : Heap) : callV E (om E) 98 args h = (viewArgs h args).bind fun a => (pureV E (om E) 98 (!V.flatL args) a).map fun r => (r, h) := callV_pure rfl rfl args h

/-! 99: (playpen/verify.where).Legal -/
attribute [simp] Tryz.results99
theorem pu_99 {lent : Bool} {args : List V} {r : V} (hr : evK E (om E) 99 [] (Tryz.f99.body.getD .skip) (endK Tryz.prog Tryz.f99.results.toList (pureFin lent)) (args ++ pois (12 - args.length)) [[]] = some r) : pureV E (om E) 99 lent args = some r := pureV_of (dyn := []) rfl (by rw [E_P]; exact Tryz.func99) (by unfold Tryz.f99; rfl) (by kernel_rfl) (by rw [Tryz.ntmps99]; exact hr)
@[simp] theorem call_99 (args : List V) (h : Heap) : callV E (om E) 99 args h = (viewArgs h args).bind fun a => (pureV E (om E) 99 (!V.flatL args) a).map fun r => (r, h) := callV_pure rfl rfl args h

/-! 100: (*playpen/mem.Memory).write -/
attribute [simp] Tryz.results100
theorem pu_100 {lent : Bool} {args : List V} {r : V} (hr : evK E (om E) 100 [2] (Tryz.f100.body.getD .skip) (endK Tryz.prog Tryz.f100.results.toList (pureFin lent)) (args ++ pois (27 - args.length)) [[]] = some r) : pureV E (om E) 100 lent args = some r := pureV_of (dyn := [2]) rfl (by rw [E_P]; exact Tryz.func100) (by unfold Tryz.f100; rfl) (by kernel_rfl) (by rw [Tryz.ntmps100]; exact hr)
@[simp] theorem call_100 (args : List V) (h : Heap) : callV E (om E) 100 args h = (viewArgs h args).bind fun a => (pureV E (om E) 100 (!V.flatL args) a).map fun r => (r, h) := callV_pure rfl rfl args h

/-! 101: (*playpen/mem.Memory).read -/
attribute [simp] Tryz.results101
theorem pu_101 {lent : Bool} {args : List V} {r : V} (hr : evK E (om E) 101 [3] (Tryz.f101.body.getD .skip) (endK Tryz.prog Tryz.f101.results.toList (pureFin lent)) (args ++ pois (31 - args.length)) [[]] = some r) : pureV E (om E) 101 lent args = some r := pureV_of (dyn := [3]) rfl (by rw [E_P]; exact Tryz.func101) (by unfold Tryz.f101; rfl) (by kernel_rfl) (by rw [Tryz.ntmps101]; exact hr)
@[simp] theorem call_101 (args : List V) (h : Heap) : callV E (om E) 101 args h = (viewArgs h args).bind fun a => (pureV E (om E) 101 (!V.flatL args) a).map fun r => (r, h) := callV_pure rfl rfl args h

/-! 102: playpen/single.Turned -/
attribute [simp] Tryz.results102
theorem pu_102 {lent : Bool} {args : List V} {r : V} (hr : evK E (om E) 102 [] (Tryz.f102.body.getD .skip) (endK Tryz.prog Tryz.f102.results.toList (pureFin lent)) (args ++ pois (5 - args.length)) [[]] = some r) : pureV E (om E) 102 lent args = some r := pureV_of (dyn := []) rfl (by rw [E_P]; exact Tryz.func102) (by unfold Tryz.f102; rfl) (by kernel_rfl) (by rw [Tryz.ntmps102]; exact hr)
@[simp] theorem call_102 (args : List V) (h : Heap) : callV E (om E) 102 args h = (viewArgs h args).bind fun a => (pureV E (om E) 102 (!V.flatL args) a).map fun r => (r, h) := callV_pure rfl rfl args h

/-! 103: playpen/single.Of -/
attribute [simp] Tryz.results103
theorem pu_103 {lent : Bool} {args : List V} {r : V} (hr : evK E (om E) 103 [] (Tryz.f103.body.getD .skip) (endK Tryz.prog Tryz.f103.results.toList (pureFin lent)) (args ++ pois (6 - args.length)) [[]] = some r) : pureV E (om E) 103 lent args = some r := pureV_of (dyn := []) rfl (by rw [E_P]; exact Tryz.func103) (by unfold Tryz.f103; rfl) (by kernel_rfl) (by rw [Tryz.ntmps103]; exact hr)
@[simp] theorem call_103 (args : List V) (h : Heap) : callV E (om E) 103 args h = (viewArgs h args).bind fun a => (pureV E (om E) 103 (!V.flatL args) a).map fun r => (r, h) := callV_pure rfl rfl args h

/-! 104: playpen/single.Toward -/
attribute [simp] Tryz.results104
theorem pu_104 {lent : Bool} {args : List V} {r : V} (hr : evK E (om E) 104 [] (Tryz.f104.body.getD .skip) (endK Tryz.prog Tryz.f104.results.toList (pureFin lent)) (args ++ pois (18 - args.length)) [[]] = some r) : pureV E (om E) 104 lent args = some r := pureV_of (dyn := []) rfl (by rw [E_P]; exact Tryz.func104) (by unfold Tryz.f104; rfl) (by kernel_rfl) (by rw [Tryz.ntmps104]; exact hr)
@[simp] theorem call_104 (args : List V) (h : Heap) : callV E (om E) 104 args h = (viewArgs h args).bind fun a => (pureV E (om E) 104 (!V.flatL args) a).map fun r => (r, h) := callV_pure rfl rfl args h

/-! 105: playpen/alu.float -/
attribute [simp] Tryz.results105
theorem pu_105 {lent : Bool} {args : List V} {r : V} (hr : evK E (om E) 105 [] (Tryz.f105.body.getD .skip) (endK Tryz.prog Tryz.f105.results.toList (pureFin lent)) (args ++ pois (39 - args.length)) [[]] = some r) : pureV E (om E) 105 lent args = some r := pureV_of (dyn := []) rfl (by rw [E_P]; exact Tryz.func105) (by unfold Tryz.f105; rfl) (by kernel_rfl) (by rw [Tryz.ntmps105]; exact hr)
@[simp] theorem call_105 (args : List V) (h : Heap) : callV E (om E) 105 args h = (viewArgs h args).bind fun a => (pureV E (om E) 105 (!V.flatL args) a).map fun r => (r, h) := callV_pure rfl rfl args h

/-! 106: playpen/single.Stand -/
attribute [simp] Tryz.results106
theorem pu_106 {lent : Bool} {args : List V} {r : V} (hr : evK E (om E) 106 [] (Tryz.f106.body.getD .skip) (endK Tryz.prog Tryz.f106.results.toList (pureFin lent)) (args ++ pois (23 - args.length)) [[]] = some r) : pureV E (om E) 106 lent args = some r := pureV_of (dyn := []) rfl (by rw [E_P]; exact Tryz.func106) (by unfold Tryz.f106; rfl) (by kernel_rfl) (by rw [Tryz.ntmps106]; exact hr)
@[simp] theorem call_106 (args : List V) (h : Heap) : callV E (om E) 106 args h = (viewArgs h args).bind fun a => (pureV E (om E) 106 (!V.flatL args) a).map fun r => (r, h) := callV_pure rfl rfl args h

/-! 107: playpen/alu.Binary$1 -/
attribute [simp] Tryz.results107
theorem pu_107 {lent : Bool} {args : List V} {r : V} (hr : evK E (om E) 107 [] (Tryz.f107.body.getD .skip) (endK Tryz.prog Tryz.f107.results.toList (pureFin lent)) (args ++ pois (4 - args.length)) [[]] = some r) : pureV E (om E) 107 lent args = some r := pureV_of (dyn := []) rfl (by rw [E_P]; exact Tryz.func107) (by unfold Tryz.f107; rfl) (by kernel_rfl) (by rw [Tryz.ntmps107]; exact hr)
@[simp] theorem call_107 (args : List V) (h : Heap) : callV E (om E) 107 args h = (viewArgs h args).bind fun a => (pureV E (om E) 107 (!V.flatL args) a).map fun r => (r, h) := callV_pure rfl rfl args h

/-! 108: playpen/alu.binary -/
attribute [simp] Tryz.results108
theorem pu_108 {lent : Bool} {args : List V} {r : V} (hr : evK E (om E) 108 [] (Tryz.f108.body.getD .skip) (endK Tryz.prog Tryz.f108.results.toList (pureFin lent)) (args ++ pois (105 - args.length)) [[]] = some r) : pureV E (om E) 108 lent args = some r := pureV_of (dyn := []) rfl (by rw [E_P]; exact Tryz.func108) (by unfold Tryz.f108; rfl) (by kernel_rfl) (by rw [Tryz.ntmps108]; exact hr)
@[simp] theorem call_108 (args : List V) (h : Heap) : callV E (om E) 108 args h = (viewArgs h args).bind fun a => (pureV E (om E) 108 (!V.flatL args) a).map fun r => (r, h) := callV_pure rfl rfl args h

/-! 109: (*playpen/mem.Memory).each -/
attribute [simp] Tryz.results109
theorem pu_109 {lent : Bool} {args : List V} {r : V} (hr : evK E (om E) 109 [] (Tryz.f109.body.getD .skip) (endK Tryz.prog Tryz.f109.results.toList (pureFin lent)) (args ++ pois (51 - args.length)) [[]] = some r) : pureV E (om E) 109 lent args = some r := pureV_of (dyn := []) rfl (by rw [E_P]; exact Tryz.func109) (by unfold Tryz.f109; rfl) (by kernel_rfl) (by rw [Tryz.ntmps109]; exact hr)
@[simp] theorem call_109 (args : List V) (h : Heap) : callV E (om E) 109 args h = (viewArgs h args).bind fun a => (pureV E (om E) 109 (!V.flatL args) a).map fun r => (r, h) := callV_pure rfl rfl args h
@[simp] theorem hint_109_0 : E.hint 109 1 = [.promoteBox 0 2 2, .forget 10, .forget 11, .forget 14, .forget 15, .forget 16, .forget 17, .forget 18, .forget 19, .forget 20, .forget 21, .forget 22, .forget 23, .forget 24, .forget 25, .forget 26, .forget 27, .forget 28, .forget 29, .forget 30, .forget 31, .forget 32, .forget 33, .forget 34, .forget 35, .forget 36, .forget 37, .forget 38, .forget 39, .forget 40, .forget 41, .forget 42, .forget 43, .forget 44, .forget 45, .forget 46, .forget 47, .forget 48, .forget 49, .forget 50] := rfl

/-! 110: (*playpen/mem.Memory).load$1 -/
attribute [simp] Tryz.results110
theorem pu_110 {lent : Bool} {args : List V} {r : V} (hr : evK E (om E) 110 [] (Tryz.f110.body.getD .skip) (endK Tryz.prog Tryz.f110.results.toList (pureFin lent)) (args ++ pois (15 - args.length)) [[]] = some r) : pureV E (om E) 110 lent args = some r := pureV_of (dyn := []) rfl (by rw [E_P]; exact Tryz.func110) (by unfold Tryz.f110; rfl) (by kernel_rfl) (by rw [Tryz.ntmps110]; exact hr)
@[simp] theorem call_110 (args : List V) (h : Heap) : callV E (om E) 110 args h = (viewArgs h args).bind fun a => (pureV E (om E) 110 (!V.flatL args) a).map fun r => (r, h) := callV_pure rfl rfl args h

/-! 111: (*playpen/procs.Procs).Of -/
attribute [simp] Tryz.results111
theorem pu_111 {lent : Bool} {args : List V} {r : V} (hr : evK E (om E) 111 [] (Tryz.f111.body.getD .skip) (endK Tryz.prog Tryz.f111.results.toList (pureFin lent)) (args ++ pois (24 - args.length)) [[]] = some r) : pureV E (om E) 111 lent args = some r := pureV_of (dyn := []) rfl (by rw [E_P]; exact Tryz.func111) (by unfold Tryz.f111; rfl) (by kernel_rfl) (by rw [Tryz.ntmps111]; exact hr)
@[simp] theorem call_111 (args : List V) (h : Heap) : callV E (om E) 111 args h = (viewArgs h args).bind fun a => (pureV E (om E) 111 (!V.flatL args) a).map fun r => (r, h) := callV_pure rfl rfl args h

/-! 112: (playpen/verify.where).proc -/
attribute [simp] Tryz.results112
theorem pu_112 {lent : Bool} {args : List V} {r : V} (hr : evK E (om E) 112 [] (Tryz.f112.body.getD .skip) (endK Tryz.prog Tryz.f112.results.toList (pureFin lent)) (args ++ pois (21 - args.length)) [[]] = some r) : pureV E (om E) 112 lent args = some r := pureV_of (dyn := []) rfl (by rw [E_P]; exact Tryz.func112) (by unfold Tryz.f112; rfl) (by kernel_rfl) (by rw [Tryz.ntmps112]; exact hr)
@[simp] theorem call_112 (args : List V) (h : Heap) : callV E (om E) 112 args h = (viewArgs h args).bind fun a => (pureV E (om E) 112 (!V.flatL args) a).map fun r => (r, h) := callV_pure rfl rfl args h

/-! 113: (*playpen/gate.Gate).Granted -/
attribute [simp] Tryz.results113
theorem pu_113 {lent : Bool} {args : List V} {r : V} (hr : evK E (om E) 113 [] (Tryz.f113.body.getD .skip) (endK Tryz.prog Tryz.f113.results.toList (pureFin lent)) (args ++ pois (22 - args.length)) [[]] = some r) : pureV E (om E) 113 lent args = some r := pureV_of (dyn := []) rfl (by rw [E_P]; exact Tryz.func113) (by unfold Tryz.f113; rfl) (by kernel_rfl) (by rw [Tryz.ntmps113]; exact hr)
@[simp] theorem call_113 (args : List V) (h : Heap) : callV E (om E) 113 args h = (viewArgs h args).bind fun a => (pureV E (om E) 113 (!V.flatL args) a).map fun r => (r, h) := callV_pure rfl rfl args h

/-! 114: (*playpen/mem.Memory).Bits -/
attribute [simp] Tryz.results114
theorem pu_114 {lent : Bool} {args : List V} {r : V} (hr : evK E (om E) 114 [] (Tryz.f114.body.getD .skip) (endK Tryz.prog Tryz.f114.results.toList (pureFin lent)) (args ++ pois (19 - args.length)) [[]] = some r) : pureV E (om E) 114 lent args = some r := pureV_of (dyn := []) rfl (by rw [E_P]; exact Tryz.func114) (by unfold Tryz.f114; rfl) (by kernel_rfl) (by rw [Tryz.ntmps114]; exact hr)
@[simp] theorem call_114 (args : List V) (h : Heap) : callV E (om E) 114 args h = (viewArgs h args).bind fun a => (pureV E (om E) 114 (!V.flatL args) a).map fun r => (r, h) := callV_pure rfl rfl args h
@[simp] theorem hint_114_0 : E.hint 114 2 = [.forget 4, .forget 5, .forget 6, .forget 7, .forget 8, .forget 9, .forget 10, .forget 11, .forget 12, .forget 13, .forget 14, .forget 15, .forget 16, .forget 17] := rfl

/-! 115: (*playpen/gate.Gate).made -/
attribute [simp] Tryz.results115
theorem pu_115 {lent : Bool} {args : List V} {r : V} (hr : evK E (om E) 115 [] (Tryz.f115.body.getD .skip) (endK Tryz.prog Tryz.f115.results.toList (pureFin lent)) (args ++ pois (12 - args.length)) [[]] = some r) : pureV E (om E) 115 lent args = some r := pureV_of (dyn := []) rfl (by rw [E_P]; exact Tryz.func115) (by unfold Tryz.f115; rfl) (by kernel_rfl) (by rw [Tryz.ntmps115]; exact hr)
@[simp] theorem call_115 (args : List V) (h : Heap) : callV E (om E) 115 args h = (viewArgs h args).bind fun a => (pureV E (om E) 115 (!V.flatL args) a).map fun r => (r, h) := callV_pure rfl rfl args h

/-! 116: playpen/gate.Fits -/
attribute [simp] Tryz.results116
theorem pu_116 {lent : Bool} {args : List V} {r : V} (hr : evK E (om E) 116 [] (Tryz.f116.body.getD .skip) (endK Tryz.prog Tryz.f116.results.toList (pureFin lent)) (args ++ pois (21 - args.length)) [[]] = some r) : pureV E (om E) 116 lent args = some r := pureV_of (dyn := []) rfl (by rw [E_P]; exact Tryz.func116) (by unfold Tryz.f116; rfl) (by kernel_rfl) (by rw [Tryz.ntmps116]; exact hr)
@[simp] theorem call_116 (args : List V) (h : Heap) : callV E (om E) 116 args h = (viewArgs h args).bind fun a => (pureV E (om E) 116 (!V.flatL args) a).map fun r => (r, h) := callV_pure rfl rfl args h
@[simp] theorem hint_116_0 : E.hint 116 4 = [.forget 2, .forget 4, .forget 13, .forget 14, .forget 15, .forget 16, .forget 17, .forget 18, .forget 19, .forget 20] := rfl

/-! 117: (*playpen/mem.Memory).Write -/
attribute [simp] Tryz.results117
theorem pu_117 {lent : Bool} {args : List V} {r : V} (hr : evK E (om E) 117 [] (Tryz.f117.body.getD .skip) (endK Tryz.prog Tryz.f117.results.toList (pureFin lent)) (args ++ pois (19 - args.length)) [[]] = some r) : pureV E (om E) 117 lent args = some r := pureV_of (dyn := []) rfl (by rw [E_P]; exact Tryz.func117) (by unfold Tryz.f117; rfl) (by kernel_rfl) (by rw [Tryz.ntmps117]; exact hr)
@[simp] theorem call_117 (args : List V) (h : Heap) : callV E (om E) 117 args h = (viewArgs h args).bind fun a => (pureV E (om E) 117 (!V.flatL args) a).map fun r => (r, h) := callV_pure rfl rfl args h

/-! 118: (*playpen/procs.Procs).Begins -/
attribute [simp] Tryz.results118
theorem pu_118 {lent : Bool} {args : List V} {r : V} (hr : evK E (om E) 118 [] (Tryz.f118.body.getD .skip) (endK Tryz.prog Tryz.f118.results.toList (pureFin lent)) (args ++ pois (22 - args.length)) [[]] = some r) : pureV E (om E) 118 lent args = some r := pureV_of (dyn := []) rfl (by rw [E_P]; exact Tryz.func118) (by unfold Tryz.f118; rfl) (by kernel_rfl) (by rw [Tryz.ntmps118]; exact hr)
@[simp] theorem call_118 (args : List V) (h : Heap) : callV E (om E) 118 args h = (viewArgs h args).bind fun a => (pureV E (om E) 118 (!V.flatL args) a).map fun r => (r, h) := callV_pure rfl rfl args h

/-! 119: (*playpen/mem.Memory).store$1 -/
attribute [simp] Tryz.results119
theorem pu_119 {lent : Bool} {args : List V} {r : V} (hr : evK E (om E) 119 [] (Tryz.f119.body.getD .skip) (endK Tryz.prog Tryz.f119.results.toList (pureFin lent)) (args ++ pois (15 - args.length)) [[]] = some r) : pureV E (om E) 119 lent args = some r := pureV_of (dyn := []) rfl (by rw [E_P]; exact Tryz.func119) (by unfold Tryz.f119; rfl) (by kernel_rfl) (by rw [Tryz.ntmps119]; exact hr)
@[simp] theorem call_119 (args : List V) (h : Heap) : callV E (om E) 119 args h = (viewArgs h args).bind fun a => (pureV E (om E) 119 (!V.flatL args) a).map fun r => (r, h) := callV_pure rfl rfl args h

/-! 120: (*playpen/procs.Procs).Legal -/
attribute [simp] Tryz.results120
theorem pu_120 {lent : Bool} {args : List V} {r : V} (hr : evK E (om E) 120 [] (Tryz.f120.body.getD .skip) (endK Tryz.prog Tryz.f120.results.toList (pureFin lent)) (args ++ pois (28 - args.length)) [[]] = some r) : pureV E (om E) 120 lent args = some r := pureV_of (dyn := []) rfl (by rw [E_P]; exact Tryz.func120) (by unfold Tryz.f120; rfl) (by kernel_rfl) (by rw [Tryz.ntmps120]; exact hr)
@[simp] theorem call_120 (args : List V) (h : Heap) : callV E (om E) 120 args h = (viewArgs h args).bind fun a => (pureV E (om E) 120 (!V.flatL args) a).map fun r => (r, h) := callV_pure rfl rfl args h

/-! 121: (*playpen/mem.Memory).plain -/
attribute [simp] Tryz.results121
theorem pu_121 {lent : Bool} {args : List V} {r : V} (hr : evK E (om E) 121 [] (Tryz.f121.body.getD .skip) (endK Tryz.prog Tryz.f121.results.toList (pureFin lent)) (args ++ pois (26 - args.length)) [[]] = some r) : pureV E (om E) 121 lent args = some r := pureV_of (dyn := []) rfl (by rw [E_P]; exact Tryz.func121) (by unfold Tryz.f121; rfl) (by kernel_rfl) (by rw [Tryz.ntmps121]; exact hr)
@[simp] theorem call_121 (args : List V) (h : Heap) : callV E (om E) 121 args h = (viewArgs h args).bind fun a => (pureV E (om E) 121 (!V.flatL args) a).map fun r => (r, h) := callV_pure rfl rfl args h

/-! 122: (*playpen/mem.Memory).place -/
attribute [simp] Tryz.results122
theorem pu_122 {lent : Bool} {args : List V} {r : V} (hr : evK E (om E) 122 [] (Tryz.f122.body.getD .skip) (endK Tryz.prog Tryz.f122.results.toList (pureFin lent)) (args ++ pois (14 - args.length)) [[]] = some r) : pureV E (om E) 122 lent args = some r := pureV_of (dyn := []) rfl (by rw [E_P]; exact Tryz.func122) (by unfold Tryz.f122; rfl) (by kernel_rfl) (by rw [Tryz.ntmps122]; exact hr)
@[simp] theorem call_122 (args : List V) (h : Heap) : callV E (om E) 122 args h = (viewArgs h args).bind fun a => (pureV E (om E) 122 (!V.flatL args) a).map fun r => (r, h) := callV_pure rfl rfl args h

/-! 123: (*playpen/mem.Memory).write$1 -/
attribute [simp] Tryz.results123
theorem pu_123 {lent : Bool} {args : List V} {r : V} (hr : evK E (om E) 123 [] (Tryz.f123.body.getD .skip) (endK Tryz.prog Tryz.f123.results.toList (pureFin lent)) (args ++ pois (16 - args.length)) [[]] = some r) : pureV E (om E) 123 lent args = some r := pureV_of (dyn := []) rfl (by rw [E_P]; exact Tryz.func123) (by unfold Tryz.f123; rfl) (by kernel_rfl) (by rw [Tryz.ntmps123]; exact hr)
@[simp] theorem call_123 (args : List V) (h : Heap) : callV E (om E) 123 args h = (viewArgs h args).bind fun a => (pureV E (om E) 123 (!V.flatL args) a).map fun r => (r, h) := callV_pure rfl rfl args h

/-! 124: (*playpen/mem.Memory).read$1 -/
attribute [simp] Tryz.results124
theorem pu_124 {lent : Bool} {args : List V} {r : V} (hr : evK E (om E) 124 [] (Tryz.f124.body.getD .skip) (endK Tryz.prog Tryz.f124.results.toList (pureFin lent)) (args ++ pois (16 - args.length)) [[]] = some r) : pureV E (om E) 124 lent args = some r := pureV_of (dyn := []) rfl (by rw [E_P]; exact Tryz.func124) (by unfold Tryz.f124; rfl) (by kernel_rfl) (by rw [Tryz.ntmps124]; exact hr)
@[simp] theorem call_124 (args : List V) (h : Heap) : callV E (om E) 124 args h = (viewArgs h args).bind fun a => (pureV E (om E) 124 (!V.flatL args) a).map fun r => (r, h) := callV_pure rfl rfl args h

/-! 125: playpen/single.word -/
attribute [simp] Tryz.results125
theorem pu_125 {lent : Bool} {args : List V} {r : V} (hr : evK E (om E) 125 [] (Tryz.f125.body.getD .skip) (endK Tryz.prog Tryz.f125.results.toList (pureFin lent)) (args ++ pois (8 - args.length)) [[]] = some r) : pureV E (om E) 125 lent args = some r := pureV_of (dyn := []) rfl (by rw [E_P]; exact Tryz.func125) (by unfold Tryz.f125; rfl) (by kernel_rfl) (by rw [Tryz.ntmps125]; exact hr)
@[simp] theorem call_125 (args : List V) (h : Heap) : callV E (om E) 125 args h = (viewArgs h args).bind fun a => (pureV E (om E) 125 (!V.flatL args) a).map fun r => (r, h) := callV_pure rfl rfl args h

/-! 126: playpen/single.number -/
attribute [simp] Tryz.results126
theorem pu_126 {lent : Bool} {args : List V} {r : V} (hr : evK E (om E) 126 [] (Tryz.f126.body.getD .skip) (endK Tryz.prog Tryz.f126.results.toList (pureFin lent)) (args ++ pois (5 - args.length)) [[]] = some r) : pureV E (om E) 126 lent args = some r := pureV_of (dyn := []) rfl (by rw [E_P]; exact Tryz.func126) (by unfold Tryz.f126; rfl) (by kernel_rfl) (by rw [Tryz.ntmps126]; exact hr)
@[simp] theorem call_126 (args : List V) (h : Heap) : callV E (om E) 126 args h = (viewArgs h args).bind fun a => (pureV E (om E) 126 (!V.flatL args) a).map fun r => (r, h) := callV_pure rfl rfl args h

/-! 127: playpen/single.Sum -/
attribute [simp] Tryz.results127
theorem pu_127 {lent : Bool} {args : List V} {r : V} (hr : evK E (om E) 127 [] (Tryz.f127.body.getD .skip) (endK Tryz.prog Tryz.f127.results.toList (pureFin lent)) (args ++ pois (11 - args.length)) [[]] = some r) : pureV E (om E) 127 lent args = some r := pureV_of (dyn := []) rfl (by rw [E_P]; exact Tryz.func127) (by unfold Tryz.f127; rfl) (by kernel_rfl) (by rw [Tryz.ntmps127]; exact hr)
@[simp] theorem call_127 (args : List V) (h : Heap) : callV E (om E) 127 args h = (viewArgs h args).bind fun a => (pureV E (om E) 127 (!V.flatL args) a).map fun r => (r, h) := callV_pure rfl rfl args h

/-! 128: playpen/single.Rest -/
attribute [simp] Tryz.results128
theorem pu_128 {lent : Bool} {args : List V} {r : V} (hr : evK E (om E) 128 [] (Tryz.f128.body.getD .skip) (endK Tryz.prog Tryz.f128.results.toList (pureFin lent)) (args ++ pois (11 - args.length)) [[]] = some r) : pureV E (om E) 128 lent args = some r := pureV_of (dyn := []) rfl (by rw [E_P]; exact Tryz.func128) (by unfold Tryz.f128; rfl) (by kernel_rfl) (by rw [Tryz.ntmps128]; exact hr)
@[simp] theorem call_128 (args : List V) (h : Heap) : callV E (om E) 128 args h = (viewArgs h args).bind fun a => (pureV E (om E) 128 (!V.flatL args) a).map fun r => (r, h) := callV_pure rfl rfl args h

/-! 129: playpen/single.Product -/
attribute [simp] Tryz.results129
theorem pu_129 {lent : Bool} {args : List V} {r : V} (hr : evK E (om E) 129 [] (Tryz.f129.body.getD .skip) (endK Tryz.prog Tryz.f129.results.toList (pureFin lent)) (args ++ pois (11 - args.length)) [[]] = some r) : pureV E (om E) 129 lent args = some r := pureV_of (dyn := []) rfl (by rw [E_P]; exact Tryz.func129) (by unfold Tryz.f129; rfl) (by kernel_rfl) (by rw [Tryz.ntmps129]; exact hr)
@[simp] theorem call_129 (args : List V) (h : Heap) : callV E (om E) 129 args h = (viewArgs h args).bind fun a => (pureV E (om E) 129 (!V.flatL args) a).map fun r => (r, h) := callV_pure rfl rfl args h

/-! 130: playpen/single.Ratio -/
attribute [simp] Tryz.results130
theorem pu_130 {lent : Bool} {args : List V} {r : V} (hr : evK E (om E) 130 [] (Tryz.f130.body.getD .skip) (endK Tryz.prog Tryz.f130.results.toList (pureFin lent)) (args ++ pois (11 - args.length)) [[]] = some r) : pureV E (om E) 130 lent args = some r := pureV_of (dyn := []) rfl (by rw [E_P]; exact Tryz.func130) (by unfold Tryz.f130; rfl) (by kernel_rfl) (by rw [Tryz.ntmps130]; exact hr)
@[simp] theorem call_130 (args : List V) (h : Heap) : callV E (om E) 130 args h = (viewArgs h args).bind fun a => (pureV E (om E) 130 (!V.flatL args) a).map fun r => (r, h) := callV_pure rfl rfl args h

/-! 131: (*playpen/procs.Procs).Proc -/
attribute [simp] Tryz.results131
theorem pu_131 {lent : Bool} {args : List V} {r : V} (hr : evK E (om E) 131 [] (Tryz.f131.body.getD .skip) (endK Tryz.prog Tryz.f131.results.toList (pureFin lent)) (args ++ pois (29 - args.length)) [[]] = some r) : pureV E (om E) 131 lent args = some r := pureV_of (dyn := []) rfl (by rw [E_P]; exact Tryz.func131) (by unfold Tryz.f131; rfl) (by kernel_rfl) (by rw [Tryz.ntmps131]; exact hr)
@[simp] theorem call_131 (args : List V) (h : Heap) : callV E (om E) 131 args h = (viewArgs h args).bind fun a => (pureV E (om E) 131 (!V.flatL args) a).map fun r => (r, h) := callV_pure rfl rfl args h

/-! 132: slices.BinarySearch[[]uint32,uint32] -/
attribute [simp] Tryz.results132
theorem pu_132 {lent : Bool} {args : List V} {r : V} (hr : evK E (om E) 132 [] (Tryz.f132.body.getD .skip) (endK Tryz.prog Tryz.f132.results.toList (pureFin lent)) (args ++ pois (54 - args.length)) [[]] = some r) : pureV E (om E) 132 lent args = some r := pureV_of (dyn := []) rfl (by rw [E_P]; exact Tryz.func132) (by unfold Tryz.f132; rfl) (by kernel_rfl) (by rw [Tryz.ntmps132]; exact hr)
@[simp] theorem call_132 (args : List V) (h : Heap) : callV E (om E) 132 args h = (viewArgs h args).bind fun a => (pureV E (om E) 132 (!V.flatL args) a).map fun r => (r, h) := callV_pure rfl rfl args h
@[simp] theorem hint_132_0 : E.hint 132 3 = [.forget 9, .forget 13, .forget 14, .forget 15, .forget 16, .forget 17, .forget 18, .forget 19, .forget 20, .forget 21, .forget 22, .forget 23, .forget 24, .forget 25, .forget 26, .forget 27, .forget 28, .forget 29, .forget 30] := rfl

/-! 135: cmp.Less[uint32] -/
attribute [simp] Tryz.results135
theorem pu_135 {lent : Bool} {args : List V} {r : V} (hr : evK E (om E) 135 [] (Tryz.f135.body.getD .skip) (endK Tryz.prog Tryz.f135.results.toList (pureFin lent)) (args ++ pois (17 - args.length)) [[]] = some r) : pureV E (om E) 135 lent args = some r := pureV_of (dyn := []) rfl (by rw [E_P]; exact Tryz.func135) (by unfold Tryz.f135; rfl) (by kernel_rfl) (by rw [Tryz.ntmps135]; exact hr)
@[simp] theorem call_135 (args : List V) (h : Heap) : callV E (om E) 135 args h = (viewArgs h args).bind fun a => (pureV E (om E) 135 (!V.flatL args) a).map fun r => (r, h) := callV_pure rfl rfl args h

/-! 136: slices.isNaN[uint32] -/
attribute [simp] Tryz.results136
theorem pu_136 {lent : Bool} {args : List V} {r : V} (hr : evK E (om E) 136 [] (Tryz.f136.body.getD .skip) (endK Tryz.prog Tryz.f136.results.toList (pureFin lent)) (args ++ pois (6 - args.length)) [[]] = some r) : pureV E (om E) 136 lent args = some r := pureV_of (dyn := []) rfl (by rw [E_P]; exact Tryz.func136) (by unfold Tryz.f136; rfl) (by kernel_rfl) (by rw [Tryz.ntmps136]; exact hr)
@[simp] theorem call_136 (args : List V) (h : Heap) : callV E (om E) 136 args h = (viewArgs h args).bind fun a => (pureV E (om E) 136 (!V.flatL args) a).map fun r => (r, h) := callV_pure rfl rfl args h

/-! 137: cmp.isNaN[uint32] -/
attribute [simp] Tryz.results137
theorem pu_137 {lent : Bool} {args : List V} {r : V} (hr : evK E (om E) 137 [] (Tryz.f137.body.getD .skip) (endK Tryz.prog Tryz.f137.results.toList (pureFin lent)) (args ++ pois (6 - args.length)) [[]] = some r) : pureV E (om E) 137 lent args = some r := pureV_of (dyn := []) rfl (by rw [E_P]; exact Tryz.func137) (by unfold Tryz.f137; rfl) (by kernel_rfl) (by rw [Tryz.ntmps137]; exact hr)
@[simp] theorem call_137 (args : List V) (h : Heap) : callV E (om E) 137 args h = (viewArgs h args).bind fun a => (pureV E (om E) 137 (!V.flatL args) a).map fun r => (r, h) := callV_pure rfl rfl args h

/-! 154: (*playpen/run.Machine).Go -/
attribute [simp] Tryz.results154
theorem pu_154 {lent : Bool} {args : List V} {r : V} (hr : evK E (om E) 154 [9, 15] (Tryz.f154.body.getD .skip) (endK Tryz.prog Tryz.f154.results.toList (pureFin lent)) (args ++ pois (62 - args.length)) [[]] = some r) : pureV E (om E) 154 lent args = some r := pureV_of (dyn := [9, 15]) rfl (by rw [E_P]; exact Tryz.func154) (by unfold Tryz.f154; rfl) (by kernel_rfl) (by rw [Tryz.ntmps154]; exact hr)
@[simp] theorem call_154 (args : List V) (h : Heap) : callV E (om E) 154 args h = (viewArgs h args).bind fun a => (pureV E (om E) 154 (!V.flatL args) a).map fun r => (r, h) := callV_pure rfl rfl args h
@[simp] theorem hint_154_0 : E.hint 154 12 = [.forget 11, .forget 12, .forget 43, .forget 44, .forget 45, .forget 46, .forget 47, .forget 48, .forget 49, .forget 50, .forget 51, .forget 52, .forget 53, .forget 54, .forget 55, .forget 56, .forget 57, .forget 58, .forget 59, .forget 60, .forget 61] := rfl

/-! 156: (*playpen/run.Machine).Start -/
attribute [simp] Tryz.results156
theorem pu_156 {lent : Bool} {args : List V} {r : V} (hr : evK E (om E) 156 [7] (Tryz.f156.body.getD .skip) (endK Tryz.prog Tryz.f156.results.toList (pureFin lent)) (args ++ pois (53 - args.length)) [[]] = some r) : pureV E (om E) 156 lent args = some r := pureV_of (dyn := [7]) rfl (by rw [E_P]; exact Tryz.func156) (by unfold Tryz.f156; rfl) (by kernel_rfl) (by rw [Tryz.ntmps156]; exact hr)
@[simp] theorem call_156 (args : List V) (h : Heap) : callV E (om E) 156 args h = (viewArgs h args).bind fun a => (pureV E (om E) 156 (!V.flatL args) a).map fun r => (r, h) := callV_pure rfl rfl args h

/-! 157: (*playpen/run.Machine).State -/
attribute [simp] Tryz.results157
theorem pu_157 {lent : Bool} {args : List V} {r : V} (hr : evK E (om E) 157 [3] (Tryz.f157.body.getD .skip) (endK Tryz.prog Tryz.f157.results.toList (pureFin lent)) (args ++ pois (38 - args.length)) [[]] = some r) : pureV E (om E) 157 lent args = some r := pureV_of (dyn := [3]) rfl (by rw [E_P]; exact Tryz.func157) (by unfold Tryz.f157; rfl) (by kernel_rfl) (by rw [Tryz.ntmps157]; exact hr)
@[simp] theorem call_157 (args : List V) (h : Heap) : callV E (om E) 157 args h = (viewArgs h args).bind fun a => (pureV E (om E) 157 (!V.flatL args) a).map fun r => (r, h) := callV_pure rfl rfl args h

/-! 159: (*playpen/run.Machine).note -/
attribute [simp] Tryz.results159
theorem pu_159 {lent : Bool} {args : List V} {r : V} (hr : evK E (om E) 159 [] (Tryz.f159.body.getD .skip) (endK Tryz.prog Tryz.f159.results.toList (pureFin lent)) (args ++ pois (33 - args.length)) [[]] = some r) : pureV E (om E) 159 lent args = some r := pureV_of (dyn := []) rfl (by rw [E_P]; exact Tryz.func159) (by unfold Tryz.f159; rfl) (by kernel_rfl) (by rw [Tryz.ntmps159]; exact hr)
@[simp] theorem call_159 (args : List V) (h : Heap) : callV E (om E) 159 args h = (viewArgs h args).bind fun a => (pureV E (om E) 159 (!V.flatL args) a).map fun r => (r, h) := callV_pure rfl rfl args h

/-! 160: slices.ContainsFunc[[]playpen/api.Reply,playpen/api.Reply] -/
attribute [simp] Tryz.results160
theorem pu_160 {lent : Bool} {args : List V} {r : V} (hr : evK E (om E) 160 [] (Tryz.f160.body.getD .skip) (endK Tryz.prog Tryz.f160.results.toList (pureFin lent)) (args ++ pois (9 - args.length)) [[]] = some r) : pureV E (om E) 160 lent args = some r := pureV_of (dyn := []) rfl (by rw [E_P]; exact Tryz.func160) (by unfold Tryz.f160; rfl) (by kernel_rfl) (by rw [Tryz.ntmps160]; exact hr)
@[simp] theorem call_160 (args : List V) (h : Heap) : callV E (om E) 160 args h = (viewArgs h args).bind fun a => (pureV E (om E) 160 (!V.flatL args) a).map fun r => (r, h) := callV_pure rfl rfl args h

/-! 161: (*playpen/run.Machine).Go$1 -/
attribute [simp] Tryz.results161
theorem pu_161 {lent : Bool} {args : List V} {r : V} (hr : evK E (om E) 161 [] (Tryz.f161.body.getD .skip) (endK Tryz.prog Tryz.f161.results.toList (pureFin lent)) (args ++ pois (6 - args.length)) [[]] = some r) : pureV E (om E) 161 lent args = some r := pureV_of (dyn := []) rfl (by rw [E_P]; exact Tryz.func161) (by unfold Tryz.f161; rfl) (by kernel_rfl) (by rw [Tryz.ntmps161]; exact hr)
@[simp] theorem call_161 (args : List V) (h : Heap) : callV E (om E) 161 args h = (viewArgs h args).bind fun a => (pureV E (om E) 161 (!V.flatL args) a).map fun r => (r, h) := callV_pure rfl rfl args h

/-! 162: (*playpen/run.Machine).rest -/
attribute [simp] Tryz.results162
theorem pu_162 {lent : Bool} {args : List V} {r : V} (hr : evK E (om E) 162 [] (Tryz.f162.body.getD .skip) (endK Tryz.prog Tryz.f162.results.toList (pureFin lent)) (args ++ pois (30 - args.length)) [[]] = some r) : pureV E (om E) 162 lent args = some r := pureV_of (dyn := []) rfl (by rw [E_P]; exact Tryz.func162) (by unfold Tryz.f162; rfl) (by kernel_rfl) (by rw [Tryz.ntmps162]; exact hr)
@[simp] theorem call_162 (args : List V) (h : Heap) : callV E (om E) 162 args h = (viewArgs h args).bind fun a => (pureV E (om E) 162 (!V.flatL args) a).map fun r => (r, h) := callV_pure rfl rfl args h

/-! 163: (*playpen/run.Machine).Go$2 -/
attribute [simp] Tryz.results163
theorem pu_163 {lent : Bool} {args : List V} {r : V} (hr : evK E (om E) 163 [] (Tryz.f163.body.getD .skip) (endK Tryz.prog Tryz.f163.results.toList (pureFin lent)) (args ++ pois (42 - args.length)) [[]] = some r) : pureV E (om E) 163 lent args = some r := pureV_of (dyn := []) rfl (by rw [E_P]; exact Tryz.func163) (by unfold Tryz.f163; rfl) (by kernel_rfl) (by rw [Tryz.ntmps163]; exact hr)
@[simp] theorem call_163 (args : List V) (h : Heap) : callV E (om E) 163 args h = (viewArgs h args).bind fun a => (pureV E (om E) 163 (!V.flatL args) a).map fun r => (r, h) := callV_pure rfl rfl args h

/-! 164: (*playpen/run.Machine).waits -/
attribute [simp] Tryz.results164
theorem pu_164 {lent : Bool} {args : List V} {r : V} (hr : evK E (om E) 164 [9] (Tryz.f164.body.getD .skip) (endK Tryz.prog Tryz.f164.results.toList (pureFin lent)) (args ++ pois (59 - args.length)) [[]] = some r) : pureV E (om E) 164 lent args = some r := pureV_of (dyn := [9]) rfl (by rw [E_P]; exact Tryz.func164) (by unfold Tryz.f164; rfl) (by kernel_rfl) (by rw [Tryz.ntmps164]; exact hr)
@[simp] theorem call_164 (args : List V) (h : Heap) : callV E (om E) 164 args h = (viewArgs h args).bind fun a => (pureV E (om E) 164 (!V.flatL args) a).map fun r => (r, h) := callV_pure rfl rfl args h

/-! 165: (*playpen/run.Machine).take -/
attribute [simp] Tryz.results165
theorem pu_165 {lent : Bool} {args : List V} {r : V} (hr : evK E (om E) 165 [1, 3] (Tryz.f165.body.getD .skip) (endK Tryz.prog Tryz.f165.results.toList (pureFin lent)) (args ++ pois (29 - args.length)) [[]] = some r) : pureV E (om E) 165 lent args = some r := pureV_of (dyn := [1, 3]) rfl (by rw [E_P]; exact Tryz.func165) (by unfold Tryz.f165; rfl) (by kernel_rfl) (by rw [Tryz.ntmps165]; exact hr)
@[simp] theorem call_165 (args : List V) (h : Heap) : callV E (om E) 165 args h = (viewArgs h args).bind fun a => (pureV E (om E) 165 (!V.flatL args) a).map fun r => (r, h) := callV_pure rfl rfl args h

/-! 166: (*playpen/run.Machine).unseen -/
attribute [simp] Tryz.results166
theorem pu_166 {lent : Bool} {args : List V} {r : V} (hr : evK E (om E) 166 [] (Tryz.f166.body.getD .skip) (endK Tryz.prog Tryz.f166.results.toList (pureFin lent)) (args ++ pois (11 - args.length)) [[]] = some r) : pureV E (om E) 166 lent args = some r := pureV_of (dyn := []) rfl (by rw [E_P]; exact Tryz.func166) (by unfold Tryz.f166; rfl) (by kernel_rfl) (by rw [Tryz.ntmps166]; exact hr)
@[simp] theorem call_166 (args : List V) (h : Heap) : callV E (om E) 166 args h = (viewArgs h args).bind fun a => (pureV E (om E) 166 (!V.flatL args) a).map fun r => (r, h) := callV_pure rfl rfl args h

/-! 167: (*playpen/run.Machine).Start$1 -/
attribute [simp] Tryz.results167
theorem pu_167 {lent : Bool} {args : List V} {r : V} (hr : evK E (om E) 167 [] (Tryz.f167.body.getD .skip) (endK Tryz.prog Tryz.f167.results.toList (pureFin lent)) (args ++ pois (30 - args.length)) [[]] = some r) : pureV E (om E) 167 lent args = some r := pureV_of (dyn := []) rfl (by rw [E_P]; exact Tryz.func167) (by unfold Tryz.f167; rfl) (by kernel_rfl) (by rw [Tryz.ntmps167]; exact hr)
@[simp] theorem call_167 (args : List V) (h : Heap) : callV E (om E) 167 args h = (viewArgs h args).bind fun a => (pureV E (om E) 167 (!V.flatL args) a).map fun r => (r, h) := callV_pure rfl rfl args h
@[simp] theorem hint_167_0 : E.hint 167 1 = [.forget 2, .forget 3, .forget 5, .forget 6, .forget 7, .forget 8, .forget 9, .forget 10, .forget 11, .forget 12, .forget 13, .forget 14, .forget 15, .forget 16, .forget 17, .forget 18, .forget 19, .forget 20, .forget 21, .forget 22, .forget 23, .forget 24, .forget 25, .forget 26, .forget 27, .forget 28, .forget 29] := rfl

/-! 168: (*playpen/mem.Memory).Bytes -/
attribute [simp] Tryz.results168
theorem pu_168 {lent : Bool} {args : List V} {r : V} (hr : evK E (om E) 168 [] (Tryz.f168.body.getD .skip) (endK Tryz.prog Tryz.f168.results.toList (pureFin lent)) (args ++ pois (11 - args.length)) [[]] = some r) : pureV E (om E) 168 lent args = some r := pureV_of (dyn := []) rfl (by rw [E_P]; exact Tryz.func168) (by unfold Tryz.f168; rfl) (by kernel_rfl) (by rw [Tryz.ntmps168]; exact hr)
@[simp] theorem call_168 (args : List V) (h : Heap) : callV E (om E) 168 args h = (viewArgs h args).bind fun a => (pureV E (om E) 168 (!V.flatL args) a).map fun r => (r, h) := callV_pure rfl rfl args h

/-! 169: slices.IndexFunc[[]playpen/api.Reply,playpen/api.Reply] -/
attribute [simp] Tryz.results169
theorem pu_169 {lent : Bool} {args : List V} {r : V} (hr : evK E (om E) 169 [] (Tryz.f169.body.getD .skip) (endK Tryz.prog Tryz.f169.results.toList (pureFin lent)) (args ++ pois (19 - args.length)) [[]] = some r) : pureV E (om E) 169 lent args = some r := pureV_of (dyn := []) rfl (by rw [E_P]; exact Tryz.func169) (by unfold Tryz.f169; rfl) (by kernel_rfl) (by rw [Tryz.ntmps169]; exact hr)
@[simp] theorem call_169 (args : List V) (h : Heap) : callV E (om E) 169 args h = (viewArgs h args).bind fun a => (pureV E (om E) 169 (!V.flatL args) a).map fun r => (r, h) := callV_pure rfl rfl args h
@[simp] theorem hint_169_0 : E.hint 169 2 = [.forget 4, .forget 5, .forget 9, .forget 10, .forget 11, .forget 12, .forget 13, .forget 14, .forget 15, .forget 16, .forget 17, .forget 18] := rfl

/-! 170: (*playpen/run.Machine).waits$1 -/
attribute [simp] Tryz.results170
theorem pu_170 {lent : Bool} {args : List V} {r : V} (hr : evK E (om E) 170 [] (Tryz.f170.body.getD .skip) (endK Tryz.prog Tryz.f170.results.toList (pureFin lent)) (args ++ pois (21 - args.length)) [[]] = some r) : pureV E (om E) 170 lent args = some r := pureV_of (dyn := []) rfl (by rw [E_P]; exact Tryz.func170) (by unfold Tryz.f170; rfl) (by kernel_rfl) (by rw [Tryz.ntmps170]; exact hr)
@[simp] theorem call_170 (args : List V) (h : Heap) : callV E (om E) 170 args h = (viewArgs h args).bind fun a => (pureV E (om E) 170 (!V.flatL args) a).map fun r => (r, h) := callV_pure rfl rfl args h

/-! 171: (*playpen/run.Machine).take$1 -/
attribute [simp] Tryz.results171
theorem pu_171 {lent : Bool} {args : List V} {r : V} (hr : evK E (om E) 171 [] (Tryz.f171.body.getD .skip) (endK Tryz.prog Tryz.f171.results.toList (pureFin lent)) (args ++ pois (29 - args.length)) [[]] = some r) : pureV E (om E) 171 lent args = some r := pureV_of (dyn := []) rfl (by rw [E_P]; exact Tryz.func171) (by unfold Tryz.f171; rfl) (by kernel_rfl) (by rw [Tryz.ntmps171]; exact hr)
@[simp] theorem call_171 (args : List V) (h : Heap) : callV E (om E) 171 args h = (viewArgs h args).bind fun a => (pureV E (om E) 171 (!V.flatL args) a).map fun r => (r, h) := callV_pure rfl rfl args h

/-! 172: (*playpen/mem.Memory).Touched -/
attribute [simp] Tryz.results172
theorem pu_172 {lent : Bool} {args : List V} {r : V} (hr : evK E (om E) 172 [] (Tryz.f172.body.getD .skip) (endK Tryz.prog Tryz.f172.results.toList (pureFin lent)) (args ++ pois (16 - args.length)) [[]] = some r) : pureV E (om E) 172 lent args = some r := pureV_of (dyn := []) rfl (by rw [E_P]; exact Tryz.func172) (by unfold Tryz.f172; rfl) (by kernel_rfl) (by rw [Tryz.ntmps172]; exact hr)
@[simp] theorem call_172 (args : List V) (h : Heap) : callV E (om E) 172 args h = (viewArgs h args).bind fun a => (pureV E (om E) 172 (!V.flatL args) a).map fun r => (r, h) := callV_pure rfl rfl args h

/-! 173: slices.Clip[[]playpen/api.Touch,playpen/api.Touch] -/
attribute [simp] Tryz.results173
theorem pu_173 {lent : Bool} {args : List V} {r : V} (hr : evK E (om E) 173 [] (Tryz.f173.body.getD .skip) (endK Tryz.prog Tryz.f173.results.toList (pureFin lent)) (args ++ pois (9 - args.length)) [[]] = some r) : pureV E (om E) 173 lent args = some r := pureV_of (dyn := []) rfl (by rw [E_P]; exact Tryz.func173) (by unfold Tryz.f173; rfl) (by kernel_rfl) (by rw [Tryz.ntmps173]; exact hr)
@[simp] theorem call_173 (args : List V) (h : Heap) : callV E (om E) 173 args h = (viewArgs h args).bind fun a => (pureV E (om E) 173 (!V.flatL args) a).map fun r => (r, h) := callV_pure rfl rfl args h
end Go.Proofs.YtlachkeneeflaacGreat
end
