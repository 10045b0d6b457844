/-
  The machine's settings over this seat's program: how functions are called, what loops forget. Printed by program.
-/
import Derived.Test.YtfbaaaalfolnnacProg
import Derived.Test.YtfbaaaalfolnnacMd
import Derived.KernelRfl
section
namespace Go.Proofs.Ytfbaaaalfolnnac
open Go Go.Sim
def modeT (f : Nat) : Sim.Mode :=
  match f with
  | _ => .pure
def hintT (f r : Nat) : List Hint :=
  match f, r with
  | 3, 4 => [.forget 2, .forget 6, .forget 7, .forget 8, .forget 9, .forget 10, .forget 11, .forget 12, .forget 14, .forget 15, .forget 16, .forget 17, .forget 18, .forget 19, .forget 20, .forget 21, .forget 22, .forget 23, .forget 24, .forget 25, .forget 26, .forget 27, .forget 28, .forget 29, .forget 30, .forget 31, .forget 32, .forget 33, .forget 34, .forget 35, .forget 36, .forget 37, .forget 38, .forget 39, .forget 40, .forget 41, .forget 42, .forget 43, .forget 44, .forget 45, .forget 46, .forget 47, .forget 48, .forget 49, .forget 50, .forget 51, .forget 52, .forget 53, .forget 54, .forget 55, .forget 56, .forget 57, .forget 58, .forget 59, .forget 60, .forget 61, .forget 62, .forget 63, .forget 64, .forget 65, .forget 66, .forget 67, .forget 68, .forget 69, .forget 70, .forget 71, .forget 72, .forget 73, .forget 74, .forget 75, .forget 76, .forget 77, .forget 78, .forget 79, .forget 80, .forget 81, .forget 82, .forget 83, .forget 84, .forget 85, .forget 86]
  | 4, 6 => [.forget 10, .forget 11, .forget 34, .forget 35, .forget 36, .forget 37, .forget 38, .forget 39, .forget 40, .forget 41, .forget 42, .forget 43, .forget 44, .forget 45, .forget 46, .forget 47, .forget 48, .forget 49, .forget 50, .forget 51, .forget 52]
  | 4, 11 => [.promoteBox 16 1 3, .forget 13, .forget 15, .forget 16, .forget 56, .forget 57, .forget 58, .forget 59, .forget 60, .forget 61, .forget 62, .forget 63, .forget 64, .forget 65, .forget 66, .forget 67, .forget 68, .forget 69, .forget 70, .forget 71, .forget 72, .forget 73, .forget 74, .forget 75, .forget 76, .forget 77, .forget 78, .forget 79, .forget 80, .forget 81, .forget 82, .forget 83, .forget 84, .forget 85, .forget 86, .forget 87, .forget 88, .forget 89, .forget 90, .forget 91, .forget 92, .forget 93, .forget 94, .forget 95, .forget 96, .forget 97, .forget 98, .forget 99, .forget 100, .forget 101, .forget 102, .forget 103, .forget 104, .forget 105, .forget 106, .forget 107]
  | 4, 14 => [.promoteBox 16 1 3, .forget 15, .forget 16, .forget 66, .forget 67, .forget 68, .forget 69, .forget 70, .forget 71, .forget 72, .forget 73, .forget 74, .forget 75, .forget 76, .forget 77, .forget 78, .forget 79, .forget 80, .forget 81, .forget 82, .forget 83, .forget 84, .forget 85, .forget 86, .forget 87, .forget 88, .forget 89, .forget 90, .forget 91, .forget 92, .forget 93, .forget 94, .forget 95, .forget 96, .forget 97, .forget 98, .forget 99, .forget 100, .forget 101, .forget 102, .forget 103, .forget 104, .forget 105, .forget 106]
  | 4, 24 => [.promote 17 15, .forget 19, .forget 111, .forget 112, .forget 113, .forget 114, .forget 115, .forget 116, .forget 117, .forget 118, .forget 119, .forget 120, .forget 121]
  | 10, 8 => [.forget 6, .forget 8, .forget 32, .forget 33, .forget 34, .forget 35, .forget 36, .forget 37]
  | 11, 5 => [.forget 10, .forget 11, .forget 12, .forget 25, .forget 26, .forget 27, .forget 28, .forget 29, .forget 30, .forget 31, .forget 32, .forget 33, .forget 34, .forget 35, .forget 36, .forget 37, .forget 38, .forget 39, .forget 40, .forget 41, .forget 42, .forget 43, .forget 44, .forget 45, .forget 46, .forget 47, .forget 48, .forget 49, .forget 50, .forget 51, .forget 52, .forget 53, .forget 54, .forget 55, .forget 56, .forget 57, .forget 58, .forget 59]
  | 11, 18 => [.forget 6, .forget 15, .forget 16, .forget 68, .forget 69, .forget 70, .forget 71, .forget 72, .forget 73, .forget 74, .forget 75, .forget 76, .forget 77, .forget 78, .forget 79, .forget 80, .forget 81, .forget 82, .forget 83, .forget 84, .forget 85, .forget 86]
  | 14, 4 => [.forget 4, .forget 11, .forget 12, .forget 13, .forget 14, .forget 15, .forget 16, .forget 17, .forget 18, .forget 19, .forget 20, .forget 21, .forget 22, .forget 23, .forget 24, .forget 25]
  | 15, 4 => [.forget 4, .forget 11, .forget 12, .forget 13, .forget 14, .forget 15, .forget 16, .forget 17, .forget 18, .forget 19, .forget 20, .forget 21, .forget 22, .forget 23, .forget 24, .forget 25]
  | 18, 4 => [.forget 2, .forget 4, .forget 13, .forget 14, .forget 15, .forget 16, .forget 17, .forget 18, .forget 19, .forget 20]
  | 19, 32 => [.forget 109, .forget 110, .forget 111, .forget 112, .forget 113, .forget 114, .forget 115, .forget 116]
  | 22, 0 => [.forget 2, .forget 3, .forget 4, .forget 5, .forget 6, .forget 7, .forget 8, .forget 9, .forget 10, .forget 11, .forget 12, .forget 13, .forget 14, .forget 15, .forget 16, .forget 17, .forget 18, .forget 19, .forget 20, .forget 21, .forget 22, .forget 23, .forget 24, .forget 25, .forget 26, .forget 27, .forget 28, .forget 29, .forget 30, .forget 31, .forget 32, .forget 33, .forget 34, .forget 35, .forget 36, .forget 37, .forget 38, .forget 39, .forget 40, .forget 41, .forget 42, .forget 43, .forget 44, .forget 45, .forget 46, .forget 47, .forget 48, .forget 49, .forget 50, .forget 51, .forget 52, .forget 53, .forget 54, .forget 55, .forget 56, .forget 57, .forget 58, .forget 59, .forget 60, .forget 61, .forget 62, .forget 63, .forget 64, .forget 65, .forget 66, .forget 67, .forget 68, .forget 69, .forget 70, .forget 71, .forget 72, .forget 73, .forget 74, .forget 75, .forget 76, .forget 77, .forget 78, .forget 79, .forget 80, .forget 81, .forget 82, .forget 83]
  | 24, 1 => [.forget 2, .forget 3, .forget 4, .forget 5, .forget 6, .forget 8, .forget 9, .forget 10, .forget 11, .forget 12, .forget 13, .forget 14, .forget 15, .forget 16, .forget 17, .forget 18, .forget 19, .forget 20, .forget 21, .forget 22, .forget 23, .forget 24, .forget 25, .forget 26, .forget 27, .forget 28, .forget 29, .forget 30, .forget 31, .forget 32, .forget 33, .forget 34, .forget 35, .forget 36, .forget 37, .forget 38, .forget 39, .forget 40, .forget 41, .forget 42, .forget 43, .forget 44, .forget 45, .forget 46, .forget 47, .forget 48, .forget 49, .forget 50, .forget 51, .forget 52, .forget 53, .forget 54, .forget 55, .forget 56, .forget 57, .forget 58, .forget 59, .forget 60, .forget 61, .forget 62, .forget 63, .forget 64, .forget 65, .forget 66, .forget 67, .forget 68, .forget 69, .forget 70, .forget 71, .forget 72, .forget 73, .forget 74, .forget 75, .forget 76, .forget 77, .forget 78, .forget 79, .forget 80, .forget 81, .forget 82, .forget 83]
  | 25, 2 => [.forget 4, .forget 5, .forget 9, .forget 10, .forget 11, .forget 12, .forget 13, .forget 14, .forget 15, .forget 16, .forget 17, .forget 18]
  | 52, 3 => [.canon 3, .forget 5, .forget 9, .forget 10, .forget 11, .forget 12, .forget 13, .forget 14, .forget 15]
  | 57, 2 => [.promote 0 1, .forget 5, .forget 8, .forget 9, .forget 10, .forget 11, .forget 12, .forget 13, .forget 14, .forget 15, .forget 16, .forget 17, .forget 18, .forget 19]
  | 58, 3 => [.forget 5, .forget 6, .forget 7, .forget 8, .forget 9, .forget 10, .forget 11, .forget 12]
  | _, _ => []
def knownT (f : Nat) : Option (List V → Heap → Option (V × Heap)) :=
  match f with
  | 12 => some (cloneW 3) -- clone 43 56 24
  | _ => none
noncomputable def E : Env := { P := Try.prog, mode := modeT, hint := hintT, known := knownT, eqTypes := [], fns := fun f => Nat.blt f 79 }
@[simp] theorem E_P : E.P = Try.prog := rfl
@[simp] theorem agg_0 : isAggV Try.prog 0 = some false := by kernel_rfl
@[simp] theorem size_0 : sizeV Try.prog 0 = some 1 := by kernel_rfl
@[simp] theorem bytes_0 : bytesV Try.prog 0 = some 0 := by kernel_rfl
attribute [simp] Try.underlying0
@[simp] theorem agg_1 : isAggV Try.prog 1 = some false := by kernel_rfl
@[simp] theorem size_1 : sizeV Try.prog 1 = some 1 := by kernel_rfl
@[simp] theorem bytes_1 : bytesV Try.prog 1 = some 8 := by kernel_rfl
attribute [simp] Try.underlying1
@[simp] theorem agg_2 : isAggV Try.prog 2 = some false := by kernel_rfl
@[simp] theorem size_2 : sizeV Try.prog 2 = some 1 := by kernel_rfl
@[simp] theorem bytes_2 : bytesV Try.prog 2 = some 8 := by kernel_rfl
@[simp] theorem zero_2 : zeroV Try.prog 2 = some (.int .i64 0) := by kernel_rfl
attribute [simp] Try.underlying2
@[simp] theorem agg_3 : isAggV Try.prog 3 = some false := by kernel_rfl
@[simp] theorem size_3 : sizeV Try.prog 3 = some 1 := by kernel_rfl
@[simp] theorem bytes_3 : bytesV Try.prog 3 = some 8 := by kernel_rfl
@[simp] theorem zero_3 : zeroV Try.prog 3 = some (.int .i64 0) := by kernel_rfl
attribute [simp] Try.underlying3
@[simp] theorem agg_4 : isAggV Try.prog 4 = some false := by kernel_rfl
@[simp] theorem size_4 : sizeV Try.prog 4 = some 1 := by kernel_rfl
@[simp] theorem bytes_4 : bytesV Try.prog 4 = some 1 := by kernel_rfl
@[simp] theorem zero_4 : zeroV Try.prog 4 = some (.bool false) := by kernel_rfl
attribute [simp] Try.underlying4
@[simp] theorem agg_5 : isAggV Try.prog 5 = some false := by kernel_rfl
@[simp] theorem size_5 : sizeV Try.prog 5 = some 1 := by kernel_rfl
@[simp] theorem bytes_5 : bytesV Try.prog 5 = some 1 := by kernel_rfl
@[simp] theorem zero_5 : zeroV Try.prog 5 = some (.int .u8 0) := by kernel_rfl
attribute [simp] Try.underlying5
@[simp] theorem agg_6 : isAggV Try.prog 6 = some false := by kernel_rfl
@[simp] theorem size_6 : sizeV Try.prog 6 = some 1 := by kernel_rfl
@[simp] theorem bytes_6 : bytesV Try.prog 6 = some 1 := by kernel_rfl
@[simp] theorem zero_6 : zeroV Try.prog 6 = some (.int .u8 0) := by kernel_rfl
attribute [simp] Try.underlying6
@[simp] theorem agg_7 : isAggV Try.prog 7 = some true := by kernel_rfl
@[simp] theorem size_7 : sizeV Try.prog 7 = some 4 := by kernel_rfl
@[simp] theorem bytes_7 : bytesV Try.prog 7 = some 24 := by kernel_rfl
@[simp] theorem zero_7 : zeroV Try.prog 7 = some (.agg [.int .i64 0, .int .i64 0, .bool false, .int .u8 0]) := by kernel_rfl
attribute [simp] Try.underlying7
@[simp] theorem agg_8 : isAggV Try.prog 8 = some true := by kernel_rfl
@[simp] theorem size_8 : sizeV Try.prog 8 = some 4 := by kernel_rfl
@[simp] theorem bytes_8 : bytesV Try.prog 8 = some 24 := by kernel_rfl
@[simp] theorem zero_8 : zeroV Try.prog 8 = some (.agg [.int .i64 0, .int .i64 0, .bool false, .int .u8 0]) := by kernel_rfl
attribute [simp] Try.underlying8
@[simp] theorem agg_9 : isAggV Try.prog 9 = some false := by kernel_rfl
@[simp] theorem size_9 : sizeV Try.prog 9 = some 1 := by kernel_rfl
@[simp] theorem bytes_9 : bytesV Try.prog 9 = some 16 := by kernel_rfl
@[simp] theorem zero_9 : zeroV Try.prog 9 = some (.str []) := by kernel_rfl
attribute [simp] Try.underlying9
@[simp] theorem agg_10 : isAggV Try.prog 10 = some false := by kernel_rfl
@[simp] theorem size_10 : sizeV Try.prog 10 = some 1 := by kernel_rfl
@[simp] theorem bytes_10 : bytesV Try.prog 10 = some 16 := by kernel_rfl
@[simp] theorem zero_10 : zeroV Try.prog 10 = some (.str []) := by kernel_rfl
attribute [simp] Try.underlying10
@[simp] theorem agg_11 : isAggV Try.prog 11 = some false := by kernel_rfl
@[simp] theorem size_11 : sizeV Try.prog 11 = some 1 := by kernel_rfl
@[simp] theorem bytes_11 : bytesV Try.prog 11 = some 16 := by kernel_rfl
@[simp] theorem zero_11 : zeroV Try.prog 11 = some (.str []) := by kernel_rfl
attribute [simp] Try.underlying11
@[simp] theorem agg_12 : isAggV Try.prog 12 = some false := by kernel_rfl
@[simp] theorem size_12 : sizeV Try.prog 12 = some 1 := by kernel_rfl
@[simp] theorem bytes_12 : bytesV Try.prog 12 = some 8 := by kernel_rfl
@[simp] theorem zero_12 : zeroV Try.prog 12 = some (.int .u64 0) := by kernel_rfl
attribute [simp] Try.underlying12
@[simp] theorem agg_13 : isAggV Try.prog 13 = some true := by kernel_rfl
@[simp] theorem size_13 : sizeV Try.prog 13 = some 2 := by kernel_rfl
@[simp] theorem bytes_13 : bytesV Try.prog 13 = some 24 := by kernel_rfl
@[simp] theorem zero_13 : zeroV Try.prog 13 = some (.agg [.str [], .int .u64 0]) := by kernel_rfl
attribute [simp] Try.underlying13
@[simp] theorem agg_14 : isAggV Try.prog 14 = some true := by kernel_rfl
@[simp] theorem size_14 : sizeV Try.prog 14 = some 2 := by kernel_rfl
@[simp] theorem bytes_14 : bytesV Try.prog 14 = some 24 := by kernel_rfl
@[simp] theorem zero_14 : zeroV Try.prog 14 = some (.agg [.str [], .int .u64 0]) := by kernel_rfl
attribute [simp] Try.underlying14
@[simp] theorem agg_15 : isAggV Try.prog 15 = some false := by kernel_rfl
@[simp] theorem size_15 : sizeV Try.prog 15 = some 1 := by kernel_rfl
@[simp] theorem bytes_15 : bytesV Try.prog 15 = some 8 := by kernel_rfl
@[simp] theorem zero_15 : zeroV Try.prog 15 = some (.nilptr) := by kernel_rfl
attribute [simp] Try.underlying15
@[simp] theorem agg_16 : isAggV Try.prog 16 = some false := by kernel_rfl
@[simp] theorem size_16 : sizeV Try.prog 16 = some 1 := by kernel_rfl
@[simp] theorem bytes_16 : bytesV Try.prog 16 = some 8 := by kernel_rfl
@[simp] theorem zero_16 : zeroV Try.prog 16 = some (.nilptr) := by kernel_rfl
attribute [simp] Try.underlying16
@[simp] theorem agg_17 : isAggV Try.prog 17 = some false := by kernel_rfl
@[simp] theorem size_17 : sizeV Try.prog 17 = some 1 := by kernel_rfl
@[simp] theorem bytes_17 : bytesV Try.prog 17 = some 8 := by kernel_rfl
@[simp] theorem zero_17 : zeroV Try.prog 17 = some (.nilptr) := by kernel_rfl
attribute [simp] Try.underlying17
@[simp] theorem agg_18 : isAggV Try.prog 18 = some true := by kernel_rfl
@[simp] theorem size_18 : sizeV Try.prog 18 = some 1 := by kernel_rfl
@[simp] theorem bytes_18 : bytesV Try.prog 18 = some 8 := by kernel_rfl
@[simp] theorem zero_18 : zeroV Try.prog 18 = some (.agg [.nilptr]) := by kernel_rfl
attribute [simp] Try.underlying18
@[simp] theorem agg_19 : isAggV Try.prog 19 = some true := by kernel_rfl
@[simp] theorem size_19 : sizeV Try.prog 19 = some 1 := by kernel_rfl
@[simp] theorem bytes_19 : bytesV Try.prog 19 = some 8 := by kernel_rfl
@[simp] theorem zero_19 : zeroV Try.prog 19 = some (.agg [.nilptr]) := by kernel_rfl
attribute [simp] Try.underlying19
@[simp] theorem agg_20 : isAggV Try.prog 20 = some false := by kernel_rfl
@[simp] theorem size_20 : sizeV Try.prog 20 = some 1 := by kernel_rfl
@[simp] theorem bytes_20 : bytesV Try.prog 20 = some 16 := by kernel_rfl
attribute [simp] Try.underlying20
@[simp] theorem agg_21 : isAggV Try.prog 21 = some false := by kernel_rfl
@[simp] theorem size_21 : sizeV Try.prog 21 = some 1 := by kernel_rfl
@[simp] theorem bytes_21 : bytesV Try.prog 21 = some 4 := by kernel_rfl
@[simp] theorem zero_21 : zeroV Try.prog 21 = some (.int .i32 0) := by kernel_rfl
attribute [simp] Try.underlying21
@[simp] theorem agg_22 : isAggV Try.prog 22 = some false := by kernel_rfl
@[simp] theorem size_22 : sizeV Try.prog 22 = some 1 := by kernel_rfl
@[simp] theorem bytes_22 : bytesV Try.prog 22 = some 4 := by kernel_rfl
@[simp] theorem zero_22 : zeroV Try.prog 22 = some (.int .u32 0) := by kernel_rfl
attribute [simp] Try.underlying22
@[simp] theorem agg_23 : isAggV Try.prog 23 = some false := by kernel_rfl
@[simp] theorem size_23 : sizeV Try.prog 23 = some 1 := by kernel_rfl
@[simp] theorem bytes_23 : bytesV Try.prog 23 = some 24 := by kernel_rfl
@[simp] theorem zero_23 : zeroV Try.prog 23 = some (.nilslice) := by kernel_rfl
attribute [simp] Try.underlying23
@[simp] theorem agg_24 : isAggV Try.prog 24 = some false := by kernel_rfl
@[simp] theorem size_24 : sizeV Try.prog 24 = some 1 := by kernel_rfl
@[simp] theorem bytes_24 : bytesV Try.prog 24 = some 24 := by kernel_rfl
@[simp] theorem zero_24 : zeroV Try.prog 24 = some (.nilslice) := by kernel_rfl
attribute [simp] Try.underlying24
@[simp] theorem agg_25 : isAggV Try.prog 25 = some true := by kernel_rfl
@[simp] theorem size_25 : sizeV Try.prog 25 = some 6 := by kernel_rfl
@[simp] theorem bytes_25 : bytesV Try.prog 25 = some 80 := by kernel_rfl
@[simp] theorem zero_25 : zeroV Try.prog 25 = some (.agg [.int .i64 0, .int .i64 0, .int .i64 0, .int .u32 0, .nilslice, .nilslice]) := by kernel_rfl
attribute [simp] Try.underlying25
@[simp] theorem agg_26 : isAggV Try.prog 26 = some true := by kernel_rfl
@[simp] theorem size_26 : sizeV Try.prog 26 = some 6 := by kernel_rfl
@[simp] theorem bytes_26 : bytesV Try.prog 26 = some 80 := by kernel_rfl
@[simp] theorem zero_26 : zeroV Try.prog 26 = some (.agg [.int .i64 0, .int .i64 0, .int .i64 0, .int .u32 0, .nilslice, .nilslice]) := by kernel_rfl
attribute [simp] Try.underlying26
@[simp] theorem agg_27 : isAggV Try.prog 27 = some false := by kernel_rfl
@[simp] theorem size_27 : sizeV Try.prog 27 = some 1 := by kernel_rfl
@[simp] theorem bytes_27 : bytesV Try.prog 27 = some 24 := by kernel_rfl
@[simp] theorem zero_27 : zeroV Try.prog 27 = some (.nilslice) := by kernel_rfl
attribute [simp] Try.underlying27
@[simp] theorem agg_28 : isAggV Try.prog 28 = some true := by kernel_rfl
@[simp] theorem size_28 : sizeV Try.prog 28 = some 1 := by kernel_rfl
@[simp] theorem bytes_28 : bytesV Try.prog 28 = some 24 := by kernel_rfl
@[simp] theorem zero_28 : zeroV Try.prog 28 = some (.agg [.nilslice]) := by kernel_rfl
attribute [simp] Try.underlying28
@[simp] theorem agg_29 : isAggV Try.prog 29 = some true := by kernel_rfl
@[simp] theorem size_29 : sizeV Try.prog 29 = some 1 := by kernel_rfl
@[simp] theorem bytes_29 : bytesV Try.prog 29 = some 24 := by kernel_rfl
@[simp] theorem zero_29 : zeroV Try.prog 29 = some (.agg [.nilslice]) := by kernel_rfl
attribute [simp] Try.underlying29
@[simp] theorem agg_30 : isAggV Try.prog 30 = some false := by kernel_rfl
@[simp] theorem size_30 : sizeV Try.prog 30 = some 1 := by kernel_rfl
@[simp] theorem bytes_30 : bytesV Try.prog 30 = some 8 := by kernel_rfl
@[simp] theorem zero_30 : zeroV Try.prog 30 = some (.nilptr) := by kernel_rfl
attribute [simp] Try.underlying30
@[simp] theorem agg_31 : isAggV Try.prog 31 = some false := by kernel_rfl
@[simp] theorem size_31 : sizeV Try.prog 31 = some 1 := by kernel_rfl
@[simp] theorem bytes_31 : bytesV Try.prog 31 = some 24 := by kernel_rfl
@[simp] theorem zero_31 : zeroV Try.prog 31 = some (.nilslice) := by kernel_rfl
attribute [simp] Try.underlying31
@[simp] theorem agg_32 : isAggV Try.prog 32 = some false := by kernel_rfl
@[simp] theorem size_32 : sizeV Try.prog 32 = some 1 := by kernel_rfl
@[simp] theorem bytes_32 : bytesV Try.prog 32 = some 24 := by kernel_rfl
@[simp] theorem zero_32 : zeroV Try.prog 32 = some (.nilslice) := by kernel_rfl
attribute [simp] Try.underlying32
@[simp] theorem agg_33 : isAggV Try.prog 33 = some false := by kernel_rfl
@[simp] theorem size_33 : sizeV Try.prog 33 = some 1 := by kernel_rfl
@[simp] theorem bytes_33 : bytesV Try.prog 33 = some 8 := by kernel_rfl
@[simp] theorem zero_33 : zeroV Try.prog 33 = some (.int .i64 0) := by kernel_rfl
attribute [simp] Try.underlying33
@[simp] theorem agg_34 : isAggV Try.prog 34 = some false := by kernel_rfl
@[simp] theorem size_34 : sizeV Try.prog 34 = some 1 := by kernel_rfl
@[simp] theorem bytes_34 : bytesV Try.prog 34 = some 0 := by kernel_rfl
attribute [simp] Try.underlying34
@[simp] theorem agg_35 : isAggV Try.prog 35 = some false := by kernel_rfl
@[simp] theorem size_35 : sizeV Try.prog 35 = some 1 := by kernel_rfl
@[simp] theorem bytes_35 : bytesV Try.prog 35 = some 8 := by kernel_rfl
attribute [simp] Try.underlying35
@[simp] theorem agg_36 : isAggV Try.prog 36 = some false := by kernel_rfl
@[simp] theorem size_36 : sizeV Try.prog 36 = some 1 := by kernel_rfl
@[simp] theorem bytes_36 : bytesV Try.prog 36 = some 1 := by kernel_rfl
@[simp] theorem zero_36 : zeroV Try.prog 36 = some (.int .u8 0) := by kernel_rfl
attribute [simp] Try.underlying36
@[simp] theorem agg_37 : isAggV Try.prog 37 = some false := by kernel_rfl
@[simp] theorem size_37 : sizeV Try.prog 37 = some 1 := by kernel_rfl
@[simp] theorem bytes_37 : bytesV Try.prog 37 = some 24 := by kernel_rfl
@[simp] theorem zero_37 : zeroV Try.prog 37 = some (.nilslice) := by kernel_rfl
attribute [simp] Try.underlying37
@[simp] theorem agg_38 : isAggV Try.prog 38 = some false := by kernel_rfl
@[simp] theorem size_38 : sizeV Try.prog 38 = some 1 := by kernel_rfl
@[simp] theorem bytes_38 : bytesV Try.prog 38 = some 1 := by kernel_rfl
@[simp] theorem zero_38 : zeroV Try.prog 38 = some (.int .u8 0) := by kernel_rfl
attribute [simp] Try.underlying38
@[simp] theorem agg_39 : isAggV Try.prog 39 = some true := by kernel_rfl
@[simp] theorem size_39 : sizeV Try.prog 39 = some 7 := by kernel_rfl
@[simp] theorem bytes_39 : bytesV Try.prog 39 = some 72 := by kernel_rfl
@[simp] theorem zero_39 : zeroV Try.prog 39 = some (.agg [.int .u8 0, .int .u32 0, .int .u32 0, .nilslice, .nilslice, .int .u32 0, .int .u8 0]) := by kernel_rfl
attribute [simp] Try.underlying39
@[simp] theorem agg_40 : isAggV Try.prog 40 = some true := by kernel_rfl
@[simp] theorem size_40 : sizeV Try.prog 40 = some 7 := by kernel_rfl
@[simp] theorem bytes_40 : bytesV Try.prog 40 = some 72 := by kernel_rfl
@[simp] theorem zero_40 : zeroV Try.prog 40 = some (.agg [.int .u8 0, .int .u32 0, .int .u32 0, .nilslice, .nilslice, .int .u32 0, .int .u8 0]) := by kernel_rfl
attribute [simp] Try.underlying40
@[simp] theorem agg_41 : isAggV Try.prog 41 = some false := by kernel_rfl
@[simp] theorem size_41 : sizeV Try.prog 41 = some 1 := by kernel_rfl
@[simp] theorem bytes_41 : bytesV Try.prog 41 = some 0 := by kernel_rfl
attribute [simp] Try.underlying41
@[simp] theorem agg_42 : isAggV Try.prog 42 = some false := by kernel_rfl
@[simp] theorem size_42 : sizeV Try.prog 42 = some 1 := by kernel_rfl
@[simp] theorem bytes_42 : bytesV Try.prog 42 = some 8 := by kernel_rfl
attribute [simp] Try.underlying42
@[simp] theorem agg_43 : isAggV Try.prog 43 = some false := by kernel_rfl
@[simp] theorem size_43 : sizeV Try.prog 43 = some 1 := by kernel_rfl
@[simp] theorem bytes_43 : bytesV Try.prog 43 = some 24 := by kernel_rfl
@[simp] theorem zero_43 : zeroV Try.prog 43 = some (.nilslice) := by kernel_rfl
attribute [simp] Try.underlying43
@[simp] theorem agg_44 : isAggV Try.prog 44 = some false := by kernel_rfl
@[simp] theorem size_44 : sizeV Try.prog 44 = some 1 := by kernel_rfl
@[simp] theorem bytes_44 : bytesV Try.prog 44 = some 0 := by kernel_rfl
attribute [simp] Try.underlying44
@[simp] theorem agg_45 : isAggV Try.prog 45 = some false := by kernel_rfl
@[simp] theorem size_45 : sizeV Try.prog 45 = some 1 := by kernel_rfl
@[simp] theorem bytes_45 : bytesV Try.prog 45 = some 8 := by kernel_rfl
attribute [simp] Try.underlying45
@[simp] theorem agg_46 : isAggV Try.prog 46 = some false := by kernel_rfl
@[simp] theorem size_46 : sizeV Try.prog 46 = some 1 := by kernel_rfl
@[simp] theorem bytes_46 : bytesV Try.prog 46 = some 8 := by kernel_rfl
attribute [simp] Try.underlying46
@[simp] theorem agg_47 : isAggV Try.prog 47 = some false := by kernel_rfl
@[simp] theorem size_47 : sizeV Try.prog 47 = some 1 := by kernel_rfl
@[simp] theorem bytes_47 : bytesV Try.prog 47 = some 8 := by kernel_rfl
attribute [simp] Try.underlying47
@[simp] theorem agg_48 : isAggV Try.prog 48 = some false := by kernel_rfl
@[simp] theorem size_48 : sizeV Try.prog 48 = some 1 := by kernel_rfl
@[simp] theorem bytes_48 : bytesV Try.prog 48 = some 8 := by kernel_rfl
attribute [simp] Try.underlying48
@[simp] theorem agg_49 : isAggV Try.prog 49 = some false := by kernel_rfl
@[simp] theorem size_49 : sizeV Try.prog 49 = some 1 := by kernel_rfl
@[simp] theorem bytes_49 : bytesV Try.prog 49 = some 8 := by kernel_rfl
attribute [simp] Try.underlying49
@[simp] theorem agg_50 : isAggV Try.prog 50 = some false := by kernel_rfl
@[simp] theorem size_50 : sizeV Try.prog 50 = some 1 := by kernel_rfl
@[simp] theorem bytes_50 : bytesV Try.prog 50 = some 8 := by kernel_rfl
attribute [simp] Try.underlying50
@[simp] theorem agg_51 : isAggV Try.prog 51 = some false := by kernel_rfl
@[simp] theorem size_51 : sizeV Try.prog 51 = some 1 := by kernel_rfl
@[simp] theorem bytes_51 : bytesV Try.prog 51 = some 24 := by kernel_rfl
@[simp] theorem zero_51 : zeroV Try.prog 51 = some (.nilslice) := by kernel_rfl
attribute [simp] Try.underlying51
@[simp] theorem agg_52 : isAggV Try.prog 52 = some false := by kernel_rfl
@[simp] theorem size_52 : sizeV Try.prog 52 = some 1 := by kernel_rfl
@[simp] theorem bytes_52 : bytesV Try.prog 52 = some 8 := by kernel_rfl
attribute [simp] Try.underlying52
@[simp] theorem agg_53 : isAggV Try.prog 53 = some false := by kernel_rfl
@[simp] theorem size_53 : sizeV Try.prog 53 = some 1 := by kernel_rfl
@[simp] theorem bytes_53 : bytesV Try.prog 53 = some 8 := by kernel_rfl
@[simp] theorem zero_53 : zeroV Try.prog 53 = some (.nilptr) := by kernel_rfl
attribute [simp] Try.underlying53
@[simp] theorem agg_54 : isAggV Try.prog 54 = some false := by kernel_rfl
@[simp] theorem size_54 : sizeV Try.prog 54 = some 1 := by kernel_rfl
@[simp] theorem bytes_54 : bytesV Try.prog 54 = some 8 := by kernel_rfl
attribute [simp] Try.underlying54
@[simp] theorem agg_55 : isAggV Try.prog 55 = some true := by kernel_rfl
@[simp] theorem size_55 : sizeV Try.prog 55 = some 3 := by kernel_rfl
@[simp] theorem bytes_55 : bytesV Try.prog 55 = some 24 := by kernel_rfl
@[simp] theorem zero_55 : zeroV Try.prog 55 = some (.agg [.int .i64 0, .int .i64 0, .int .u32 0]) := by kernel_rfl
attribute [simp] Try.underlying55
@[simp] theorem agg_56 : isAggV Try.prog 56 = some true := by kernel_rfl
@[simp] theorem size_56 : sizeV Try.prog 56 = some 3 := by kernel_rfl
@[simp] theorem bytes_56 : bytesV Try.prog 56 = some 24 := by kernel_rfl
@[simp] theorem zero_56 : zeroV Try.prog 56 = some (.agg [.int .i64 0, .int .i64 0, .int .u32 0]) := by kernel_rfl
attribute [simp] Try.underlying56
@[simp] theorem agg_57 : isAggV Try.prog 57 = some false := by kernel_rfl
@[simp] theorem size_57 : sizeV Try.prog 57 = some 1 := by kernel_rfl
@[simp] theorem bytes_57 : bytesV Try.prog 57 = some 16 := by kernel_rfl
attribute [simp] Try.underlying57
@[simp] theorem agg_58 : isAggV Try.prog 58 = some false := by kernel_rfl
@[simp] theorem size_58 : sizeV Try.prog 58 = some 1 := by kernel_rfl
@[simp] theorem bytes_58 : bytesV Try.prog 58 = some 16 := by kernel_rfl
attribute [simp] Try.underlying58
@[simp] theorem agg_59 : isAggV Try.prog 59 = some false := by kernel_rfl
@[simp] theorem size_59 : sizeV Try.prog 59 = some 1 := by kernel_rfl
@[simp] theorem bytes_59 : bytesV Try.prog 59 = some 24 := by kernel_rfl
@[simp] theorem zero_59 : zeroV Try.prog 59 = some (.nilslice) := by kernel_rfl
attribute [simp] Try.underlying59
@[simp] theorem agg_60 : isAggV Try.prog 60 = some false := by kernel_rfl
@[simp] theorem size_60 : sizeV Try.prog 60 = some 1 := by kernel_rfl
@[simp] theorem bytes_60 : bytesV Try.prog 60 = some 1 := by kernel_rfl
@[simp] theorem zero_60 : zeroV Try.prog 60 = some (.int .u8 0) := by kernel_rfl
attribute [simp] Try.underlying60
@[simp] theorem agg_61 : isAggV Try.prog 61 = some false := by kernel_rfl
@[simp] theorem size_61 : sizeV Try.prog 61 = some 1 := by kernel_rfl
@[simp] theorem bytes_61 : bytesV Try.prog 61 = some 24 := by kernel_rfl
@[simp] theorem zero_61 : zeroV Try.prog 61 = some (.nilslice) := by kernel_rfl
attribute [simp] Try.underlying61
@[simp] theorem agg_62 : isAggV Try.prog 62 = some true := by kernel_rfl
@[simp] theorem size_62 : sizeV Try.prog 62 = some 4 := by kernel_rfl
@[simp] theorem bytes_62 : bytesV Try.prog 62 = some 40 := by kernel_rfl
@[simp] theorem zero_62 : zeroV Try.prog 62 = some (.agg [.int .u32 0, .int .u32 0, .nilslice, .int .u32 0]) := by kernel_rfl
attribute [simp] Try.underlying62
@[simp] theorem agg_63 : isAggV Try.prog 63 = some true := by kernel_rfl
@[simp] theorem size_63 : sizeV Try.prog 63 = some 4 := by kernel_rfl
@[simp] theorem bytes_63 : bytesV Try.prog 63 = some 40 := by kernel_rfl
@[simp] theorem zero_63 : zeroV Try.prog 63 = some (.agg [.int .u32 0, .int .u32 0, .nilslice, .int .u32 0]) := by kernel_rfl
attribute [simp] Try.underlying63
@[simp] theorem agg_64 : isAggV Try.prog 64 = some true := by kernel_rfl
@[simp] theorem size_64 : sizeV Try.prog 64 = some 11 := by kernel_rfl
@[simp] theorem bytes_64 : bytesV Try.prog 64 = some 96 := by kernel_rfl
@[simp] theorem zero_64 : zeroV Try.prog 64 = some (.agg [.int .u8 0, .int .u32 0, .int .u32 0, .int .u8 0, .int .i64 0, .int .i64 0, .nilslice, .int .u32 0, .int .u32 0, .nilslice, .int .u32 0]) := by kernel_rfl
attribute [simp] Try.underlying64
@[simp] theorem agg_65 : isAggV Try.prog 65 = some true := by kernel_rfl
@[simp] theorem size_65 : sizeV Try.prog 65 = some 11 := by kernel_rfl
@[simp] theorem bytes_65 : bytesV Try.prog 65 = some 96 := by kernel_rfl
@[simp] theorem zero_65 : zeroV Try.prog 65 = some (.agg [.int .u8 0, .int .u32 0, .int .u32 0, .int .u8 0, .int .i64 0, .int .i64 0, .nilslice, .int .u32 0, .int .u32 0, .nilslice, .int .u32 0]) := by kernel_rfl
attribute [simp] Try.underlying65
@[simp] theorem agg_66 : isAggV Try.prog 66 = some true := by kernel_rfl
@[simp] theorem size_66 : sizeV Try.prog 66 = some 15 := by kernel_rfl
@[simp] theorem bytes_66 : bytesV Try.prog 66 = some 160 := by kernel_rfl
@[simp] theorem zero_66 : zeroV Try.prog 66 = some (.agg [.int .u8 0, .int .u32 0, .int .u32 0, .int .u8 0, .int .i64 0, .int .i64 0, .nilslice, .int .u32 0, .int .u32 0, .nilslice, .int .u32 0, .bool false, .nilslice, .nilslice, .int .i64 0]) := by kernel_rfl
attribute [simp] Try.underlying66
@[simp] theorem agg_67 : isAggV Try.prog 67 = some true := by kernel_rfl
@[simp] theorem size_67 : sizeV Try.prog 67 = some 15 := by kernel_rfl
@[simp] theorem bytes_67 : bytesV Try.prog 67 = some 160 := by kernel_rfl
@[simp] theorem zero_67 : zeroV Try.prog 67 = some (.agg [.int .u8 0, .int .u32 0, .int .u32 0, .int .u8 0, .int .i64 0, .int .i64 0, .nilslice, .int .u32 0, .int .u32 0, .nilslice, .int .u32 0, .bool false, .nilslice, .nilslice, .int .i64 0]) := by kernel_rfl
attribute [simp] Try.underlying67
@[simp] theorem agg_68 : isAggV Try.prog 68 = some true := by kernel_rfl
@[simp] theorem size_68 : sizeV Try.prog 68 = some 21 := by kernel_rfl
@[simp] theorem bytes_68 : bytesV Try.prog 68 = some 248 := by kernel_rfl
@[simp] theorem zero_68 : zeroV Try.prog 68 = some (.agg [.int .i64 0, .int .i64 0, .niliface, .nilslice, .nilslice, .int .i64 0, .int .u8 0, .int .u32 0, .int .u32 0, .int .u8 0, .int .i64 0, .int .i64 0, .nilslice, .int .u32 0, .int .u32 0, .nilslice, .int .u32 0, .bool false, .nilslice, .nilslice, .int .i64 0]) := by kernel_rfl
attribute [simp] Try.underlying68
@[simp] theorem agg_69 : isAggV Try.prog 69 = some true := by kernel_rfl
@[simp] theorem size_69 : sizeV Try.prog 69 = some 21 := by kernel_rfl
@[simp] theorem bytes_69 : bytesV Try.prog 69 = some 248 := by kernel_rfl
@[simp] theorem zero_69 : zeroV Try.prog 69 = some (.agg [.int .i64 0, .int .i64 0, .niliface, .nilslice, .nilslice, .int .i64 0, .int .u8 0, .int .u32 0, .int .u32 0, .int .u8 0, .int .i64 0, .int .i64 0, .nilslice, .int .u32 0, .int .u32 0, .nilslice, .int .u32 0, .bool false, .nilslice, .nilslice, .int .i64 0]) := by kernel_rfl
attribute [simp] Try.underlying69
@[simp] theorem agg_70 : isAggV Try.prog 70 = some true := by kernel_rfl
@[simp] theorem size_70 : sizeV Try.prog 70 = some 2 := by kernel_rfl
@[simp] theorem bytes_70 : bytesV Try.prog 70 = some 40 := by kernel_rfl
@[simp] theorem zero_70 : zeroV Try.prog 70 = some (.agg [.niliface, .nilslice]) := by kernel_rfl
attribute [simp] Try.underlying70
@[simp] theorem agg_71 : isAggV Try.prog 71 = some true := by kernel_rfl
@[simp] theorem size_71 : sizeV Try.prog 71 = some 2 := by kernel_rfl
@[simp] theorem bytes_71 : bytesV Try.prog 71 = some 40 := by kernel_rfl
@[simp] theorem zero_71 : zeroV Try.prog 71 = some (.agg [.niliface, .nilslice]) := by kernel_rfl
attribute [simp] Try.underlying71
@[simp] theorem agg_72 : isAggV Try.prog 72 = some false := by kernel_rfl
@[simp] theorem size_72 : sizeV Try.prog 72 = some 1 := by kernel_rfl
@[simp] theorem bytes_72 : bytesV Try.prog 72 = some 8 := by kernel_rfl
@[simp] theorem zero_72 : zeroV Try.prog 72 = some (.nilptr) := by kernel_rfl
attribute [simp] Try.underlying72
@[simp] theorem agg_73 : isAggV Try.prog 73 = some false := by kernel_rfl
@[simp] theorem size_73 : sizeV Try.prog 73 = some 1 := by kernel_rfl
@[simp] theorem bytes_73 : bytesV Try.prog 73 = some 0 := by kernel_rfl
attribute [simp] Try.underlying73
@[simp] theorem agg_74 : isAggV Try.prog 74 = some false := by kernel_rfl
@[simp] theorem size_74 : sizeV Try.prog 74 = some 1 := by kernel_rfl
@[simp] theorem bytes_74 : bytesV Try.prog 74 = some 8 := by kernel_rfl
attribute [simp] Try.underlying74
@[simp] theorem agg_75 : isAggV Try.prog 75 = some false := by kernel_rfl
@[simp] theorem size_75 : sizeV Try.prog 75 = some 1 := by kernel_rfl
@[simp] theorem bytes_75 : bytesV Try.prog 75 = some 8 := by kernel_rfl
attribute [simp] Try.underlying75
@[simp] theorem agg_76 : isAggV Try.prog 76 = some false := by kernel_rfl
@[simp] theorem size_76 : sizeV Try.prog 76 = some 1 := by kernel_rfl
@[simp] theorem bytes_76 : bytesV Try.prog 76 = some 8 := by kernel_rfl
attribute [simp] Try.underlying76
@[simp] theorem agg_77 : isAggV Try.prog 77 = some false := by kernel_rfl
@[simp] theorem size_77 : sizeV Try.prog 77 = some 1 := by kernel_rfl
@[simp] theorem bytes_77 : bytesV Try.prog 77 = some 8 := by kernel_rfl
attribute [simp] Try.underlying77
@[simp] theorem agg_78 : isAggV Try.prog 78 = some false := by kernel_rfl
@[simp] theorem size_78 : sizeV Try.prog 78 = some 1 := by kernel_rfl
@[simp] theorem bytes_78 : bytesV Try.prog 78 = some 8 := by kernel_rfl
attribute [simp] Try.underlying78
@[simp] theorem agg_79 : isAggV Try.prog 79 = some false := by kernel_rfl
@[simp] theorem size_79 : sizeV Try.prog 79 = some 1 := by kernel_rfl
@[simp] theorem bytes_79 : bytesV Try.prog 79 = some 8 := by kernel_rfl
attribute [simp] Try.underlying79
@[simp] theorem agg_80 : isAggV Try.prog 80 = some false := by kernel_rfl
@[simp] theorem size_80 : sizeV Try.prog 80 = some 1 := by kernel_rfl
@[simp] theorem bytes_80 : bytesV Try.prog 80 = some 24 := by kernel_rfl
@[simp] theorem zero_80 : zeroV Try.prog 80 = some (.nilslice) := by kernel_rfl
attribute [simp] Try.underlying80
@[simp] theorem agg_81 : isAggV Try.prog 81 = some true := by kernel_rfl
@[simp] theorem size_81 : sizeV Try.prog 81 = some 2 := by kernel_rfl
@[simp] theorem bytes_81 : bytesV Try.prog 81 = some 32 := by kernel_rfl
@[simp] theorem zero_81 : zeroV Try.prog 81 = some (.agg [.int .u32 0, .nilslice]) := by kernel_rfl
attribute [simp] Try.underlying81
@[simp] theorem agg_82 : isAggV Try.prog 82 = some true := by kernel_rfl
@[simp] theorem size_82 : sizeV Try.prog 82 = some 2 := by kernel_rfl
@[simp] theorem bytes_82 : bytesV Try.prog 82 = some 32 := by kernel_rfl
@[simp] theorem zero_82 : zeroV Try.prog 82 = some (.agg [.int .u32 0, .nilslice]) := by kernel_rfl
attribute [simp] Try.underlying82
@[simp] theorem agg_83 : isAggV Try.prog 83 = some false := by kernel_rfl
@[simp] theorem size_83 : sizeV Try.prog 83 = some 1 := by kernel_rfl
@[simp] theorem bytes_83 : bytesV Try.prog 83 = some 8 := by kernel_rfl
attribute [simp] Try.underlying83
@[simp] theorem agg_84 : isAggV Try.prog 84 = some false := by kernel_rfl
@[simp] theorem size_84 : sizeV Try.prog 84 = some 1 := by kernel_rfl
@[simp] theorem bytes_84 : bytesV Try.prog 84 = some 8 := by kernel_rfl
attribute [simp] Try.underlying84
@[simp] theorem agg_85 : isAggV Try.prog 85 = some false := by kernel_rfl
@[simp] theorem size_85 : sizeV Try.prog 85 = some 1 := by kernel_rfl
@[simp] theorem bytes_85 : bytesV Try.prog 85 = some 8 := by kernel_rfl
attribute [simp] Try.underlying85
@[simp] theorem agg_86 : isAggV Try.prog 86 = some true := by kernel_rfl
@[simp] theorem size_86 : sizeV Try.prog 86 = some 0 := by kernel_rfl
@[simp] theorem bytes_86 : bytesV Try.prog 86 = some 0 := by kernel_rfl
@[simp] theorem zero_86 : zeroV Try.prog 86 = some (.agg []) := by kernel_rfl
attribute [simp] Try.underlying86
@[simp] theorem agg_87 : isAggV Try.prog 87 = some true := by kernel_rfl
@[simp] theorem size_87 : sizeV Try.prog 87 = some 0 := by kernel_rfl
@[simp] theorem bytes_87 : bytesV Try.prog 87 = some 0 := by kernel_rfl
@[simp] theorem zero_87 : zeroV Try.prog 87 = some (.agg []) := by kernel_rfl
attribute [simp] Try.underlying87
@[simp] theorem agg_88 : isAggV Try.prog 88 = some true := by kernel_rfl
@[simp] theorem size_88 : sizeV Try.prog 88 = some 0 := by kernel_rfl
@[simp] theorem bytes_88 : bytesV Try.prog 88 = some 0 := by kernel_rfl
@[simp] theorem zero_88 : zeroV Try.prog 88 = some (.agg []) := by kernel_rfl
attribute [simp] Try.underlying88
@[simp] theorem agg_89 : isAggV Try.prog 89 = some true := by kernel_rfl
@[simp] theorem size_89 : sizeV Try.prog 89 = some 0 := by kernel_rfl
@[simp] theorem bytes_89 : bytesV Try.prog 89 = some 0 := by kernel_rfl
@[simp] theorem zero_89 : zeroV Try.prog 89 = some (.agg []) := by kernel_rfl
attribute [simp] Try.underlying89
@[simp] theorem agg_90 : isAggV Try.prog 90 = some false := by kernel_rfl
@[simp] theorem size_90 : sizeV Try.prog 90 = some 1 := by kernel_rfl
@[simp] theorem bytes_90 : bytesV Try.prog 90 = some 8 := by kernel_rfl
@[simp] theorem zero_90 : zeroV Try.prog 90 = some (.int .u64 0) := by kernel_rfl
attribute [simp] Try.underlying90
@[simp] theorem agg_91 : isAggV Try.prog 91 = some true := by kernel_rfl
@[simp] theorem size_91 : sizeV Try.prog 91 = some 1 := by kernel_rfl
@[simp] theorem bytes_91 : bytesV Try.prog 91 = some 8 := by kernel_rfl
@[simp] theorem zero_91 : zeroV Try.prog 91 = some (.agg [.int .u64 0]) := by kernel_rfl
attribute [simp] Try.underlying91
@[simp] theorem agg_92 : isAggV Try.prog 92 = some true := by kernel_rfl
@[simp] theorem size_92 : sizeV Try.prog 92 = some 1 := by kernel_rfl
@[simp] theorem bytes_92 : bytesV Try.prog 92 = some 8 := by kernel_rfl
@[simp] theorem zero_92 : zeroV Try.prog 92 = some (.agg [.int .u64 0]) := by kernel_rfl
attribute [simp] Try.underlying92
@[simp] theorem agg_93 : isAggV Try.prog 93 = some true := by kernel_rfl
@[simp] theorem size_93 : sizeV Try.prog 93 = some 2 := by kernel_rfl
@[simp] theorem bytes_93 : bytesV Try.prog 93 = some 16 := by kernel_rfl
@[simp] theorem zero_93 : zeroV Try.prog 93 = some (.agg [.int .u64 0, .int .u32 0]) := by kernel_rfl
attribute [simp] Try.underlying93
@[simp] theorem agg_94 : isAggV Try.prog 94 = some true := by kernel_rfl
@[simp] theorem size_94 : sizeV Try.prog 94 = some 2 := by kernel_rfl
@[simp] theorem bytes_94 : bytesV Try.prog 94 = some 16 := by kernel_rfl
@[simp] theorem zero_94 : zeroV Try.prog 94 = some (.agg [.int .u64 0, .int .u32 0]) := by kernel_rfl
attribute [simp] Try.underlying94
@[simp] theorem agg_95 : isAggV Try.prog 95 = some false := by kernel_rfl
@[simp] theorem size_95 : sizeV Try.prog 95 = some 1 := by kernel_rfl
@[simp] theorem bytes_95 : bytesV Try.prog 95 = some 8 := by kernel_rfl
attribute [simp] Try.underlying95
@[simp] theorem agg_96 : isAggV Try.prog 96 = some false := by kernel_rfl
@[simp] theorem size_96 : sizeV Try.prog 96 = some 1 := by kernel_rfl
@[simp] theorem bytes_96 : bytesV Try.prog 96 = some 0 := by kernel_rfl
attribute [simp] Try.underlying96
@[simp] theorem agg_97 : isAggV Try.prog 97 = some false := by kernel_rfl
@[simp] theorem size_97 : sizeV Try.prog 97 = some 1 := by kernel_rfl
@[simp] theorem bytes_97 : bytesV Try.prog 97 = some 8 := by kernel_rfl
attribute [simp] Try.underlying97
@[simp] theorem agg_98 : isAggV Try.prog 98 = some true := by kernel_rfl
@[simp] theorem size_98 : sizeV Try.prog 98 = some 2 := by kernel_rfl
@[simp] theorem bytes_98 : bytesV Try.prog 98 = some 32 := by kernel_rfl
@[simp] theorem zero_98 : zeroV Try.prog 98 = some (.agg [.int .u32 0, .nilslice]) := by kernel_rfl
attribute [simp] Try.underlying98
@[simp] theorem agg_99 : isAggV Try.prog 99 = some true := by kernel_rfl
@[simp] theorem size_99 : sizeV Try.prog 99 = some 2 := by kernel_rfl
@[simp] theorem bytes_99 : bytesV Try.prog 99 = some 32 := by kernel_rfl
@[simp] theorem zero_99 : zeroV Try.prog 99 = some (.agg [.int .u32 0, .nilslice]) := by kernel_rfl
attribute [simp] Try.underlying99
@[simp] theorem agg_100 : isAggV Try.prog 100 = some false := by kernel_rfl
@[simp] theorem size_100 : sizeV Try.prog 100 = some 1 := by kernel_rfl
@[simp] theorem bytes_100 : bytesV Try.prog 100 = some 8 := by kernel_rfl
@[simp] theorem zero_100 : zeroV Try.prog 100 = some (.nilptr) := by kernel_rfl
attribute [simp] Try.underlying100
@[simp] theorem agg_101 : isAggV Try.prog 101 = some false := by kernel_rfl
@[simp] theorem size_101 : sizeV Try.prog 101 = some 1 := by kernel_rfl
@[simp] theorem bytes_101 : bytesV Try.prog 101 = some 8 := by kernel_rfl
attribute [simp] Try.underlying101
@[simp] theorem agg_102 : isAggV Try.prog 102 = some false := by kernel_rfl
@[simp] theorem size_102 : sizeV Try.prog 102 = some 1 := by kernel_rfl
@[simp] theorem bytes_102 : bytesV Try.prog 102 = some 8 := by kernel_rfl
@[simp] theorem zero_102 : zeroV Try.prog 102 = some (.nilptr) := by kernel_rfl
attribute [simp] Try.underlying102
@[simp] theorem agg_103 : isAggV Try.prog 103 = some false := by kernel_rfl
@[simp] theorem size_103 : sizeV Try.prog 103 = some 1 := by kernel_rfl
@[simp] theorem bytes_103 : bytesV Try.prog 103 = some 8 := by kernel_rfl
attribute [simp] Try.underlying103
@[simp] theorem agg_104 : isAggV Try.prog 104 = some false := by kernel_rfl
@[simp] theorem size_104 : sizeV Try.prog 104 = some 1 := by kernel_rfl
@[simp] theorem bytes_104 : bytesV Try.prog 104 = some 8 := by kernel_rfl
@[simp] theorem zero_104 : zeroV Try.prog 104 = some (.int .i64 0) := by kernel_rfl
attribute [simp] Try.underlying104
@[simp] theorem agg_105 : isAggV Try.prog 105 = some false := by kernel_rfl
@[simp] theorem size_105 : sizeV Try.prog 105 = some 1 := by kernel_rfl
@[simp] theorem bytes_105 : bytesV Try.prog 105 = some 8 := by kernel_rfl
attribute [simp] Try.underlying105
@[simp] theorem agg_106 : isAggV Try.prog 106 = some false := by kernel_rfl
@[simp] theorem size_106 : sizeV Try.prog 106 = some 1 := by kernel_rfl
@[simp] theorem bytes_106 : bytesV Try.prog 106 = some 8 := by kernel_rfl
attribute [simp] Try.underlying106
@[simp] theorem agg_107 : isAggV Try.prog 107 = some false := by kernel_rfl
@[simp] theorem size_107 : sizeV Try.prog 107 = some 1 := by kernel_rfl
@[simp] theorem bytes_107 : bytesV Try.prog 107 = some 8 := by kernel_rfl
attribute [simp] Try.underlying107
@[simp] theorem agg_108 : isAggV Try.prog 108 = some false := by kernel_rfl
@[simp] theorem size_108 : sizeV Try.prog 108 = some 1 := by kernel_rfl
@[simp] theorem bytes_108 : bytesV Try.prog 108 = some 8 := by kernel_rfl
@[simp] theorem zero_108 : zeroV Try.prog 108 = some (.int .u64 0) := by kernel_rfl
attribute [simp] Try.underlying108
@[simp] theorem agg_109 : isAggV Try.prog 109 = some false := by kernel_rfl
@[simp] theorem size_109 : sizeV Try.prog 109 = some 1 := by kernel_rfl
@[simp] theorem bytes_109 : bytesV Try.prog 109 = some 8 := by kernel_rfl
@[simp] theorem zero_109 : zeroV Try.prog 109 = some (.nilptr) := by kernel_rfl
attribute [simp] Try.underlying109
@[simp] theorem agg_110 : isAggV Try.prog 110 = some false := by kernel_rfl
@[simp] theorem size_110 : sizeV Try.prog 110 = some 1 := by kernel_rfl
@[simp] theorem bytes_110 : bytesV Try.prog 110 = some 8 := by kernel_rfl
attribute [simp] Try.underlying110
@[simp] theorem agg_111 : isAggV Try.prog 111 = some false := by kernel_rfl
@[simp] theorem size_111 : sizeV Try.prog 111 = some 1 := by kernel_rfl
@[simp] theorem bytes_111 : bytesV Try.prog 111 = some 8 := by kernel_rfl
attribute [simp] Try.underlying111
@[simp] theorem agg_112 : isAggV Try.prog 112 = some false := by kernel_rfl
@[simp] theorem size_112 : sizeV Try.prog 112 = some 1 := by kernel_rfl
@[simp] theorem bytes_112 : bytesV Try.prog 112 = some 8 := by kernel_rfl
attribute [simp] Try.underlying112
@[simp] theorem agg_113 : isAggV Try.prog 113 = some false := by kernel_rfl
@[simp] theorem size_113 : sizeV Try.prog 113 = some 1 := by kernel_rfl
@[simp] theorem bytes_113 : bytesV Try.prog 113 = some 8 := by kernel_rfl
attribute [simp] Try.underlying113
@[simp] theorem agg_114 : isAggV Try.prog 114 = some false := by kernel_rfl
@[simp] theorem size_114 : sizeV Try.prog 114 = some 1 := by kernel_rfl
@[simp] theorem bytes_114 : bytesV Try.prog 114 = some 0 := by kernel_rfl
attribute [simp] Try.underlying114
@[simp] theorem agg_115 : isAggV Try.prog 115 = some false := by kernel_rfl
@[simp] theorem size_115 : sizeV Try.prog 115 = some 1 := by kernel_rfl
@[simp] theorem bytes_115 : bytesV Try.prog 115 = some 8 := by kernel_rfl
attribute [simp] Try.underlying115
@[simp] theorem agg_116 : isAggV Try.prog 116 = some false := by kernel_rfl
@[simp] theorem size_116 : sizeV Try.prog 116 = some 1 := by kernel_rfl
@[simp] theorem bytes_116 : bytesV Try.prog 116 = some 8 := by kernel_rfl
attribute [simp] Try.underlying116
@[simp] theorem agg_117 : isAggV Try.prog 117 = some false := by kernel_rfl
@[simp] theorem size_117 : sizeV Try.prog 117 = some 1 := by kernel_rfl
@[simp] theorem bytes_117 : bytesV Try.prog 117 = some 0 := by kernel_rfl
attribute [simp] Try.underlying117
@[simp] theorem agg_118 : isAggV Try.prog 118 = some false := by kernel_rfl
@[simp] theorem size_118 : sizeV Try.prog 118 = some 1 := by kernel_rfl
@[simp] theorem bytes_118 : bytesV Try.prog 118 = some 8 := by kernel_rfl
attribute [simp] Try.underlying118
@[simp] theorem agg_119 : isAggV Try.prog 119 = some false := by kernel_rfl
@[simp] theorem size_119 : sizeV Try.prog 119 = some 1 := by kernel_rfl
@[simp] theorem bytes_119 : bytesV Try.prog 119 = some 8 := by kernel_rfl
attribute [simp] Try.underlying119
@[simp] theorem agg_120 : isAggV Try.prog 120 = some false := by kernel_rfl
@[simp] theorem size_120 : sizeV Try.prog 120 = some 1 := by kernel_rfl
@[simp] theorem bytes_120 : bytesV Try.prog 120 = some 8 := by kernel_rfl
attribute [simp] Try.underlying120
@[simp] theorem agg_121 : isAggV Try.prog 121 = some false := by kernel_rfl
@[simp] theorem size_121 : sizeV Try.prog 121 = some 1 := by kernel_rfl
@[simp] theorem bytes_121 : bytesV Try.prog 121 = some 8 := by kernel_rfl
attribute [simp] Try.underlying121
@[simp] theorem agg_122 : isAggV Try.prog 122 = some false := by kernel_rfl
@[simp] theorem size_122 : sizeV Try.prog 122 = some 1 := by kernel_rfl
@[simp] theorem bytes_122 : bytesV Try.prog 122 = some 8 := by kernel_rfl
@[simp] theorem zero_122 : zeroV Try.prog 122 = some (.nilptr) := by kernel_rfl
attribute [simp] Try.underlying122
@[simp] theorem agg_123 : isAggV Try.prog 123 = some false := by kernel_rfl
@[simp] theorem size_123 : sizeV Try.prog 123 = some 1 := by kernel_rfl
@[simp] theorem bytes_123 : bytesV Try.prog 123 = some 8 := by kernel_rfl
attribute [simp] Try.underlying123
@[simp] theorem agg_124 : isAggV Try.prog 124 = some false := by kernel_rfl
@[simp] theorem size_124 : sizeV Try.prog 124 = some 1 := by kernel_rfl
@[simp] theorem bytes_124 : bytesV Try.prog 124 = some 8 := by kernel_rfl
@[simp] theorem zero_124 : zeroV Try.prog 124 = some (.nilptr) := by kernel_rfl
attribute [simp] Try.underlying124
@[simp] theorem agg_125 : isAggV Try.prog 125 = some false := by kernel_rfl
@[simp] theorem size_125 : sizeV Try.prog 125 = some 1 := by kernel_rfl
@[simp] theorem bytes_125 : bytesV Try.prog 125 = some 8 := by kernel_rfl
attribute [simp] Try.underlying125
@[simp] theorem agg_126 : isAggV Try.prog 126 = some false := by kernel_rfl
@[simp] theorem size_126 : sizeV Try.prog 126 = some 1 := by kernel_rfl
@[simp] theorem bytes_126 : bytesV Try.prog 126 = some 8 := by kernel_rfl
attribute [simp] Try.underlying126
@[simp] theorem agg_127 : isAggV Try.prog 127 = some false := by kernel_rfl
@[simp] theorem size_127 : sizeV Try.prog 127 = some 1 := by kernel_rfl
@[simp] theorem bytes_127 : bytesV Try.prog 127 = some 8 := by kernel_rfl
attribute [simp] Try.underlying127
@[simp] theorem agg_128 : isAggV Try.prog 128 = some false := by kernel_rfl
@[simp] theorem size_128 : sizeV Try.prog 128 = some 1 := by kernel_rfl
@[simp] theorem bytes_128 : bytesV Try.prog 128 = some 8 := by kernel_rfl
attribute [simp] Try.underlying128
@[simp] theorem agg_129 : isAggV Try.prog 129 = some false := by kernel_rfl
@[simp] theorem size_129 : sizeV Try.prog 129 = some 1 := by kernel_rfl
@[simp] theorem bytes_129 : bytesV Try.prog 129 = some 8 := by kernel_rfl
attribute [simp] Try.underlying129
@[simp] theorem agg_130 : isAggV Try.prog 130 = some false := by kernel_rfl
@[simp] theorem size_130 : sizeV Try.prog 130 = some 1 := by kernel_rfl
@[simp] theorem bytes_130 : bytesV Try.prog 130 = some 8 := by kernel_rfl
attribute [simp] Try.underlying130
@[simp] theorem agg_131 : isAggV Try.prog 131 = some true := by kernel_rfl
@[simp] theorem size_131 : sizeV Try.prog 131 = some 4 := by kernel_rfl
@[simp] theorem bytes_131 : bytesV Try.prog 131 = some 40 := by kernel_rfl
@[simp] theorem zero_131 : zeroV Try.prog 131 = some (.agg [.nilptr, .nilptr, .nilptr, .str []]) := by kernel_rfl
attribute [simp] Try.underlying131
@[simp] theorem agg_132 : isAggV Try.prog 132 = some true := by kernel_rfl
@[simp] theorem size_132 : sizeV Try.prog 132 = some 4 := by kernel_rfl
@[simp] theorem bytes_132 : bytesV Try.prog 132 = some 40 := by kernel_rfl
@[simp] theorem zero_132 : zeroV Try.prog 132 = some (.agg [.nilptr, .nilptr, .nilptr, .str []]) := by kernel_rfl
attribute [simp] Try.underlying132
@[simp] theorem agg_133 : isAggV Try.prog 133 = some true := by kernel_rfl
@[simp] theorem size_133 : sizeV Try.prog 133 = some 0 := by kernel_rfl
@[simp] theorem bytes_133 : bytesV Try.prog 133 = some 0 := by kernel_rfl
@[simp] theorem zero_133 : zeroV Try.prog 133 = some (.agg []) := by kernel_rfl
attribute [simp] Try.underlying133
@[simp] theorem agg_134 : isAggV Try.prog 134 = some true := by kernel_rfl
@[simp] theorem size_134 : sizeV Try.prog 134 = some 0 := by kernel_rfl
@[simp] theorem bytes_134 : bytesV Try.prog 134 = some 0 := by kernel_rfl
@[simp] theorem zero_134 : zeroV Try.prog 134 = some (.agg []) := by kernel_rfl
attribute [simp] Try.underlying134
@[simp] theorem agg_135 : isAggV Try.prog 135 = some true := by kernel_rfl
@[simp] theorem size_135 : sizeV Try.prog 135 = some 0 := by kernel_rfl
@[simp] theorem bytes_135 : bytesV Try.prog 135 = some 0 := by kernel_rfl
@[simp] theorem zero_135 : zeroV Try.prog 135 = some (.agg []) := by kernel_rfl
attribute [simp] Try.underlying135
@[simp] theorem agg_136 : isAggV Try.prog 136 = some false := by kernel_rfl
@[simp] theorem size_136 : sizeV Try.prog 136 = some 1 := by kernel_rfl
@[simp] theorem bytes_136 : bytesV Try.prog 136 = some 1 := by kernel_rfl
@[simp] theorem zero_136 : zeroV Try.prog 136 = some (.int .u8 0) := by kernel_rfl
attribute [simp] Try.underlying136
@[simp] theorem agg_137 : isAggV Try.prog 137 = some false := by kernel_rfl
@[simp] theorem size_137 : sizeV Try.prog 137 = some 1 := by kernel_rfl
@[simp] theorem bytes_137 : bytesV Try.prog 137 = some 1 := by kernel_rfl
@[simp] theorem zero_137 : zeroV Try.prog 137 = some (.int .u8 0) := by kernel_rfl
attribute [simp] Try.underlying137
@[simp] theorem agg_138 : isAggV Try.prog 138 = some false := by kernel_rfl
@[simp] theorem size_138 : sizeV Try.prog 138 = some 1 := by kernel_rfl
@[simp] theorem bytes_138 : bytesV Try.prog 138 = some 8 := by kernel_rfl
attribute [simp] Try.underlying138
@[simp] theorem agg_139 : isAggV Try.prog 139 = some false := by kernel_rfl
@[simp] theorem size_139 : sizeV Try.prog 139 = some 1 := by kernel_rfl
@[simp] theorem bytes_139 : bytesV Try.prog 139 = some 8 := by kernel_rfl
@[simp] theorem zero_139 : zeroV Try.prog 139 = some (.nilptr) := by kernel_rfl
attribute [simp] Try.underlying139
@[simp] theorem agg_140 : isAggV Try.prog 140 = some false := by kernel_rfl
@[simp] theorem size_140 : sizeV Try.prog 140 = some 1 := by kernel_rfl
@[simp] theorem bytes_140 : bytesV Try.prog 140 = some 4 := by kernel_rfl
@[simp] theorem zero_140 : zeroV Try.prog 140 = some (.int .i32 0) := by kernel_rfl
attribute [simp] Try.underlying140
@[simp] theorem agg_141 : isAggV Try.prog 141 = some false := by kernel_rfl
@[simp] theorem size_141 : sizeV Try.prog 141 = some 1 := by kernel_rfl
@[simp] theorem bytes_141 : bytesV Try.prog 141 = some 4 := by kernel_rfl
@[simp] theorem zero_141 : zeroV Try.prog 141 = some (.int .i32 0) := by kernel_rfl
attribute [simp] Try.underlying141
@[simp] theorem agg_142 : isAggV Try.prog 142 = some true := by kernel_rfl
@[simp] theorem size_142 : sizeV Try.prog 142 = some 11 := by kernel_rfl
@[simp] theorem bytes_142 : bytesV Try.prog 142 = some 48 := by kernel_rfl
@[simp] theorem zero_142 : zeroV Try.prog 142 = some (.agg [.int .u64 0, .int .u64 0, .int .u32 0, .int .u8 0, .int .u8 0, .int .u8 0, .int .u8 0, .nilfunc, .nilptr, .int .i32 0, .int .i32 0]) := by kernel_rfl
attribute [simp] Try.underlying142
@[simp] theorem agg_143 : isAggV Try.prog 143 = some true := by kernel_rfl
@[simp] theorem size_143 : sizeV Try.prog 143 = some 11 := by kernel_rfl
@[simp] theorem bytes_143 : bytesV Try.prog 143 = some 48 := by kernel_rfl
@[simp] theorem zero_143 : zeroV Try.prog 143 = some (.agg [.int .u64 0, .int .u64 0, .int .u32 0, .int .u8 0, .int .u8 0, .int .u8 0, .int .u8 0, .nilfunc, .nilptr, .int .i32 0, .int .i32 0]) := by kernel_rfl
attribute [simp] Try.underlying143
@[simp] theorem agg_144 : isAggV Try.prog 144 = some false := by kernel_rfl
@[simp] theorem size_144 : sizeV Try.prog 144 = some 1 := by kernel_rfl
@[simp] theorem bytes_144 : bytesV Try.prog 144 = some 8 := by kernel_rfl
attribute [simp] Try.underlying144
@[simp] theorem agg_145 : isAggV Try.prog 145 = some false := by kernel_rfl
@[simp] theorem size_145 : sizeV Try.prog 145 = some 1 := by kernel_rfl
@[simp] theorem bytes_145 : bytesV Try.prog 145 = some 8 := by kernel_rfl
attribute [simp] Try.underlying145
@[simp] theorem agg_146 : isAggV Try.prog 146 = some false := by kernel_rfl
@[simp] theorem size_146 : sizeV Try.prog 146 = some 1 := by kernel_rfl
@[simp] theorem bytes_146 : bytesV Try.prog 146 = some 8 := by kernel_rfl
attribute [simp] Try.underlying146
@[simp] theorem agg_147 : isAggV Try.prog 147 = some false := by kernel_rfl
@[simp] theorem size_147 : sizeV Try.prog 147 = some 1 := by kernel_rfl
@[simp] theorem bytes_147 : bytesV Try.prog 147 = some 8 := by kernel_rfl
attribute [simp] Try.underlying147
@[simp] theorem agg_148 : isAggV Try.prog 148 = some false := by kernel_rfl
@[simp] theorem size_148 : sizeV Try.prog 148 = some 1 := by kernel_rfl
@[simp] theorem bytes_148 : bytesV Try.prog 148 = some 24 := by kernel_rfl
@[simp] theorem zero_148 : zeroV Try.prog 148 = some (.nilslice) := by kernel_rfl
attribute [simp] Try.underlying148
@[simp] theorem agg_149 : isAggV Try.prog 149 = some true := by kernel_rfl
@[simp] theorem size_149 : sizeV Try.prog 149 = some 2 := by kernel_rfl
@[simp] theorem bytes_149 : bytesV Try.prog 149 = some 8 := by kernel_rfl
@[simp] theorem zero_149 : zeroV Try.prog 149 = some (.agg [.int .u32 0, .bool false]) := by kernel_rfl
attribute [simp] Try.underlying149
@[simp] theorem agg_150 : isAggV Try.prog 150 = some true := by kernel_rfl
@[simp] theorem size_150 : sizeV Try.prog 150 = some 2 := by kernel_rfl
@[simp] theorem bytes_150 : bytesV Try.prog 150 = some 8 := by kernel_rfl
@[simp] theorem zero_150 : zeroV Try.prog 150 = some (.agg [.int .u32 0, .bool false]) := by kernel_rfl
attribute [simp] Try.underlying150

/-! 2: gosem.cut.init -/
attribute [simp] Try.results2
theorem pu_2 {lent : Bool} {args : List V} {r : V} (hr : evK E (om E) 2 [] (Try.f2.body.getD .skip) (endK Try.prog Try.f2.results.toList (pureFin lent)) (args ++ pois (1 - args.length)) [[]] = some r) : pureV E (om E) 2 lent args = some r := pureV_of (dyn := []) rfl (by rw [E_P]; exact Try.func2) (by unfold Try.f2; rfl) (by kernel_rfl) (by rw [Try.ntmps2]; exact hr)
@[simp] theorem call_2 (args : List V) (h : Heap) : callV E (om E) 2 args h = (viewArgs h args).bind fun a => (pureV E (om E) 2 (!V.flatL args) a).map fun r => (r, h) := callV_pure rfl rfl args h

/-! 3: playpen/playpenlaw31.PoolNone -/
attribute [simp] Try.results3
theorem pu_3 {lent : Bool} {args : List V} {r : V} (hr : evK E (om E) 3 [] (Try.f3.body.getD .skip) (endK Try.prog Try.f3.results.toList (pureFin lent)) (args ++ pois (87 - args.length)) [[]] = some r) : pureV E (om E) 3 lent args = some r := pureV_of (dyn := []) rfl (by rw [E_P]; exact Try.func3) (by unfold Try.f3; rfl) (by kernel_rfl) (by rw [Try.ntmps3]; exact hr)
@[simp] theorem call_3 (args : List V) (h : Heap) : callV E (om E) 3 args h = (viewArgs h args).bind fun a => (pureV E (om E) 3 (!V.flatL args) a).map fun r => (r, h) := callV_pure rfl rfl args h
@[simp] theorem hint_3_0 : E.hint 3 4 = [.forget 2, .forget 6, .forget 7, .forget 8, .forget 9, .forget 10, .forget 11, .forget 12, .forget 14, .forget 15, .forget 16, .forget 17, .forget 18, .forget 19, .forget 20, .forget 21, .forget 22, .forget 23, .forget 24, .forget 25, .forget 26, .forget 27, .forget 28, .forget 29, .forget 30, .forget 31, .forget 32, .forget 33, .forget 34, .forget 35, .forget 36, .forget 37, .forget 38, .forget 39, .forget 40, .forget 41, .forget 42, .forget 43, .forget 44, .forget 45, .forget 46, .forget 47, .forget 48, .forget 49, .forget 50, .forget 51, .forget 52, .forget 53, .forget 54, .forget 55, .forget 56, .forget 57, .forget 58, .forget 59, .forget 60, .forget 61, .forget 62, .forget 63, .forget 64, .forget 65, .forget 66, .forget 67, .forget 68, .forget 69, .forget 70, .forget 71, .forget 72, .forget 73, .forget 74, .forget 75, .forget 76, .forget 77, .forget 78, .forget 79, .forget 80, .forget 81, .forget 82, .forget 83, .forget 84, .forget 85, .forget 86] := rfl

/-! 4: (*playpen/pool.Pool).Round -/
attribute [simp] Try.results4
theorem pu_4 {lent : Bool} {args : List V} {r : V} (hr : evK E (om E) 4 [8] (Try.f4.body.getD .skip) (endK Try.prog Try.f4.results.toList (pureFin lent)) (args ++ pois (123 - args.length)) [[]] = some r) : pureV E (om E) 4 lent args = some r := pureV_of (dyn := [8]) rfl (by rw [E_P]; exact Try.func4) (by unfold Try.f4; rfl) (by kernel_rfl) (by rw [Try.ntmps4]; exact hr)
@[simp] theorem call_4 (args : List V) (h : Heap) : callV E (om E) 4 args h = (viewArgs h args).bind fun a => (pureV E (om E) 4 (!V.flatL args) a).map fun r => (r, h) := callV_pure rfl rfl args h
@[simp] theorem hint_4_0 : E.hint 4 6 = [.forget 10, .forget 11, .forget 34, .forget 35, .forget 36, .forget 37, .forget 38, .forget 39, .forget 40, .forget 41, .forget 42, .forget 43, .forget 44, .forget 45, .forget 46, .forget 47, .forget 48, .forget 49, .forget 50, .forget 51, .forget 52] := rfl
@[simp] theorem hint_4_1 : E.hint 4 11 = [.promoteBox 16 1 3, .forget 13, .forget 15, .forget 16, .forget 56, .forget 57, .forget 58, .forget 59, .forget 60, .forget 61, .forget 62, .forget 63, .forget 64, .forget 65, .forget 66, .forget 67, .forget 68, .forget 69, .forget 70, .forget 71, .forget 72, .forget 73, .forget 74, .forget 75, .forget 76, .forget 77, .forget 78, .forget 79, .forget 80, .forget 81, .forget 82, .forget 83, .forget 84, .forget 85, .forget 86, .forget 87, .forget 88, .forget 89, .forget 90, .forget 91, .forget 92, .forget 93, .forget 94, .forget 95, .forget 96, .forget 97, .forget 98, .forget 99, .forget 100, .forget 101, .forget 102, .forget 103, .forget 104, .forget 105, .forget 106, .forget 107] := rfl
@[simp] theorem hint_4_2 : E.hint 4 14 = [.promoteBox 16 1 3, .forget 15, .forget 16, .forget 66, .forget 67, .forget 68, .forget 69, .forget 70, .forget 71, .forget 72, .forget 73, .forget 74, .forget 75, .forget 76, .forget 77, .forget 78, .forget 79, .forget 80, .forget 81, .forget 82, .forget 83, .forget 84, .forget 85, .forget 86, .forget 87, .forget 88, .forget 89, .forget 90, .forget 91, .forget 92, .forget 93, .forget 94, .forget 95, .forget 96, .forget 97, .forget 98, .forget 99, .forget 100, .forget 101, .forget 102, .forget 103, .forget 104, .forget 105, .forget 106] := rfl
@[simp] theorem hint_4_3 : E.hint 4 24 = [.promote 17 15, .forget 19, .forget 111, .forget 112, .forget 113, .forget 114, .forget 115, .forget 116, .forget 117, .forget 118, .forget 119, .forget 120, .forget 121] := rfl

/-! 5: (*playpen/pool.Pool).State -/
attribute [simp] Try.results5
theorem pu_5 {lent : Bool} {args : List V} {r : V} (hr : evK E (om E) 5 [] (Try.f5.body.getD .skip) (endK Try.prog Try.f5.results.toList (pureFin lent)) (args ++ pois (23 - args.length)) [[]] = some r) : pureV E (om E) 5 lent args = some r := pureV_of (dyn := []) rfl (by rw [E_P]; exact Try.func5) (by unfold Try.f5; rfl) (by kernel_rfl) (by rw [Try.ntmps5]; exact hr)
@[simp] theorem call_5 (args : List V) (h : Heap) : callV E (om E) 5 args h = (viewArgs h args).bind fun a => (pureV E (om E) 5 (!V.flatL args) a).map fun r => (r, h) := callV_pure rfl rfl args h

/-! 6: (*playpen/pool.Pool).Waiting -/
attribute [simp] Try.results6
theorem pu_6 {lent : Bool} {args : List V} {r : V} (hr : evK E (om E) 6 [] (Try.f6.body.getD .skip) (endK Try.prog Try.f6.results.toList (pureFin lent)) (args ++ pois (22 - args.length)) [[]] = some r) : pureV E (om E) 6 lent args = some r := pureV_of (dyn := []) rfl (by rw [E_P]; exact Try.func6) (by unfold Try.f6; rfl) (by kernel_rfl) (by rw [Try.ntmps6]; exact hr)
@[simp] theorem call_6 (args : List V) (h : Heap) : callV E (om E) 6 args h = (viewArgs h args).bind fun a => (pureV E (om E) 6 (!V.flatL args) a).map fun r => (r, h) := callV_pure rfl rfl args h

/-! 7: playpen/playpenkit.SameState -/
attribute [simp] Try.results7
theorem pu_7 {lent : Bool} {args : List V} {r : V} (hr : evK E (om E) 7 [] (Try.f7.body.getD .skip) (endK Try.prog Try.f7.results.toList (pureFin lent)) (args ++ pois (52 - args.length)) [[]] = some r) : pureV E (om E) 7 lent args = some r := pureV_of (dyn := []) rfl (by rw [E_P]; exact Try.func7) (by unfold Try.f7; rfl) (by kernel_rfl) (by rw [Try.ntmps7]; exact hr)
@[simp] theorem call_7 (args : List V) (h : Heap) : callV E (om E) 7 args h = (viewArgs h args).bind fun a => (pureV E (om E) 7 (!V.flatL args) a).map fun r => (r, h) := callV_pure rfl rfl args h

/-! 8: (*playpen/pool.Pool).Count -/
attribute [simp] Try.results8
theorem pu_8 {lent : Bool} {args : List V} {r : V} (hr : evK E (om E) 8 [] (Try.f8.body.getD .skip) (endK Try.prog Try.f8.results.toList (pureFin lent)) (args ++ pois (10 - args.length)) [[]] = some r) : pureV E (om E) 8 lent args = some r := pureV_of (dyn := []) rfl (by rw [E_P]; exact Try.func8) (by unfold Try.f8; rfl) (by kernel_rfl) (by rw [Try.ntmps8]; exact hr)
@[simp] theorem call_8 (args : List V) (h : Heap) : callV E (om E) 8 args h = (viewArgs h args).bind fun a => (pureV E (om E) 8 (!V.flatL args) a).map fun r => (r, h) := callV_pure rfl rfl args h

/-! 9: (*playpen/pool.Pool).Start -/
attribute [simp] Try.results9
theorem pu_9 {lent : Bool} {args : List V} {r : V} (hr : evK E (om E) 9 [] (Try.f9.body.getD .skip) (endK Try.prog Try.f9.results.toList (pureFin lent)) (args ++ pois (27 - args.length)) [[]] = some r) : pureV E (om E) 9 lent args = some r := pureV_of (dyn := []) rfl (by rw [E_P]; exact Try.func9) (by unfold Try.f9; rfl) (by kernel_rfl) (by rw [Try.ntmps9]; exact hr)
@[simp] theorem call_9 (args : List V) (h : Heap) : callV E (om E) 9 args h = (viewArgs h args).bind fun a => (pureV E (om E) 9 (!V.flatL args) a).map fun r => (r, h) := callV_pure rfl rfl args h

/-! 10: (*playpen/pool.Pool).refuse -/
attribute [simp] Try.results10
theorem pu_10 {lent : Bool} {args : List V} {r : V} (hr : evK E (om E) 10 [] (Try.f10.body.getD .skip) (endK Try.prog Try.f10.results.toList (pureFin lent)) (args ++ pois (38 - args.length)) [[]] = some r) : pureV E (om E) 10 lent args = some r := pureV_of (dyn := []) rfl (by rw [E_P]; exact Try.func10) (by unfold Try.f10; rfl) (by kernel_rfl) (by rw [Try.ntmps10]; exact hr)
@[simp] theorem call_10 (args : List V) (h : Heap) : callV E (om E) 10 args h = (viewArgs h args).bind fun a => (pureV E (om E) 10 (!V.flatL args) a).map fun r => (r, h) := callV_pure rfl rfl args h
@[simp] theorem hint_10_0 : E.hint 10 8 = [.forget 6, .forget 8, .forget 32, .forget 33, .forget 34, .forget 35, .forget 36, .forget 37] := rfl

/-! 11: (*playpen/pool.Pool).turns -/
attribute [simp] Try.results11
theorem pu_11 {lent : Bool} {args : List V} {r : V} (hr : evK E (om E) 11 [] (Try.f11.body.getD .skip) (endK Try.prog Try.f11.results.toList (pureFin lent)) (args ++ pois (87 - args.length)) [[]] = some r) : pureV E (om E) 11 lent args = some r := pureV_of (dyn := []) rfl (by rw [E_P]; exact Try.func11) (by unfold Try.f11; rfl) (by kernel_rfl) (by rw [Try.ntmps11]; exact hr)
@[simp] theorem call_11 (args : List V) (h : Heap) : callV E (om E) 11 args h = (viewArgs h args).bind fun a => (pureV E (om E) 11 (!V.flatL args) a).map fun r => (r, h) := callV_pure rfl rfl args h
@[simp] theorem hint_11_0 : E.hint 11 5 = [.forget 10, .forget 11, .forget 12, .forget 25, .forget 26, .forget 27, .forget 28, .forget 29, .forget 30, .forget 31, .forget 32, .forget 33, .forget 34, .forget 35, .forget 36, .forget 37, .forget 38, .forget 39, .forget 40, .forget 41, .forget 42, .forget 43, .forget 44, .forget 45, .forget 46, .forget 47, .forget 48, .forget 49, .forget 50, .forget 51, .forget 52, .forget 53, .forget 54, .forget 55, .forget 56, .forget 57, .forget 58, .forget 59] := rfl
@[simp] theorem hint_11_1 : E.hint 11 18 = [.forget 6, .forget 15, .forget 16, .forget 68, .forget 69, .forget 70, .forget 71, .forget 72, .forget 73, .forget 74, .forget 75, .forget 76, .forget 77, .forget 78, .forget 79, .forget 80, .forget 81, .forget 82, .forget 83, .forget 84, .forget 85, .forget 86] := rfl

/-! 12: slices.Clone[[]playpen/api.Letter,playpen/api.Letter] -/
attribute [simp] Try.results12
@[simp] theorem call_12 (args : List V) (h : Heap) : callV E (om E) 12 args h = cloneW 3 args h := callV_known rfl args h

/-! 13: (*playpen/pool.Pool).at -/
attribute [simp] Try.results13
theorem pu_13 {lent : Bool} {args : List V} {r : V} (hr : evK E (om E) 13 [] (Try.f13.body.getD .skip) (endK Try.prog Try.f13.results.toList (pureFin lent)) (args ++ pois (29 - args.length)) [[]] = some r) : pureV E (om E) 13 lent args = some r := pureV_of (dyn := []) rfl (by rw [E_P]; exact Try.func13) (by unfold Try.f13; rfl) (by kernel_rfl) (by rw [Try.ntmps13]; exact hr)
@[simp] theorem call_13 (args : List V) (h : Heap) : callV E (om E) 13 args h = (viewArgs h args).bind fun a => (pureV E (om E) 13 (!V.flatL args) a).map fun r => (r, h) := callV_pure rfl rfl args h

/-! 14: playpen/playpenkit.SameWords -/
attribute [simp] Try.results14
theorem pu_14 {lent : Bool} {args : List V} {r : V} (hr : evK E (om E) 14 [] (Try.f14.body.getD .skip) (endK Try.prog Try.f14.results.toList (pureFin lent)) (args ++ pois (26 - args.length)) [[]] = some r) : pureV E (om E) 14 lent args = some r := pureV_of (dyn := []) rfl (by rw [E_P]; exact Try.func14) (by unfold Try.f14; rfl) (by kernel_rfl) (by rw [Try.ntmps14]; exact hr)
@[simp] theorem call_14 (args : List V) (h : Heap) : callV E (om E) 14 args h = (viewArgs h args).bind fun a => (pureV E (om E) 14 (!V.flatL args) a).map fun r => (r, h) := callV_pure rfl rfl args h
@[simp] theorem hint_14_0 : E.hint 14 4 = [.forget 4, .forget 11, .forget 12, .forget 13, .forget 14, .forget 15, .forget 16, .forget 17, .forget 18, .forget 19, .forget 20, .forget 21, .forget 22, .forget 23, .forget 24, .forget 25] := rfl

/-! 15: playpen/playpenkit.SameBytes -/
attribute [simp] Try.results15
theorem pu_15 {lent : Bool} {args : List V} {r : V} (hr : evK E (om E) 15 [] (Try.f15.body.getD .skip) (endK Try.prog Try.f15.results.toList (pureFin lent)) (args ++ pois (26 - args.length)) [[]] = some r) : pureV E (om E) 15 lent args = some r := pureV_of (dyn := []) rfl (by rw [E_P]; exact Try.func15) (by unfold Try.f15; rfl) (by kernel_rfl) (by rw [Try.ntmps15]; exact hr)
@[simp] theorem call_15 (args : List V) (h : Heap) : callV E (om E) 15 args h = (viewArgs h args).bind fun a => (pureV E (om E) 15 (!V.flatL args) a).map fun r => (r, h) := callV_pure rfl rfl args h
@[simp] theorem hint_15_0 : E.hint 15 4 = [.forget 4, .forget 11, .forget 12, .forget 13, .forget 14, .forget 15, .forget 16, .forget 17, .forget 18, .forget 19, .forget 20, .forget 21, .forget 22, .forget 23, .forget 24, .forget 25] := rfl

/-! 16: slices.ContainsFunc[[]playpen/api.Reply,playpen/api.Reply] -/
attribute [simp] Try.results16
theorem pu_16 {lent : Bool} {args : List V} {r : V} (hr : evK E (om E) 16 [] (Try.f16.body.getD .skip) (endK Try.prog Try.f16.results.toList (pureFin lent)) (args ++ pois (9 - args.length)) [[]] = some r) : pureV E (om E) 16 lent args = some r := pureV_of (dyn := []) rfl (by rw [E_P]; exact Try.func16) (by unfold Try.f16; rfl) (by kernel_rfl) (by rw [Try.ntmps16]; exact hr)
@[simp] theorem call_16 (args : List V) (h : Heap) : callV E (om E) 16 args h = (viewArgs h args).bind fun a => (pureV E (om E) 16 (!V.flatL args) a).map fun r => (r, h) := callV_pure rfl rfl args h

/-! 17: (*playpen/pool.Pool).refuse$1 -/
attribute [simp] Try.results17
theorem pu_17 {lent : Bool} {args : List V} {r : V} (hr : evK E (om E) 17 [] (Try.f17.body.getD .skip) (endK Try.prog Try.f17.results.toList (pureFin lent)) (args ++ pois (6 - args.length)) [[]] = some r) : pureV E (om E) 17 lent args = some r := pureV_of (dyn := []) rfl (by rw [E_P]; exact Try.func17) (by unfold Try.f17; rfl) (by kernel_rfl) (by rw [Try.ntmps17]; exact hr)
@[simp] theorem call_17 (args : List V) (h : Heap) : callV E (om E) 17 args h = (viewArgs h args).bind fun a => (pureV E (om E) 17 (!V.flatL args) a).map fun r => (r, h) := callV_pure rfl rfl args h

/-! 18: playpen/gate.Fits -/
attribute [simp] Try.results18
theorem pu_18 {lent : Bool} {args : List V} {r : V} (hr : evK E (om E) 18 [] (Try.f18.body.getD .skip) (endK Try.prog Try.f18.results.toList (pureFin lent)) (args ++ pois (21 - args.length)) [[]] = some r) : pureV E (om E) 18 lent args = some r := pureV_of (dyn := []) rfl (by rw [E_P]; exact Try.func18) (by unfold Try.f18; rfl) (by kernel_rfl) (by rw [Try.ntmps18]; exact hr)
@[simp] theorem call_18 (args : List V) (h : Heap) : callV E (om E) 18 args h = (viewArgs h args).bind fun a => (pureV E (om E) 18 (!V.flatL args) a).map fun r => (r, h) := callV_pure rfl rfl args h
@[simp] theorem hint_18_0 : E.hint 18 4 = [.forget 2, .forget 4, .forget 13, .forget 14, .forget 15, .forget 16, .forget 17, .forget 18, .forget 19, .forget 20] := rfl

/-! 19: (*sync.WaitGroup).Add -/
attribute [simp] Try.results19
theorem pu_19 {lent : Bool} {args : List V} {r : V} (hr : evK E (om E) 19 [] (Try.f19.body.getD .skip) (endK Try.prog Try.f19.results.toList (pureFin lent)) (args ++ pois (117 - args.length)) [[]] = some r) : pureV E (om E) 19 lent args = some r := pureV_of (dyn := []) rfl (by rw [E_P]; exact Try.func19) (by unfold Try.f19; rfl) (by kernel_rfl) (by rw [Try.ntmps19]; exact hr)
@[simp] theorem call_19 (args : List V) (h : Heap) : callV E (om E) 19 args h = (viewArgs h args).bind fun a => (pureV E (om E) 19 (!V.flatL args) a).map fun r => (r, h) := callV_pure rfl rfl args h
@[simp] theorem hint_19_0 : E.hint 19 32 = [.forget 109, .forget 110, .forget 111, .forget 112, .forget 113, .forget 114, .forget 115, .forget 116] := rfl

/-! 20: (*playpen/pool.Pool).turns$1 -/
attribute [simp] Try.results20
theorem pu_20 {lent : Bool} {args : List V} {r : V} (hr : evK E (om E) 20 [] (Try.f20.body.getD .skip) (endK Try.prog Try.f20.results.toList (pureFin lent)) (args ++ pois (7 - args.length)) [[]] = some r) : pureV E (om E) 20 lent args = some r := pureV_of (dyn := []) rfl (by rw [E_P]; exact Try.func20) (by unfold Try.f20; rfl) (by kernel_rfl) (by rw [Try.ntmps20]; exact hr)
@[simp] theorem call_20 (args : List V) (h : Heap) : callV E (om E) 20 args h = (viewArgs h args).bind fun a => (pureV E (om E) 20 (!V.flatL args) a).map fun r => (r, h) := callV_pure rfl rfl args h

/-! 21: (*sync.WaitGroup).Done -/
attribute [simp] Try.results21
theorem pu_21 {lent : Bool} {args : List V} {r : V} (hr : evK E (om E) 21 [] (Try.f21.body.getD .skip) (endK Try.prog Try.f21.results.toList (pureFin lent)) (args ++ pois (4 - args.length)) [[]] = some r) : pureV E (om E) 21 lent args = some r := pureV_of (dyn := []) rfl (by rw [E_P]; exact Try.func21) (by unfold Try.f21; rfl) (by kernel_rfl) (by rw [Try.ntmps21]; exact hr)
@[simp] theorem call_21 (args : List V) (h : Heap) : callV E (om E) 21 args h = (viewArgs h args).bind fun a => (pureV E (om E) 21 (!V.flatL args) a).map fun r => (r, h) := callV_pure rfl rfl args h

/-! 22: (*playpen/pool.turning).play -/
attribute [simp] Try.results22
theorem pu_22 {lent : Bool} {args : List V} {r : V} (hr : evK E (om E) 22 [0] (Try.f22.body.getD .skip) (endK Try.prog Try.f22.results.toList (pureFin lent)) (args ++ pois (84 - args.length)) [[]] = some r) : pureV E (om E) 22 lent args = some r := pureV_of (dyn := [0]) rfl (by rw [E_P]; exact Try.func22) (by unfold Try.f22; rfl) (by kernel_rfl) (by rw [Try.ntmps22]; exact hr)
@[simp] theorem call_22 (args : List V) (h : Heap) : callV E (om E) 22 args h = (viewArgs h args).bind fun a => (pureV E (om E) 22 (!V.flatL args) a).map fun r => (r, h) := callV_pure rfl rfl args h
@[simp] theorem hint_22_0 : E.hint 22 0 = [.forget 2, .forget 3, .forget 4, .forget 5, .forget 6, .forget 7, .forget 8, .forget 9, .forget 10, .forget 11, .forget 12, .forget 13, .forget 14, .forget 15, .forget 16, .forget 17, .forget 18, .forget 19, .forget 20, .forget 21, .forget 22, .forget 23, .forget 24, .forget 25, .forget 26, .forget 27, .forget 28, .forget 29, .forget 30, .forget 31, .forget 32, .forget 33, .forget 34, .forget 35, .forget 36, .forget 37, .forget 38, .forget 39, .forget 40, .forget 41, .forget 42, .forget 43, .forget 44, .forget 45, .forget 46, .forget 47, .forget 48, .forget 49, .forget 50, .forget 51, .forget 52, .forget 53, .forget 54, .forget 55, .forget 56, .forget 57, .forget 58, .forget 59, .forget 60, .forget 61, .forget 62, .forget 63, .forget 64, .forget 65, .forget 66, .forget 67, .forget 68, .forget 69, .forget 70, .forget 71, .forget 72, .forget 73, .forget 74, .forget 75, .forget 76, .forget 77, .forget 78, .forget 79, .forget 80, .forget 81, .forget 82, .forget 83] := rfl

/-! 23: (*playpen/pool.Pool).turns$2 -/
attribute [simp] Try.results23
theorem pu_23 {lent : Bool} {args : List V} {r : V} (hr : evK E (om E) 23 [] (Try.f23.body.getD .skip) (endK Try.prog Try.f23.results.toList (pureFin lent)) (args ++ pois (7 - args.length)) [[]] = some r) : pureV E (om E) 23 lent args = some r := pureV_of (dyn := []) rfl (by rw [E_P]; exact Try.func23) (by unfold Try.f23; rfl) (by kernel_rfl) (by rw [Try.ntmps23]; exact hr)
@[simp] theorem call_23 (args : List V) (h : Heap) : callV E (om E) 23 args h = (viewArgs h args).bind fun a => (pureV E (om E) 23 (!V.flatL args) a).map fun r => (r, h) := callV_pure rfl rfl args h

/-! 24: (*sync.WaitGroup).Wait -/
attribute [simp] Try.results24
theorem pu_24 {lent : Bool} {args : List V} {r : V} (hr : evK E (om E) 24 [] (Try.f24.body.getD .skip) (endK Try.prog Try.f24.results.toList (pureFin lent)) (args ++ pois (84 - args.length)) [[]] = some r) : pureV E (om E) 24 lent args = some r := pureV_of (dyn := []) rfl (by rw [E_P]; exact Try.func24) (by unfold Try.f24; rfl) (by kernel_rfl) (by rw [Try.ntmps24]; exact hr)
@[simp] theorem call_24 (args : List V) (h : Heap) : callV E (om E) 24 args h = (viewArgs h args).bind fun a => (pureV E (om E) 24 (!V.flatL args) a).map fun r => (r, h) := callV_pure rfl rfl args h
@[simp] theorem hint_24_0 : E.hint 24 1 = [.forget 2, .forget 3, .forget 4, .forget 5, .forget 6, .forget 8, .forget 9, .forget 10, .forget 11, .forget 12, .forget 13, .forget 14, .forget 15, .forget 16, .forget 17, .forget 18, .forget 19, .forget 20, .forget 21, .forget 22, .forget 23, .forget 24, .forget 25, .forget 26, .forget 27, .forget 28, .forget 29, .forget 30, .forget 31, .forget 32, .forget 33, .forget 34, .forget 35, .forget 36, .forget 37, .forget 38, .forget 39, .forget 40, .forget 41, .forget 42, .forget 43, .forget 44, .forget 45, .forget 46, .forget 47, .forget 48, .forget 49, .forget 50, .forget 51, .forget 52, .forget 53, .forget 54, .forget 55, .forget 56, .forget 57, .forget 58, .forget 59, .forget 60, .forget 61, .forget 62, .forget 63, .forget 64, .forget 65, .forget 66, .forget 67, .forget 68, .forget 69, .forget 70, .forget 71, .forget 72, .forget 73, .forget 74, .forget 75, .forget 76, .forget 77, .forget 78, .forget 79, .forget 80, .forget 81, .forget 82, .forget 83] := rfl

/-! 25: slices.IndexFunc[[]playpen/api.Reply,playpen/api.Reply] -/
attribute [simp] Try.results25
theorem pu_25 {lent : Bool} {args : List V} {r : V} (hr : evK E (om E) 25 [] (Try.f25.body.getD .skip) (endK Try.prog Try.f25.results.toList (pureFin lent)) (args ++ pois (19 - args.length)) [[]] = some r) : pureV E (om E) 25 lent args = some r := pureV_of (dyn := []) rfl (by rw [E_P]; exact Try.func25) (by unfold Try.f25; rfl) (by kernel_rfl) (by rw [Try.ntmps25]; exact hr)
@[simp] theorem call_25 (args : List V) (h : Heap) : callV E (om E) 25 args h = (viewArgs h args).bind fun a => (pureV E (om E) 25 (!V.flatL args) a).map fun r => (r, h) := callV_pure rfl rfl args h
@[simp] theorem hint_25_0 : E.hint 25 2 = [.forget 4, .forget 5, .forget 9, .forget 10, .forget 11, .forget 12, .forget 13, .forget 14, .forget 15, .forget 16, .forget 17, .forget 18] := rfl

/-! 32: (*sync/atomic.Uint64).Or -/
attribute [simp] Try.results32
theorem pu_32 {lent : Bool} {args : List V} {r : V} (hr : evK E (om E) 32 [] (Try.f32.body.getD .skip) (endK Try.prog Try.f32.results.toList (pureFin lent)) (args ++ pois (10 - args.length)) [[]] = some r) : pureV E (om E) 32 lent args = some r := pureV_of (dyn := []) rfl (by rw [E_P]; exact Try.func32) (by unfold Try.f32; rfl) (by kernel_rfl) (by rw [Try.ntmps32]; exact hr)
@[simp] theorem call_32 (args : List V) (h : Heap) : callV E (om E) 32 args h = (viewArgs h args).bind fun a => (pureV E (om E) 32 (!V.flatL args) a).map fun r => (r, h) := callV_pure rfl rfl args h

/-! 33: (*sync/atomic.Uint64).Add -/
attribute [simp] Try.results33
theorem pu_33 {lent : Bool} {args : List V} {r : V} (hr : evK E (om E) 33 [] (Try.f33.body.getD .skip) (endK Try.prog Try.f33.results.toList (pureFin lent)) (args ++ pois (10 - args.length)) [[]] = some r) : pureV E (om E) 33 lent args = some r := pureV_of (dyn := []) rfl (by rw [E_P]; exact Try.func33) (by unfold Try.f33; rfl) (by kernel_rfl) (by rw [Try.ntmps33]; exact hr)
@[simp] theorem call_33 (args : List V) (h : Heap) : callV E (om E) 33 args h = (viewArgs h args).bind fun a => (pureV E (om E) 33 (!V.flatL args) a).map fun r => (r, h) := callV_pure rfl rfl args h

/-! 35: (*sync/atomic.Uint64).Load -/
attribute [simp] Try.results35
theorem pu_35 {lent : Bool} {args : List V} {r : V} (hr : evK E (om E) 35 [] (Try.f35.body.getD .skip) (endK Try.prog Try.f35.results.toList (pureFin lent)) (args ++ pois (7 - args.length)) [[]] = some r) : pureV E (om E) 35 lent args = some r := pureV_of (dyn := []) rfl (by rw [E_P]; exact Try.func35) (by unfold Try.f35; rfl) (by kernel_rfl) (by rw [Try.ntmps35]; exact hr)
@[simp] theorem call_35 (args : List V) (h : Heap) : callV E (om E) 35 args h = (viewArgs h args).bind fun a => (pureV E (om E) 35 (!V.flatL args) a).map fun r => (r, h) := callV_pure rfl rfl args h

/-! 36: (*sync/atomic.Uint64).Store -/
attribute [simp] Try.results36
theorem pu_36 {lent : Bool} {args : List V} {r : V} (hr : evK E (om E) 36 [] (Try.f36.body.getD .skip) (endK Try.prog Try.f36.results.toList (pureFin lent)) (args ++ pois (9 - args.length)) [[]] = some r) : pureV E (om E) 36 lent args = some r := pureV_of (dyn := []) rfl (by rw [E_P]; exact Try.func36) (by unfold Try.f36; rfl) (by kernel_rfl) (by rw [Try.ntmps36]; exact hr)
@[simp] theorem call_36 (args : List V) (h : Heap) : callV E (om E) 36 args h = (viewArgs h args).bind fun a => (pureV E (om E) 36 (!V.flatL args) a).map fun r => (r, h) := callV_pure rfl rfl args h

/-! 39: (*playpen/pool.turning).add -/
attribute [simp] Try.results39
theorem pu_39 {lent : Bool} {args : List V} {r : V} (hr : evK E (om E) 39 [] (Try.f39.body.getD .skip) (endK Try.prog Try.f39.results.toList (pureFin lent)) (args ++ pois (42 - args.length)) [[]] = some r) : pureV E (om E) 39 lent args = some r := pureV_of (dyn := []) rfl (by rw [E_P]; exact Try.func39) (by unfold Try.f39; rfl) (by kernel_rfl) (by rw [Try.ntmps39]; exact hr)
@[simp] theorem call_39 (args : List V) (h : Heap) : callV E (om E) 39 args h = (viewArgs h args).bind fun a => (pureV E (om E) 39 (!V.flatL args) a).map fun r => (r, h) := callV_pure rfl rfl args h

/-! 40: (*playpen/pool.turning).answer -/
attribute [simp] Try.results40
theorem pu_40 {lent : Bool} {args : List V} {r : V} (hr : evK E (om E) 40 [] (Try.f40.body.getD .skip) (endK Try.prog Try.f40.results.toList (pureFin lent)) (args ++ pois (103 - args.length)) [[]] = some r) : pureV E (om E) 40 lent args = some r := pureV_of (dyn := []) rfl (by rw [E_P]; exact Try.func40) (by unfold Try.f40; rfl) (by kernel_rfl) (by rw [Try.ntmps40]; exact hr)
@[simp] theorem call_40 (args : List V) (h : Heap) : callV E (om E) 40 args h = (viewArgs h args).bind fun a => (pureV E (om E) 40 (!V.flatL args) a).map fun r => (r, h) := callV_pure rfl rfl args h

/-! 43: (*sync/atomic.Uint64).CompareAndSwap -/
attribute [simp] Try.results43
theorem pu_43 {lent : Bool} {args : List V} {r : V} (hr : evK E (om E) 43 [] (Try.f43.body.getD .skip) (endK Try.prog Try.f43.results.toList (pureFin lent)) (args ++ pois (13 - args.length)) [[]] = some r) : pureV E (om E) 43 lent args = some r := pureV_of (dyn := []) rfl (by rw [E_P]; exact Try.func43) (by unfold Try.f43; rfl) (by kernel_rfl) (by rw [Try.ntmps43]; exact hr)
@[simp] theorem call_43 (args : List V) (h : Heap) : callV E (om E) 43 args h = (viewArgs h args).bind fun a => (pureV E (om E) 43 (!V.flatL args) a).map fun r => (r, h) := callV_pure rfl rfl args h

/-! 50: (*playpen/pool.turning).answer$1 -/
attribute [simp] Try.results50
theorem pu_50 {lent : Bool} {args : List V} {r : V} (hr : evK E (om E) 50 [] (Try.f50.body.getD .skip) (endK Try.prog Try.f50.results.toList (pureFin lent)) (args ++ pois (0 - args.length)) [[]] = some r) : pureV E (om E) 50 lent args = some r := pureV_of (dyn := []) rfl (by rw [E_P]; exact Try.func50) (by unfold Try.f50; rfl) (by kernel_rfl) (by rw [Try.ntmps50]; exact hr)
@[simp] theorem call_50 (args : List V) (h : Heap) : callV E (om E) 50 args h = (viewArgs h args).bind fun a => (pureV E (om E) 50 (!V.flatL args) a).map fun r => (r, h) := callV_pure rfl rfl args h

/-! 51: (*playpen/pool.turning).answer$2 -/
attribute [simp] Try.results51
theorem pu_51 {lent : Bool} {args : List V} {r : V} (hr : evK E (om E) 51 [0] (Try.f51.body.getD .skip) (endK Try.prog Try.f51.results.toList (pureFin lent)) (args ++ pois (14 - args.length)) [[]] = some r) : pureV E (om E) 51 lent args = some r := pureV_of (dyn := [0]) rfl (by rw [E_P]; exact Try.func51) (by unfold Try.f51; rfl) (by kernel_rfl) (by rw [Try.ntmps51]; exact hr)
@[simp] theorem call_51 (args : List V) (h : Heap) : callV E (om E) 51 args h = (viewArgs h args).bind fun a => (pureV E (om E) 51 (!V.flatL args) a).map fun r => (r, h) := callV_pure rfl rfl args h

/-! 52: playpen/little.Put[uint32] -/
attribute [simp] Try.results52
theorem pu_52 {lent : Bool} {args : List V} {r : V} (hr : evK E (om E) 52 [] (Try.f52.body.getD .skip) (endK Try.prog Try.f52.results.toList (pureFin lent)) (args ++ pois (17 - args.length)) [[]] = some r) : pureV E (om E) 52 lent args = some r := pureV_of (dyn := []) rfl (by rw [E_P]; exact Try.func52) (by unfold Try.f52; rfl) (by kernel_rfl) (by rw [Try.ntmps52]; exact hr)
@[simp] theorem call_52 (args : List V) (h : Heap) : callV E (om E) 52 args h = (viewArgs h args).bind fun a => (pureV E (om E) 52 (!V.flatL args) a).map fun r => (r, h) := callV_pure rfl rfl args h
@[simp] theorem hint_52_0 : E.hint 52 3 = [.canon 3, .forget 5, .forget 9, .forget 10, .forget 11, .forget 12, .forget 13, .forget 14, .forget 15] := rfl

/-! 53: (*playpen/pool.turning).answer$3 -/
attribute [simp] Try.results53
theorem pu_53 {lent : Bool} {args : List V} {r : V} (hr : evK E (om E) 53 [1] (Try.f53.body.getD .skip) (endK Try.prog Try.f53.results.toList (pureFin lent)) (args ++ pois (22 - args.length)) [[]] = some r) : pureV E (om E) 53 lent args = some r := pureV_of (dyn := [1]) rfl (by rw [E_P]; exact Try.func53) (by unfold Try.f53; rfl) (by kernel_rfl) (by rw [Try.ntmps53]; exact hr)
@[simp] theorem call_53 (args : List V) (h : Heap) : callV E (om E) 53 args h = (viewArgs h args).bind fun a => (pureV E (om E) 53 (!V.flatL args) a).map fun r => (r, h) := callV_pure rfl rfl args h

/-! 54: (*playpen/pool.turning).answer$4 -/
attribute [simp] Try.results54
theorem pu_54 {lent : Bool} {args : List V} {r : V} (hr : evK E (om E) 54 [] (Try.f54.body.getD .skip) (endK Try.prog Try.f54.results.toList (pureFin lent)) (args ++ pois (5 - args.length)) [[]] = some r) : pureV E (om E) 54 lent args = some r := pureV_of (dyn := []) rfl (by rw [E_P]; exact Try.func54) (by unfold Try.f54; rfl) (by kernel_rfl) (by rw [Try.ntmps54]; exact hr)
@[simp] theorem call_54 (args : List V) (h : Heap) : callV E (om E) 54 args h = (viewArgs h args).bind fun a => (pureV E (om E) 54 (!V.flatL args) a).map fun r => (r, h) := callV_pure rfl rfl args h

/-! 55: (*playpen/pool.turning).answer$5 -/
attribute [simp] Try.results55
theorem pu_55 {lent : Bool} {args : List V} {r : V} (hr : evK E (om E) 55 [] (Try.f55.body.getD .skip) (endK Try.prog Try.f55.results.toList (pureFin lent)) (args ++ pois (20 - args.length)) [[]] = some r) : pureV E (om E) 55 lent args = some r := pureV_of (dyn := []) rfl (by rw [E_P]; exact Try.func55) (by unfold Try.f55; rfl) (by kernel_rfl) (by rw [Try.ntmps55]; exact hr)
@[simp] theorem call_55 (args : List V) (h : Heap) : callV E (om E) 55 args h = (viewArgs h args).bind fun a => (pureV E (om E) 55 (!V.flatL args) a).map fun r => (r, h) := callV_pure rfl rfl args h

/-! 57: playpen/little.lay[uint32] -/
attribute [simp] Try.results57
theorem pu_57 {lent : Bool} {args : List V} {r : V} (hr : evK E (om E) 57 [] (Try.f57.body.getD .skip) (endK Try.prog Try.f57.results.toList (pureFin lent)) (args ++ pois (21 - args.length)) [[]] = some r) : pureV E (om E) 57 lent args = some r := pureV_of (dyn := []) rfl (by rw [E_P]; exact Try.func57) (by unfold Try.f57; rfl) (by kernel_rfl) (by rw [Try.ntmps57]; exact hr)
@[simp] theorem call_57 (args : List V) (h : Heap) : callV E (om E) 57 args h = (viewArgs h args).bind fun a => (pureV E (om E) 57 (!V.flatL args) a).map fun r => (r, h) := callV_pure rfl rfl args h
@[simp] theorem hint_57_0 : E.hint 57 2 = [.promote 0 1, .forget 5, .forget 8, .forget 9, .forget 10, .forget 11, .forget 12, .forget 13, .forget 14, .forget 15, .forget 16, .forget 17, .forget 18, .forget 19] := rfl

/-! 58: playpen/little.width[uint32] -/
attribute [simp] Try.results58
theorem pu_58 {lent : Bool} {args : List V} {r : V} (hr : evK E (om E) 58 [] (Try.f58.body.getD .skip) (endK Try.prog Try.f58.results.toList (pureFin lent)) (args ++ pois (14 - args.length)) [[]] = some r) : pureV E (om E) 58 lent args = some r := pureV_of (dyn := []) rfl (by rw [E_P]; exact Try.func58) (by unfold Try.f58; rfl) (by kernel_rfl) (by rw [Try.ntmps58]; exact hr)
@[simp] theorem call_58 (args : List V) (h : Heap) : callV E (om E) 58 args h = (viewArgs h args).bind fun a => (pureV E (om E) 58 (!V.flatL args) a).map fun r => (r, h) := callV_pure rfl rfl args h
@[simp] theorem hint_58_0 : E.hint 58 3 = [.forget 5, .forget 6, .forget 7, .forget 8, .forget 9, .forget 10, .forget 11, .forget 12] := rfl

/-! 75: (*sync.WaitGroup).Go -/
attribute [simp] Try.results75
theorem pu_75 {lent : Bool} {args : List V} {r : V} (hr : evK E (om E) 75 [] (Try.f75.body.getD .skip) (endK Try.prog Try.f75.results.toList (pureFin lent)) (args ++ pois (7 - args.length)) [[]] = some r) : pureV E (om E) 75 lent args = some r := pureV_of (dyn := []) rfl (by rw [E_P]; exact Try.func75) (by unfold Try.f75; rfl) (by kernel_rfl) (by rw [Try.ntmps75]; exact hr)
@[simp] theorem call_75 (args : List V) (h : Heap) : callV E (om E) 75 args h = (viewArgs h args).bind fun a => (pureV E (om E) 75 (!V.flatL args) a).map fun r => (r, h) := callV_pure rfl rfl args h

/-! 76: (*sync.WaitGroup).Go$1 -/
attribute [simp] Try.results76
theorem pu_76 {lent : Bool} {args : List V} {r : V} (hr : evK E (om E) 76 [] (Try.f76.body.getD .skip) (endK Try.prog Try.f76.results.toList (pureFin lent)) (args ++ pois (5 - args.length)) [[]] = some r) : pureV E (om E) 76 lent args = some r := pureV_of (dyn := []) rfl (by rw [E_P]; exact Try.func76) (by unfold Try.f76; rfl) (by kernel_rfl) (by rw [Try.ntmps76]; exact hr)
@[simp] theorem call_76 (args : List V) (h : Heap) : callV E (om E) 76 args h = (viewArgs h args).bind fun a => (pureV E (om E) 76 (!V.flatL args) a).map fun r => (r, h) := callV_pure rfl rfl args h

/-! 77: (*sync.WaitGroup).Go$1$1 -/
attribute [simp] Try.results77
theorem pu_77 {lent : Bool} {args : List V} {r : V} (hr : evK E (om E) 77 [] (Try.f77.body.getD .skip) (endK Try.prog Try.f77.results.toList (pureFin lent)) (args ++ pois (8 - args.length)) [[]] = some r) : pureV E (om E) 77 lent args = some r := pureV_of (dyn := []) rfl (by rw [E_P]; exact Try.func77) (by unfold Try.f77; rfl) (by kernel_rfl) (by rw [Try.ntmps77]; exact hr)
@[simp] theorem call_77 (args : List V) (h : Heap) : callV E (om E) 77 args h = (viewArgs h args).bind fun a => (pureV E (om E) 77 (!V.flatL args) a).map fun r => (r, h) := callV_pure rfl rfl args h
end Go.Proofs.Ytfbaaaalfolnnac
end
