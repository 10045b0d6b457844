/-
  The machine's settings over this seat's program: how functions are called, what loops forget. Printed by program.
-/
import Derived.Test.YtlachkeneeflaabGreatProg
import Derived.Test.YtlachkeneeflaabGreatMd
import Derived.KernelRfl
section
namespace Go.Proofs.YtlachkeneeflaabGreat
open Go Go.Sim
def modeT (f : Nat) : Sim.Mode :=
  match f with
  | 59 => .own
  | 85 => .live
  | 103 => .heap
  | 86 => .heap
  | 76 => .heap
  | 77 => .heap
  | 49 => .own
  | 75 => .live
  | 102 => .live
  | 78 => .own
  | 53 => .own
  | 57 => .own
  | 93 => .heap
  | 74 => .heap
  | 95 => .heap
  | 98 => .heap
  | 108 => .heap
  | 111 => .heap
  | 136 => .heap
  | 134 => .heap
  | 135 => .heap
  | 109 => .heap
  | 72 => .own
  | 5 => .own
  | 4 => .live
  | 8 => .live
  | 24 => .live
  | 29 => .live
  | 23 => .heap
  | _ => .pure
def hintT (f r : Nat) : List Hint :=
  match f, r with
  | 9, 2 => [.forget 4, .forget 5, .forget 7, .forget 16, .forget 17, .forget 18, .forget 19, .forget 20, .forget 21, .forget 22, .forget 23, .forget 24, .forget 25]
  | 15, 4 => [.forget 2, .forget 4, .forget 5, .forget 15, .forget 16, .forget 17, .forget 18, .forget 19, .forget 20, .forget 21, .forget 22, .forget 23]
  | 15, 17 => [.forget 2, .forget 6, .forget 51, .forget 52, .forget 53, .forget 54, .forget 55, .forget 56, .forget 57, .forget 58]
  | 17, 8 => [.forget 6, .forget 7, .forget 8, .forget 13, .forget 14, .forget 15, .forget 45, .forget 46, .forget 47, .forget 48, .forget 49, .forget 50, .forget 51, .forget 52, .forget 53, .forget 54, .forget 55, .forget 56, .forget 57, .forget 58, .forget 59, .forget 60, .forget 61, .forget 62, .forget 63, .forget 64, .forget 65, .forget 66, .forget 67, .forget 68, .forget 69, .forget 70]
  | 17, 18 => [.forget 6, .forget 7, .forget 8, .forget 18, .forget 19, .forget 84, .forget 85, .forget 86, .forget 87, .forget 88, .forget 89, .forget 90, .forget 91, .forget 92, .forget 93, .forget 94]
  | 19, 5 => [.forget 11, .forget 12, .forget 13, .forget 14, .forget 15, .forget 16, .forget 17, .forget 18, .forget 19, .forget 20, .forget 21, .forget 22, .forget 23]
  | 20, 9 => [.forget 10, .forget 40, .forget 41, .forget 42, .forget 43, .forget 44, .forget 45, .forget 46, .forget 47, .forget 48, .forget 49, .forget 50, .forget 51, .forget 52, .forget 53, .forget 54, .forget 55, .forget 56, .forget 57, .forget 58, .forget 59]
  | 20, 16 => [.promote 12 1, .forget 14, .forget 71, .forget 72, .forget 73, .forget 74, .forget 75, .forget 76, .forget 77, .forget 78, .forget 79, .forget 80]
  | 20, 25 => [.promote 16 1, .forget 18, .forget 102, .forget 103, .forget 104, .forget 105, .forget 106, .forget 107, .forget 108, .forget 109, .forget 110, .forget 111, .forget 112, .forget 113]
  | 20, 31 => [.promote 16 1, .forget 20, .forget 125, .forget 126, .forget 127, .forget 128, .forget 129, .forget 130, .forget 131]
  | 21, 3 => [.forget 6, .forget 10, .forget 11, .forget 12, .forget 13, .forget 14, .forget 15, .forget 16, .forget 17, .forget 18, .forget 19, .forget 20, .forget 21, .forget 22]
  | 24, 3 => [.promote 3 4, .forget 4, .forget 9, .forget 10, .forget 11, .forget 12, .forget 13, .forget 14, .forget 15, .forget 16, .forget 17]
  | 42, 5 => [.promote 5 1, .forget 2, .forget 3, .forget 4, .forget 6, .forget 7, .forget 8, .forget 15, .forget 16, .forget 17, .forget 18, .forget 19, .forget 20, .forget 21, .forget 22, .forget 23, .forget 24, .forget 25, .forget 26, .forget 27, .forget 28, .forget 29, .forget 30, .forget 31, .forget 32, .forget 33, .forget 34, .forget 35, .forget 36, .forget 37, .forget 38, .forget 39, .forget 40]
  | 43, 3 => [.promoteBox 3 0 4, .promoteBox 3 1 1, .forget 4, .forget 5, .forget 6, .forget 12, .forget 13, .forget 14, .forget 15, .forget 16, .forget 17, .forget 18, .forget 19, .forget 20, .forget 21, .forget 22, .forget 23, .forget 24, .forget 25, .forget 26, .forget 27, .forget 28, .forget 29, .forget 30, .forget 31, .forget 32, .forget 33, .forget 34, .forget 35, .forget 36, .forget 37, .forget 38, .forget 39, .forget 40, .forget 41, .forget 42, .forget 43, .forget 44, .forget 45, .forget 46, .forget 47, .forget 48, .forget 49, .forget 50, .forget 51, .forget 52, .forget 53, .forget 54, .forget 55, .forget 56, .forget 57, .forget 58, .forget 59]
  | 45, 2 => [.forget 4, .forget 5, .forget 6, .forget 7, .forget 11, .forget 12, .forget 13, .forget 14, .forget 15, .forget 16, .forget 17, .forget 18, .forget 19, .forget 20, .forget 21, .forget 22, .forget 23, .forget 24, .forget 25, .forget 26, .forget 27, .forget 28, .forget 29, .forget 30, .forget 31, .forget 32, .forget 33, .forget 34, .forget 35, .forget 36, .forget 37, .forget 38, .forget 39, .forget 40, .forget 41, .forget 42, .forget 43, .forget 44, .forget 45, .forget 46, .forget 47, .forget 48, .forget 49, .forget 50, .forget 51, .forget 52, .forget 53, .forget 54, .forget 55, .forget 56, .forget 57, .forget 58, .forget 59, .forget 60, .forget 61, .forget 62, .forget 63, .forget 64, .forget 65, .forget 66, .forget 67, .forget 68, .forget 69, .forget 70, .forget 71, .forget 72, .forget 73, .forget 74, .forget 75, .forget 76, .forget 77, .forget 78, .forget 79, .forget 80, .forget 81, .forget 82, .forget 83]
  | 48, 4 => [.promoteBox 7 0 1]
  | 49, 3 => [.forget 5, .forget 12, .forget 13, .forget 14, .forget 15, .forget 16, .forget 17, .forget 18, .forget 19, .forget 20, .forget 21, .forget 22]
  | 49, 11 => [.promote 6 1, .forget 8, .forget 28, .forget 29, .forget 30, .forget 31, .forget 32, .forget 33, .forget 34]
  | 50, 3 => [.promote 3 1, .forget 5, .forget 9, .forget 10, .forget 11, .forget 12, .forget 13, .forget 14, .forget 15]
  | 51, 3 => [.promote 3 1, .forget 5, .forget 9, .forget 10, .forget 11, .forget 12, .forget 13, .forget 14, .forget 15]
  | 52, 4 => [.promote 7 2, .forget 4, .forget 5, .forget 9, .forget 15, .forget 16, .forget 17, .forget 18, .forget 19, .forget 20, .forget 21, .forget 22, .forget 23, .forget 24, .forget 25, .forget 26, .forget 27, .forget 28, .forget 29, .forget 30, .forget 31]
  | 56, 16 => [.forget 2, .forget 3, .forget 7, .forget 8, .forget 49, .forget 50, .forget 51, .forget 52, .forget 53, .forget 54, .forget 55, .forget 56, .forget 57, .forget 58, .forget 59, .forget 60, .forget 61, .forget 62]
  | 57, 3 => [.promote 3 2, .forget 5, .forget 8, .forget 9, .forget 10, .forget 11, .forget 12, .forget 13, .forget 14, .forget 15, .forget 16, .forget 17, .forget 18, .forget 19, .forget 20, .forget 21]
  | 60, 4 => [.promoteBox 5 0 2]
  | 62, 6 => [.promote 5 1, .forget 13, .forget 14, .forget 15, .forget 16, .forget 17, .forget 18, .forget 19, .forget 20, .forget 21, .forget 22, .forget 23, .forget 24, .forget 25, .forget 26]
  | 64, 3 => [.promote 5 2, .forget 7, .forget 8, .forget 9, .forget 10, .forget 11, .forget 12, .forget 13, .forget 14, .forget 15, .forget 16, .forget 17, .forget 18, .forget 19, .forget 20, .forget 21, .forget 22, .forget 23, .forget 24, .forget 25, .forget 26, .forget 27, .forget 28, .forget 29, .forget 30, .forget 31, .forget 32, .forget 33, .forget 34, .forget 35, .forget 36, .forget 37, .forget 38, .forget 39, .forget 40, .forget 41, .forget 42, .forget 43, .forget 44, .forget 45, .forget 46, .forget 47, .forget 48, .forget 49, .forget 50, .forget 51, .forget 52, .forget 53, .forget 54, .forget 55, .forget 56, .forget 57]
  | 72, 8 => [.forget 34, .forget 35, .forget 36, .forget 37, .forget 38, .forget 39, .forget 40, .forget 41, .forget 42, .forget 43, .forget 44, .forget 45, .forget 46]
  | 74, 4 => [.forget 13, .forget 14, .forget 15, .forget 17, .forget 24, .forget 25, .forget 26, .forget 27, .forget 28, .forget 29, .forget 30, .forget 31, .forget 32, .forget 33, .forget 34, .forget 35, .forget 36, .forget 37, .forget 38, .forget 39, .forget 40, .forget 41, .forget 42, .forget 43, .forget 44, .forget 45, .forget 46, .forget 47, .forget 48, .forget 49, .forget 50, .forget 51, .forget 52, .forget 53, .forget 54, .forget 55, .forget 56, .forget 57, .forget 58, .forget 59, .forget 60, .forget 61, .forget 62, .forget 63, .forget 64, .forget 65, .forget 66, .forget 67, .forget 68, .forget 69, .forget 70, .forget 71, .forget 72, .forget 73, .forget 74, .forget 75, .forget 76, .forget 77, .forget 78, .forget 79, .forget 80, .forget 81, .forget 82, .forget 83, .forget 84, .forget 85, .forget 86, .forget 87, .forget 88, .forget 89, .forget 90, .forget 91, .forget 92, .forget 93, .forget 94, .forget 95, .forget 96, .forget 97, .forget 98, .forget 99, .forget 100, .forget 101, .forget 102, .forget 103]
  | 74, 16 => [.forget 17, .forget 72, .forget 73, .forget 74, .forget 75, .forget 76, .forget 77, .forget 78, .forget 79, .forget 80, .forget 81, .forget 82, .forget 83, .forget 84, .forget 85, .forget 86, .forget 87, .forget 88, .forget 89, .forget 90, .forget 91, .forget 92, .forget 93, .forget 94, .forget 95, .forget 96, .forget 97, .forget 98, .forget 99, .forget 100, .forget 101, .forget 102, .forget 103]
  | 76, 2 => [.promote 0 1, .forget 5, .forget 8, .forget 9, .forget 10, .forget 11, .forget 12, .forget 13, .forget 14, .forget 15, .forget 16, .forget 17, .forget 18, .forget 19]
  | 77, 2 => [.promote 0 1, .forget 5, .forget 8, .forget 9, .forget 10, .forget 11, .forget 12, .forget 13, .forget 14, .forget 15, .forget 16, .forget 17, .forget 18, .forget 19]
  | 81, 2 => [.forget 2, .forget 3, .forget 4, .forget 5, .forget 6, .forget 7, .forget 8, .forget 12, .forget 13, .forget 14, .forget 15, .forget 16, .forget 17, .forget 18, .forget 19, .forget 20, .forget 21, .forget 22, .forget 23, .forget 24, .forget 25, .forget 26, .forget 27, .forget 28, .forget 29, .forget 30, .forget 31]
  | 81, 5 => [.forget 2, .forget 3, .forget 4, .forget 7, .forget 8, .forget 21, .forget 22, .forget 23, .forget 24, .forget 25, .forget 26, .forget 27, .forget 28, .forget 29, .forget 30]
  | 82, 3 => [.forget 5, .forget 12, .forget 13, .forget 14, .forget 15, .forget 16, .forget 17, .forget 18, .forget 19, .forget 20, .forget 21, .forget 22]
  | 82, 11 => [.promote 6 2, .forget 8, .forget 28, .forget 29, .forget 30, .forget 31, .forget 32, .forget 33, .forget 34]
  | 88, 3 => [.forget 5, .forget 6, .forget 7, .forget 8, .forget 9, .forget 10, .forget 11, .forget 12]
  | 89, 3 => [.forget 4, .forget 7, .forget 8, .forget 9, .forget 10, .forget 11, .forget 12, .forget 13, .forget 14, .forget 15, .forget 16, .forget 17, .forget 18, .forget 19]
  | 93, 2 => [.forget 3, .forget 4, .forget 13, .forget 14, .forget 15, .forget 16, .forget 17, .forget 18, .forget 19, .forget 20, .forget 21, .forget 22]
  | 99, 3 => [.forget 5, .forget 6, .forget 7, .forget 8, .forget 9, .forget 10, .forget 11, .forget 12]
  | 103, 2 => [.forget 6, .forget 7, .forget 8, .forget 9, .forget 10, .forget 11, .forget 12, .forget 13, .forget 14, .forget 15, .forget 16, .forget 17, .forget 18, .forget 19, .forget 20, .forget 21, .forget 22, .forget 23, .forget 24, .forget 25, .forget 26, .forget 27, .forget 28, .forget 29, .forget 30, .forget 31, .forget 32, .forget 33, .forget 34, .forget 35, .forget 36, .forget 37, .forget 38, .forget 39, .forget 40]
  | 104, 8 => [.forget 38, .forget 39, .forget 40, .forget 41, .forget 42, .forget 43, .forget 44, .forget 45, .forget 46, .forget 47, .forget 48, .forget 49, .forget 50, .forget 51, .forget 52, .forget 53]
  | 105, 3 => [.forget 9, .forget 13, .forget 14, .forget 15, .forget 16, .forget 17, .forget 18, .forget 19, .forget 20, .forget 21, .forget 22, .forget 23, .forget 24, .forget 25, .forget 26, .forget 27, .forget 28, .forget 29, .forget 30]
  | 108, 2 => [.forget 8, .forget 9, .forget 10, .forget 12, .forget 13, .forget 14, .forget 15, .forget 16, .forget 17, .forget 18, .forget 19, .forget 20, .forget 21, .forget 22, .forget 23, .forget 24, .forget 25, .forget 26, .forget 27, .forget 28, .forget 29, .forget 30, .forget 31, .forget 32, .forget 33, .forget 34, .forget 35, .forget 36, .forget 37, .forget 38, .forget 39, .forget 40, .forget 41, .forget 42, .forget 43, .forget 44]
  | 109, 4 => [.forget 2, .forget 4, .forget 5, .forget 10, .forget 11, .forget 12, .forget 13, .forget 14, .forget 15, .forget 16, .forget 17, .forget 18, .forget 19, .forget 20, .forget 21, .forget 22, .forget 23, .forget 24, .forget 25, .forget 26, .forget 27, .forget 28, .forget 29, .forget 30, .forget 31, .forget 32, .forget 33, .forget 34, .forget 35, .forget 36, .forget 37, .forget 38, .forget 39, .forget 40, .forget 41, .forget 42, .forget 43, .forget 44, .forget 45, .forget 46, .forget 47, .forget 48, .forget 49, .forget 50, .forget 51, .forget 52, .forget 53, .forget 54, .forget 55, .forget 56, .forget 57, .forget 58, .forget 59]
  | 109, 9 => [.forget 29, .forget 30, .forget 31, .forget 32, .forget 33, .forget 34, .forget 35, .forget 36, .forget 37, .forget 38, .forget 39, .forget 40, .forget 41, .forget 42, .forget 43, .forget 44, .forget 45, .forget 46, .forget 47, .forget 48, .forget 49, .forget 50, .forget 51, .forget 52, .forget 53]
  | 111, 0 => [.forget 4, .forget 5, .forget 6, .forget 7, .forget 8, .forget 9, .forget 10, .forget 11, .forget 12, .forget 13, .forget 14, .forget 15, .forget 16, .forget 17, .forget 18, .forget 19, .forget 20, .forget 21, .forget 22]
  | _, _ => []
def knownT (f : Nat) : Option (List V → Heap → Option (V × Heap)) :=
  match f with
  | 38 => some (cloneW 2) -- clone 26 46 8
  | 39 => some (cloneW 1) -- clone 27 29 4
  | 40 => some (cloneW 1) -- clone 28 5 1
  | 41 => some (cloneW 2) -- clone 30 48 24
  | 84 => some (cloneW 1) -- clone 28 5 1
  | _ => none
noncomputable def E : Env := { P := Tryz.prog, mode := modeT, hint := hintT, known := knownT, eqTypes := [39, 46], fns := fun f => Nat.blt f 138 }
@[simp] theorem E_P : E.P = Tryz.prog := rfl
@[simp] theorem agg_0 : isAggV Tryz.prog 0 = some false := by kernel_rfl
@[simp] theorem size_0 : sizeV Tryz.prog 0 = some 1 := by kernel_rfl
@[simp] theorem bytes_0 : bytesV Tryz.prog 0 = some 0 := by kernel_rfl
attribute [simp] Tryz.underlying0
@[simp] theorem agg_1 : isAggV Tryz.prog 1 = some false := by kernel_rfl
@[simp] theorem size_1 : sizeV Tryz.prog 1 = some 1 := by kernel_rfl
@[simp] theorem bytes_1 : bytesV Tryz.prog 1 = some 8 := by kernel_rfl
attribute [simp] Tryz.underlying1
@[simp] theorem agg_2 : isAggV Tryz.prog 2 = some false := by kernel_rfl
@[simp] theorem size_2 : sizeV Tryz.prog 2 = some 1 := by kernel_rfl
@[simp] theorem bytes_2 : bytesV Tryz.prog 2 = some 8 := by kernel_rfl
@[simp] theorem zero_2 : zeroV Tryz.prog 2 = some (.int .i64 0) := by kernel_rfl
attribute [simp] Tryz.underlying2
@[simp] theorem agg_3 : isAggV Tryz.prog 3 = some false := by kernel_rfl
@[simp] theorem size_3 : sizeV Tryz.prog 3 = some 1 := by kernel_rfl
@[simp] theorem bytes_3 : bytesV Tryz.prog 3 = some 8 := by kernel_rfl
@[simp] theorem zero_3 : zeroV Tryz.prog 3 = some (.int .i64 0) := by kernel_rfl
attribute [simp] Tryz.underlying3
@[simp] theorem agg_4 : isAggV Tryz.prog 4 = some false := by kernel_rfl
@[simp] theorem size_4 : sizeV Tryz.prog 4 = some 1 := by kernel_rfl
@[simp] theorem bytes_4 : bytesV Tryz.prog 4 = some 1 := by kernel_rfl
@[simp] theorem zero_4 : zeroV Tryz.prog 4 = some (.bool false) := by kernel_rfl
attribute [simp] Tryz.underlying4
@[simp] theorem agg_5 : isAggV Tryz.prog 5 = some false := by kernel_rfl
@[simp] theorem size_5 : sizeV Tryz.prog 5 = some 1 := by kernel_rfl
@[simp] theorem bytes_5 : bytesV Tryz.prog 5 = some 1 := by kernel_rfl
@[simp] theorem zero_5 : zeroV Tryz.prog 5 = some (.int .u8 0) := by kernel_rfl
attribute [simp] Tryz.underlying5
@[simp] theorem agg_6 : isAggV Tryz.prog 6 = some false := by kernel_rfl
@[simp] theorem size_6 : sizeV Tryz.prog 6 = some 1 := by kernel_rfl
@[simp] theorem bytes_6 : bytesV Tryz.prog 6 = some 1 := by kernel_rfl
@[simp] theorem zero_6 : zeroV Tryz.prog 6 = some (.int .u8 0) := by kernel_rfl
attribute [simp] Tryz.underlying6
@[simp] theorem agg_7 : isAggV Tryz.prog 7 = some true := by kernel_rfl
@[simp] theorem size_7 : sizeV Tryz.prog 7 = some 4 := by kernel_rfl
@[simp] theorem bytes_7 : bytesV Tryz.prog 7 = some 24 := by kernel_rfl
@[simp] theorem zero_7 : zeroV Tryz.prog 7 = some (.agg [.int .i64 0, .int .i64 0, .bool false, .int .u8 0]) := by kernel_rfl
attribute [simp] Tryz.underlying7
@[simp] theorem agg_8 : isAggV Tryz.prog 8 = some true := by kernel_rfl
@[simp] theorem size_8 : sizeV Tryz.prog 8 = some 4 := by kernel_rfl
@[simp] theorem bytes_8 : bytesV Tryz.prog 8 = some 24 := by kernel_rfl
@[simp] theorem zero_8 : zeroV Tryz.prog 8 = some (.agg [.int .i64 0, .int .i64 0, .bool false, .int .u8 0]) := by kernel_rfl
attribute [simp] Tryz.underlying8
@[simp] theorem agg_9 : isAggV Tryz.prog 9 = some false := by kernel_rfl
@[simp] theorem size_9 : sizeV Tryz.prog 9 = some 1 := by kernel_rfl
@[simp] theorem bytes_9 : bytesV Tryz.prog 9 = some 16 := by kernel_rfl
@[simp] theorem zero_9 : zeroV Tryz.prog 9 = some (.str []) := by kernel_rfl
attribute [simp] Tryz.underlying9
@[simp] theorem agg_10 : isAggV Tryz.prog 10 = some false := by kernel_rfl
@[simp] theorem size_10 : sizeV Tryz.prog 10 = some 1 := by kernel_rfl
@[simp] theorem bytes_10 : bytesV Tryz.prog 10 = some 16 := by kernel_rfl
@[simp] theorem zero_10 : zeroV Tryz.prog 10 = some (.str []) := by kernel_rfl
attribute [simp] Tryz.underlying10
@[simp] theorem agg_11 : isAggV Tryz.prog 11 = some false := by kernel_rfl
@[simp] theorem size_11 : sizeV Tryz.prog 11 = some 1 := by kernel_rfl
@[simp] theorem bytes_11 : bytesV Tryz.prog 11 = some 16 := by kernel_rfl
@[simp] theorem zero_11 : zeroV Tryz.prog 11 = some (.str []) := by kernel_rfl
attribute [simp] Tryz.underlying11
@[simp] theorem agg_12 : isAggV Tryz.prog 12 = some false := by kernel_rfl
@[simp] theorem size_12 : sizeV Tryz.prog 12 = some 1 := by kernel_rfl
@[simp] theorem bytes_12 : bytesV Tryz.prog 12 = some 8 := by kernel_rfl
@[simp] theorem zero_12 : zeroV Tryz.prog 12 = some (.int .u64 0) := by kernel_rfl
attribute [simp] Tryz.underlying12
@[simp] theorem agg_13 : isAggV Tryz.prog 13 = some true := by kernel_rfl
@[simp] theorem size_13 : sizeV Tryz.prog 13 = some 2 := by kernel_rfl
@[simp] theorem bytes_13 : bytesV Tryz.prog 13 = some 24 := by kernel_rfl
@[simp] theorem zero_13 : zeroV Tryz.prog 13 = some (.agg [.str [], .int .u64 0]) := by kernel_rfl
attribute [simp] Tryz.underlying13
@[simp] theorem agg_14 : isAggV Tryz.prog 14 = some true := by kernel_rfl
@[simp] theorem size_14 : sizeV Tryz.prog 14 = some 2 := by kernel_rfl
@[simp] theorem bytes_14 : bytesV Tryz.prog 14 = some 24 := by kernel_rfl
@[simp] theorem zero_14 : zeroV Tryz.prog 14 = some (.agg [.str [], .int .u64 0]) := by kernel_rfl
attribute [simp] Tryz.underlying14
@[simp] theorem agg_15 : isAggV Tryz.prog 15 = some false := by kernel_rfl
@[simp] theorem size_15 : sizeV Tryz.prog 15 = some 1 := by kernel_rfl
@[simp] theorem bytes_15 : bytesV Tryz.prog 15 = some 8 := by kernel_rfl
@[simp] theorem zero_15 : zeroV Tryz.prog 15 = some (.nilptr) := by kernel_rfl
attribute [simp] Tryz.underlying15
@[simp] theorem agg_16 : isAggV Tryz.prog 16 = some false := by kernel_rfl
@[simp] theorem size_16 : sizeV Tryz.prog 16 = some 1 := by kernel_rfl
@[simp] theorem bytes_16 : bytesV Tryz.prog 16 = some 8 := by kernel_rfl
@[simp] theorem zero_16 : zeroV Tryz.prog 16 = some (.nilptr) := by kernel_rfl
attribute [simp] Tryz.underlying16
@[simp] theorem agg_17 : isAggV Tryz.prog 17 = some false := by kernel_rfl
@[simp] theorem size_17 : sizeV Tryz.prog 17 = some 1 := by kernel_rfl
@[simp] theorem bytes_17 : bytesV Tryz.prog 17 = some 8 := by kernel_rfl
@[simp] theorem zero_17 : zeroV Tryz.prog 17 = some (.nilptr) := by kernel_rfl
attribute [simp] Tryz.underlying17
@[simp] theorem agg_18 : isAggV Tryz.prog 18 = some true := by kernel_rfl
@[simp] theorem size_18 : sizeV Tryz.prog 18 = some 1 := by kernel_rfl
@[simp] theorem bytes_18 : bytesV Tryz.prog 18 = some 8 := by kernel_rfl
@[simp] theorem zero_18 : zeroV Tryz.prog 18 = some (.agg [.nilptr]) := by kernel_rfl
attribute [simp] Tryz.underlying18
@[simp] theorem agg_19 : isAggV Tryz.prog 19 = some true := by kernel_rfl
@[simp] theorem size_19 : sizeV Tryz.prog 19 = some 1 := by kernel_rfl
@[simp] theorem bytes_19 : bytesV Tryz.prog 19 = some 8 := by kernel_rfl
@[simp] theorem zero_19 : zeroV Tryz.prog 19 = some (.agg [.nilptr]) := by kernel_rfl
attribute [simp] Tryz.underlying19
@[simp] theorem agg_20 : isAggV Tryz.prog 20 = some false := by kernel_rfl
@[simp] theorem size_20 : sizeV Tryz.prog 20 = some 1 := by kernel_rfl
@[simp] theorem bytes_20 : bytesV Tryz.prog 20 = some 16 := by kernel_rfl
attribute [simp] Tryz.underlying20
@[simp] theorem agg_21 : isAggV Tryz.prog 21 = some false := by kernel_rfl
@[simp] theorem size_21 : sizeV Tryz.prog 21 = some 1 := by kernel_rfl
@[simp] theorem bytes_21 : bytesV Tryz.prog 21 = some 4 := by kernel_rfl
@[simp] theorem zero_21 : zeroV Tryz.prog 21 = some (.int .i32 0) := by kernel_rfl
attribute [simp] Tryz.underlying21
@[simp] theorem agg_22 : isAggV Tryz.prog 22 = some false := by kernel_rfl
@[simp] theorem size_22 : sizeV Tryz.prog 22 = some 1 := by kernel_rfl
@[simp] theorem bytes_22 : bytesV Tryz.prog 22 = some 8 := by kernel_rfl
@[simp] theorem zero_22 : zeroV Tryz.prog 22 = some (.nilptr) := by kernel_rfl
attribute [simp] Tryz.underlying22
@[simp] theorem agg_23 : isAggV Tryz.prog 23 = some false := by kernel_rfl
@[simp] theorem size_23 : sizeV Tryz.prog 23 = some 1 := by kernel_rfl
@[simp] theorem bytes_23 : bytesV Tryz.prog 23 = some 8 := by kernel_rfl
@[simp] theorem zero_23 : zeroV Tryz.prog 23 = some (.int .i64 0) := by kernel_rfl
attribute [simp] Tryz.underlying23
@[simp] theorem agg_24 : isAggV Tryz.prog 24 = some false := by kernel_rfl
@[simp] theorem size_24 : sizeV Tryz.prog 24 = some 1 := by kernel_rfl
@[simp] theorem bytes_24 : bytesV Tryz.prog 24 = some 0 := by kernel_rfl
attribute [simp] Tryz.underlying24
@[simp] theorem agg_25 : isAggV Tryz.prog 25 = some false := by kernel_rfl
@[simp] theorem size_25 : sizeV Tryz.prog 25 = some 1 := by kernel_rfl
@[simp] theorem bytes_25 : bytesV Tryz.prog 25 = some 8 := by kernel_rfl
attribute [simp] Tryz.underlying25
@[simp] theorem agg_26 : isAggV Tryz.prog 26 = some false := by kernel_rfl
@[simp] theorem size_26 : sizeV Tryz.prog 26 = some 1 := by kernel_rfl
@[simp] theorem bytes_26 : bytesV Tryz.prog 26 = some 24 := by kernel_rfl
@[simp] theorem zero_26 : zeroV Tryz.prog 26 = some (.nilslice) := by kernel_rfl
attribute [simp] Tryz.underlying26
@[simp] theorem agg_27 : isAggV Tryz.prog 27 = some false := by kernel_rfl
@[simp] theorem size_27 : sizeV Tryz.prog 27 = some 1 := by kernel_rfl
@[simp] theorem bytes_27 : bytesV Tryz.prog 27 = some 24 := by kernel_rfl
@[simp] theorem zero_27 : zeroV Tryz.prog 27 = some (.nilslice) := by kernel_rfl
attribute [simp] Tryz.underlying27
@[simp] theorem agg_28 : isAggV Tryz.prog 28 = some false := by kernel_rfl
@[simp] theorem size_28 : sizeV Tryz.prog 28 = some 1 := by kernel_rfl
@[simp] theorem bytes_28 : bytesV Tryz.prog 28 = some 24 := by kernel_rfl
@[simp] theorem zero_28 : zeroV Tryz.prog 28 = some (.nilslice) := by kernel_rfl
attribute [simp] Tryz.underlying28
@[simp] theorem agg_29 : isAggV Tryz.prog 29 = some false := by kernel_rfl
@[simp] theorem size_29 : sizeV Tryz.prog 29 = some 1 := by kernel_rfl
@[simp] theorem bytes_29 : bytesV Tryz.prog 29 = some 4 := by kernel_rfl
@[simp] theorem zero_29 : zeroV Tryz.prog 29 = some (.int .u32 0) := by kernel_rfl
attribute [simp] Tryz.underlying29
@[simp] theorem agg_30 : isAggV Tryz.prog 30 = some false := by kernel_rfl
@[simp] theorem size_30 : sizeV Tryz.prog 30 = some 1 := by kernel_rfl
@[simp] theorem bytes_30 : bytesV Tryz.prog 30 = some 24 := by kernel_rfl
@[simp] theorem zero_30 : zeroV Tryz.prog 30 = some (.nilslice) := by kernel_rfl
attribute [simp] Tryz.underlying30
@[simp] theorem agg_31 : isAggV Tryz.prog 31 = some true := by kernel_rfl
@[simp] theorem size_31 : sizeV Tryz.prog 31 = some 6 := by kernel_rfl
@[simp] theorem bytes_31 : bytesV Tryz.prog 31 = some 104 := by kernel_rfl
@[simp] theorem zero_31 : zeroV Tryz.prog 31 = some (.agg [.nilslice, .nilslice, .nilslice, .int .u32 0, .int .u32 0, .nilslice]) := by kernel_rfl
attribute [simp] Tryz.underlying31
@[simp] theorem agg_32 : isAggV Tryz.prog 32 = some true := by kernel_rfl
@[simp] theorem size_32 : sizeV Tryz.prog 32 = some 6 := by kernel_rfl
@[simp] theorem bytes_32 : bytesV Tryz.prog 32 = some 104 := by kernel_rfl
@[simp] theorem zero_32 : zeroV Tryz.prog 32 = some (.agg [.nilslice, .nilslice, .nilslice, .int .u32 0, .int .u32 0, .nilslice]) := by kernel_rfl
attribute [simp] Tryz.underlying32
@[simp] theorem agg_33 : isAggV Tryz.prog 33 = some false := by kernel_rfl
@[simp] theorem size_33 : sizeV Tryz.prog 33 = some 1 := by kernel_rfl
@[simp] theorem bytes_33 : bytesV Tryz.prog 33 = some 8 := by kernel_rfl
attribute [simp] Tryz.underlying33
@[simp] theorem agg_34 : isAggV Tryz.prog 34 = some false := by kernel_rfl
@[simp] theorem size_34 : sizeV Tryz.prog 34 = some 1 := by kernel_rfl
@[simp] theorem bytes_34 : bytesV Tryz.prog 34 = some 8 := by kernel_rfl
attribute [simp] Tryz.underlying34
@[simp] theorem agg_35 : isAggV Tryz.prog 35 = some false := by kernel_rfl
@[simp] theorem size_35 : sizeV Tryz.prog 35 = some 1 := by kernel_rfl
@[simp] theorem bytes_35 : bytesV Tryz.prog 35 = some 8 := by kernel_rfl
attribute [simp] Tryz.underlying35
@[simp] theorem agg_36 : isAggV Tryz.prog 36 = some false := by kernel_rfl
@[simp] theorem size_36 : sizeV Tryz.prog 36 = some 1 := by kernel_rfl
@[simp] theorem bytes_36 : bytesV Tryz.prog 36 = some 24 := by kernel_rfl
@[simp] theorem zero_36 : zeroV Tryz.prog 36 = some (.nilslice) := by kernel_rfl
attribute [simp] Tryz.underlying36
@[simp] theorem agg_37 : isAggV Tryz.prog 37 = some false := by kernel_rfl
@[simp] theorem size_37 : sizeV Tryz.prog 37 = some 1 := by kernel_rfl
@[simp] theorem bytes_37 : bytesV Tryz.prog 37 = some 8 := by kernel_rfl
attribute [simp] Tryz.underlying37
@[simp] theorem agg_38 : isAggV Tryz.prog 38 = some true := by kernel_rfl
@[simp] theorem size_38 : sizeV Tryz.prog 38 = some 4 := by kernel_rfl
@[simp] theorem bytes_38 : bytesV Tryz.prog 38 = some 24 := by kernel_rfl
@[simp] theorem zero_38 : zeroV Tryz.prog 38 = some (.agg [.int .u32 0, .int .u32 0, .int .u32 0, .int .i64 0]) := by kernel_rfl
attribute [simp] Tryz.underlying38
@[simp] theorem agg_39 : isAggV Tryz.prog 39 = some true := by kernel_rfl
@[simp] theorem size_39 : sizeV Tryz.prog 39 = some 4 := by kernel_rfl
@[simp] theorem bytes_39 : bytesV Tryz.prog 39 = some 24 := by kernel_rfl
@[simp] theorem zero_39 : zeroV Tryz.prog 39 = some (.agg [.int .u32 0, .int .u32 0, .int .u32 0, .int .i64 0]) := by kernel_rfl
attribute [simp] Tryz.underlying39
@[simp] theorem agg_40 : isAggV Tryz.prog 40 = some false := by kernel_rfl
@[simp] theorem size_40 : sizeV Tryz.prog 40 = some 1 := by kernel_rfl
@[simp] theorem bytes_40 : bytesV Tryz.prog 40 = some 0 := by kernel_rfl
attribute [simp] Tryz.underlying40
@[simp] theorem agg_41 : isAggV Tryz.prog 41 = some false := by kernel_rfl
@[simp] theorem size_41 : sizeV Tryz.prog 41 = some 1 := by kernel_rfl
@[simp] theorem bytes_41 : bytesV Tryz.prog 41 = some 8 := by kernel_rfl
attribute [simp] Tryz.underlying41
@[simp] theorem agg_42 : isAggV Tryz.prog 42 = some false := by kernel_rfl
@[simp] theorem size_42 : sizeV Tryz.prog 42 = some 1 := by kernel_rfl
@[simp] theorem bytes_42 : bytesV Tryz.prog 42 = some 8 := by kernel_rfl
attribute [simp] Tryz.underlying42
@[simp] theorem agg_43 : isAggV Tryz.prog 43 = some false := by kernel_rfl
@[simp] theorem size_43 : sizeV Tryz.prog 43 = some 1 := by kernel_rfl
@[simp] theorem bytes_43 : bytesV Tryz.prog 43 = some 8 := by kernel_rfl
attribute [simp] Tryz.underlying43
@[simp] theorem agg_44 : isAggV Tryz.prog 44 = some false := by kernel_rfl
@[simp] theorem size_44 : sizeV Tryz.prog 44 = some 1 := by kernel_rfl
@[simp] theorem bytes_44 : bytesV Tryz.prog 44 = some 1 := by kernel_rfl
@[simp] theorem zero_44 : zeroV Tryz.prog 44 = some (.int .u8 0) := by kernel_rfl
attribute [simp] Tryz.underlying44
@[simp] theorem agg_45 : isAggV Tryz.prog 45 = some true := by kernel_rfl
@[simp] theorem size_45 : sizeV Tryz.prog 45 = some 2 := by kernel_rfl
@[simp] theorem bytes_45 : bytesV Tryz.prog 45 = some 8 := by kernel_rfl
@[simp] theorem zero_45 : zeroV Tryz.prog 45 = some (.agg [.int .u8 0, .int .u32 0]) := by kernel_rfl
attribute [simp] Tryz.underlying45
@[simp] theorem agg_46 : isAggV Tryz.prog 46 = some true := by kernel_rfl
@[simp] theorem size_46 : sizeV Tryz.prog 46 = some 2 := by kernel_rfl
@[simp] theorem bytes_46 : bytesV Tryz.prog 46 = some 8 := by kernel_rfl
@[simp] theorem zero_46 : zeroV Tryz.prog 46 = some (.agg [.int .u8 0, .int .u32 0]) := by kernel_rfl
attribute [simp] Tryz.underlying46
@[simp] theorem agg_47 : isAggV Tryz.prog 47 = some true := by kernel_rfl
@[simp] theorem size_47 : sizeV Tryz.prog 47 = some 2 := by kernel_rfl
@[simp] theorem bytes_47 : bytesV Tryz.prog 47 = some 24 := by kernel_rfl
@[simp] theorem zero_47 : zeroV Tryz.prog 47 = some (.agg [.str [], .int .u32 0]) := by kernel_rfl
attribute [simp] Tryz.underlying47
@[simp] theorem agg_48 : isAggV Tryz.prog 48 = some true := by kernel_rfl
@[simp] theorem size_48 : sizeV Tryz.prog 48 = some 2 := by kernel_rfl
@[simp] theorem bytes_48 : bytesV Tryz.prog 48 = some 24 := by kernel_rfl
@[simp] theorem zero_48 : zeroV Tryz.prog 48 = some (.agg [.str [], .int .u32 0]) := by kernel_rfl
attribute [simp] Tryz.underlying48
@[simp] theorem agg_49 : isAggV Tryz.prog 49 = some false := by kernel_rfl
@[simp] theorem size_49 : sizeV Tryz.prog 49 = some 1 := by kernel_rfl
@[simp] theorem bytes_49 : bytesV Tryz.prog 49 = some 8 := by kernel_rfl
attribute [simp] Tryz.underlying49
@[simp] theorem agg_50 : isAggV Tryz.prog 50 = some false := by kernel_rfl
@[simp] theorem size_50 : sizeV Tryz.prog 50 = some 1 := by kernel_rfl
@[simp] theorem bytes_50 : bytesV Tryz.prog 50 = some 8 := by kernel_rfl
attribute [simp] Tryz.underlying50
@[simp] theorem agg_51 : isAggV Tryz.prog 51 = some false := by kernel_rfl
@[simp] theorem size_51 : sizeV Tryz.prog 51 = some 1 := by kernel_rfl
@[simp] theorem bytes_51 : bytesV Tryz.prog 51 = some 8 := by kernel_rfl
@[simp] theorem zero_51 : zeroV Tryz.prog 51 = some (.nilptr) := by kernel_rfl
attribute [simp] Tryz.underlying51
@[simp] theorem agg_52 : isAggV Tryz.prog 52 = some true := by kernel_rfl
@[simp] theorem size_52 : sizeV Tryz.prog 52 = some 1 := by kernel_rfl
@[simp] theorem bytes_52 : bytesV Tryz.prog 52 = some 8 := by kernel_rfl
@[simp] theorem zero_52 : zeroV Tryz.prog 52 = some (.agg [.nilptr]) := by kernel_rfl
attribute [simp] Tryz.underlying52
@[simp] theorem agg_53 : isAggV Tryz.prog 53 = some true := by kernel_rfl
@[simp] theorem size_53 : sizeV Tryz.prog 53 = some 1 := by kernel_rfl
@[simp] theorem bytes_53 : bytesV Tryz.prog 53 = some 8 := by kernel_rfl
@[simp] theorem zero_53 : zeroV Tryz.prog 53 = some (.agg [.nilptr]) := by kernel_rfl
attribute [simp] Tryz.underlying53
@[simp] theorem agg_54 : isAggV Tryz.prog 54 = some false := by kernel_rfl
@[simp] theorem size_54 : sizeV Tryz.prog 54 = some 1 := by kernel_rfl
@[simp] theorem bytes_54 : bytesV Tryz.prog 54 = some 8 := by kernel_rfl
attribute [simp] Tryz.underlying54
@[simp] theorem agg_55 : isAggV Tryz.prog 55 = some false := by kernel_rfl
@[simp] theorem size_55 : sizeV Tryz.prog 55 = some 1 := by kernel_rfl
@[simp] theorem bytes_55 : bytesV Tryz.prog 55 = some 8 := by kernel_rfl
attribute [simp] Tryz.underlying55
@[simp] theorem agg_56 : isAggV Tryz.prog 56 = some false := by kernel_rfl
@[simp] theorem size_56 : sizeV Tryz.prog 56 = some 1 := by kernel_rfl
@[simp] theorem bytes_56 : bytesV Tryz.prog 56 = some 8 := by kernel_rfl
@[simp] theorem zero_56 : zeroV Tryz.prog 56 = some (.nilptr) := by kernel_rfl
attribute [simp] Tryz.underlying56
@[simp] theorem agg_57 : isAggV Tryz.prog 57 = some false := by kernel_rfl
@[simp] theorem size_57 : sizeV Tryz.prog 57 = some 1 := by kernel_rfl
@[simp] theorem bytes_57 : bytesV Tryz.prog 57 = some 0 := by kernel_rfl
attribute [simp] Tryz.underlying57
@[simp] theorem agg_58 : isAggV Tryz.prog 58 = some false := by kernel_rfl
@[simp] theorem size_58 : sizeV Tryz.prog 58 = some 1 := by kernel_rfl
@[simp] theorem bytes_58 : bytesV Tryz.prog 58 = some 8 := by kernel_rfl
attribute [simp] Tryz.underlying58
@[simp] theorem agg_59 : isAggV Tryz.prog 59 = some false := by kernel_rfl
@[simp] theorem size_59 : sizeV Tryz.prog 59 = some 1 := by kernel_rfl
@[simp] theorem bytes_59 : bytesV Tryz.prog 59 = some 24 := by kernel_rfl
@[simp] theorem zero_59 : zeroV Tryz.prog 59 = some (.nilslice) := by kernel_rfl
attribute [simp] Tryz.underlying59
@[simp] theorem agg_60 : isAggV Tryz.prog 60 = some false := by kernel_rfl
@[simp] theorem size_60 : sizeV Tryz.prog 60 = some 1 := by kernel_rfl
@[simp] theorem bytes_60 : bytesV Tryz.prog 60 = some 0 := by kernel_rfl
attribute [simp] Tryz.underlying60
@[simp] theorem agg_61 : isAggV Tryz.prog 61 = some false := by kernel_rfl
@[simp] theorem size_61 : sizeV Tryz.prog 61 = some 1 := by kernel_rfl
@[simp] theorem bytes_61 : bytesV Tryz.prog 61 = some 8 := by kernel_rfl
attribute [simp] Tryz.underlying61
@[simp] theorem agg_62 : isAggV Tryz.prog 62 = some true := by kernel_rfl
@[simp] theorem size_62 : sizeV Tryz.prog 62 = some 2 := by kernel_rfl
@[simp] theorem bytes_62 : bytesV Tryz.prog 62 = some 32 := by kernel_rfl
@[simp] theorem zero_62 : zeroV Tryz.prog 62 = some (.agg [.nilptr, .nilslice]) := by kernel_rfl
attribute [simp] Tryz.underlying62
@[simp] theorem agg_63 : isAggV Tryz.prog 63 = some true := by kernel_rfl
@[simp] theorem size_63 : sizeV Tryz.prog 63 = some 2 := by kernel_rfl
@[simp] theorem bytes_63 : bytesV Tryz.prog 63 = some 32 := by kernel_rfl
@[simp] theorem zero_63 : zeroV Tryz.prog 63 = some (.agg [.nilptr, .nilslice]) := by kernel_rfl
attribute [simp] Tryz.underlying63
@[simp] theorem agg_64 : isAggV Tryz.prog 64 = some true := by kernel_rfl
@[simp] theorem size_64 : sizeV Tryz.prog 64 = some 2 := by kernel_rfl
@[simp] theorem bytes_64 : bytesV Tryz.prog 64 = some 48 := by kernel_rfl
@[simp] theorem zero_64 : zeroV Tryz.prog 64 = some (.agg [.nilslice, .nilslice]) := by kernel_rfl
attribute [simp] Tryz.underlying64
@[simp] theorem agg_65 : isAggV Tryz.prog 65 = some true := by kernel_rfl
@[simp] theorem size_65 : sizeV Tryz.prog 65 = some 2 := by kernel_rfl
@[simp] theorem bytes_65 : bytesV Tryz.prog 65 = some 48 := by kernel_rfl
@[simp] theorem zero_65 : zeroV Tryz.prog 65 = some (.agg [.nilslice, .nilslice]) := by kernel_rfl
attribute [simp] Tryz.underlying65
@[simp] theorem agg_66 : isAggV Tryz.prog 66 = some false := by kernel_rfl
@[simp] theorem size_66 : sizeV Tryz.prog 66 = some 1 := by kernel_rfl
@[simp] theorem bytes_66 : bytesV Tryz.prog 66 = some 8 := by kernel_rfl
@[simp] theorem zero_66 : zeroV Tryz.prog 66 = some (.int .u64 0) := by kernel_rfl
attribute [simp] Tryz.underlying66
@[simp] theorem agg_67 : isAggV Tryz.prog 67 = some true := by kernel_rfl
@[simp] theorem size_67 : sizeV Tryz.prog 67 = some 12 := by kernel_rfl
@[simp] theorem bytes_67 : bytesV Tryz.prog 67 = some 200 := by kernel_rfl
attribute [simp] Tryz.underlying67
@[simp] theorem agg_68 : isAggV Tryz.prog 68 = some true := by kernel_rfl
@[simp] theorem size_68 : sizeV Tryz.prog 68 = some 12 := by kernel_rfl
@[simp] theorem bytes_68 : bytesV Tryz.prog 68 = some 200 := by kernel_rfl
attribute [simp] Tryz.underlying68
@[simp] theorem agg_69 : isAggV Tryz.prog 69 = some false := by kernel_rfl
@[simp] theorem size_69 : sizeV Tryz.prog 69 = some 1 := by kernel_rfl
@[simp] theorem bytes_69 : bytesV Tryz.prog 69 = some 0 := by kernel_rfl
attribute [simp] Tryz.underlying69
@[simp] theorem agg_70 : isAggV Tryz.prog 70 = some false := by kernel_rfl
@[simp] theorem size_70 : sizeV Tryz.prog 70 = some 1 := by kernel_rfl
@[simp] theorem bytes_70 : bytesV Tryz.prog 70 = some 8 := by kernel_rfl
attribute [simp] Tryz.underlying70
@[simp] theorem agg_71 : isAggV Tryz.prog 71 = some false := by kernel_rfl
@[simp] theorem size_71 : sizeV Tryz.prog 71 = some 1 := by kernel_rfl
@[simp] theorem bytes_71 : bytesV Tryz.prog 71 = some 0 := by kernel_rfl
attribute [simp] Tryz.underlying71
@[simp] theorem agg_72 : isAggV Tryz.prog 72 = some false := by kernel_rfl
@[simp] theorem size_72 : sizeV Tryz.prog 72 = some 1 := by kernel_rfl
@[simp] theorem bytes_72 : bytesV Tryz.prog 72 = some 8 := by kernel_rfl
attribute [simp] Tryz.underlying72
@[simp] theorem agg_73 : isAggV Tryz.prog 73 = some false := by kernel_rfl
@[simp] theorem size_73 : sizeV Tryz.prog 73 = some 1 := by kernel_rfl
@[simp] theorem bytes_73 : bytesV Tryz.prog 73 = some 8 := by kernel_rfl
attribute [simp] Tryz.underlying73
@[simp] theorem agg_74 : isAggV Tryz.prog 74 = some false := by kernel_rfl
@[simp] theorem size_74 : sizeV Tryz.prog 74 = some 1 := by kernel_rfl
@[simp] theorem bytes_74 : bytesV Tryz.prog 74 = some 8 := by kernel_rfl
@[simp] theorem zero_74 : zeroV Tryz.prog 74 = some (.int .u64 0) := by kernel_rfl
attribute [simp] Tryz.underlying74
@[simp] theorem agg_75 : isAggV Tryz.prog 75 = some false := by kernel_rfl
@[simp] theorem size_75 : sizeV Tryz.prog 75 = some 1 := by kernel_rfl
@[simp] theorem bytes_75 : bytesV Tryz.prog 75 = some 8 := by kernel_rfl
attribute [simp] Tryz.underlying75
@[simp] theorem agg_76 : isAggV Tryz.prog 76 = some false := by kernel_rfl
@[simp] theorem size_76 : sizeV Tryz.prog 76 = some 1 := by kernel_rfl
@[simp] theorem bytes_76 : bytesV Tryz.prog 76 = some 0 := by kernel_rfl
attribute [simp] Tryz.underlying76
@[simp] theorem agg_77 : isAggV Tryz.prog 77 = some false := by kernel_rfl
@[simp] theorem size_77 : sizeV Tryz.prog 77 = some 1 := by kernel_rfl
@[simp] theorem bytes_77 : bytesV Tryz.prog 77 = some 8 := by kernel_rfl
attribute [simp] Tryz.underlying77
@[simp] theorem agg_78 : isAggV Tryz.prog 78 = some false := by kernel_rfl
@[simp] theorem size_78 : sizeV Tryz.prog 78 = some 1 := by kernel_rfl
@[simp] theorem bytes_78 : bytesV Tryz.prog 78 = some 0 := by kernel_rfl
attribute [simp] Tryz.underlying78
@[simp] theorem agg_79 : isAggV Tryz.prog 79 = some false := by kernel_rfl
@[simp] theorem size_79 : sizeV Tryz.prog 79 = some 1 := by kernel_rfl
@[simp] theorem bytes_79 : bytesV Tryz.prog 79 = some 8 := by kernel_rfl
attribute [simp] Tryz.underlying79
@[simp] theorem agg_80 : isAggV Tryz.prog 80 = some false := by kernel_rfl
@[simp] theorem size_80 : sizeV Tryz.prog 80 = some 1 := by kernel_rfl
@[simp] theorem bytes_80 : bytesV Tryz.prog 80 = some 0 := by kernel_rfl
attribute [simp] Tryz.underlying80
@[simp] theorem agg_81 : isAggV Tryz.prog 81 = some false := by kernel_rfl
@[simp] theorem size_81 : sizeV Tryz.prog 81 = some 1 := by kernel_rfl
@[simp] theorem bytes_81 : bytesV Tryz.prog 81 = some 8 := by kernel_rfl
attribute [simp] Tryz.underlying81
@[simp] theorem agg_82 : isAggV Tryz.prog 82 = some false := by kernel_rfl
@[simp] theorem size_82 : sizeV Tryz.prog 82 = some 1 := by kernel_rfl
@[simp] theorem bytes_82 : bytesV Tryz.prog 82 = some 8 := by kernel_rfl
attribute [simp] Tryz.underlying82
@[simp] theorem agg_83 : isAggV Tryz.prog 83 = some false := by kernel_rfl
@[simp] theorem size_83 : sizeV Tryz.prog 83 = some 1 := by kernel_rfl
@[simp] theorem bytes_83 : bytesV Tryz.prog 83 = some 8 := by kernel_rfl
attribute [simp] Tryz.underlying83
@[simp] theorem agg_84 : isAggV Tryz.prog 84 = some false := by kernel_rfl
@[simp] theorem size_84 : sizeV Tryz.prog 84 = some 1 := by kernel_rfl
@[simp] theorem bytes_84 : bytesV Tryz.prog 84 = some 8 := by kernel_rfl
attribute [simp] Tryz.underlying84
@[simp] theorem agg_85 : isAggV Tryz.prog 85 = some false := by kernel_rfl
@[simp] theorem size_85 : sizeV Tryz.prog 85 = some 1 := by kernel_rfl
@[simp] theorem bytes_85 : bytesV Tryz.prog 85 = some 8 := by kernel_rfl
attribute [simp] Tryz.underlying85
@[simp] theorem agg_86 : isAggV Tryz.prog 86 = some false := by kernel_rfl
@[simp] theorem size_86 : sizeV Tryz.prog 86 = some 1 := by kernel_rfl
@[simp] theorem bytes_86 : bytesV Tryz.prog 86 = some 8 := by kernel_rfl
attribute [simp] Tryz.underlying86
@[simp] theorem agg_87 : isAggV Tryz.prog 87 = some false := by kernel_rfl
@[simp] theorem size_87 : sizeV Tryz.prog 87 = some 1 := by kernel_rfl
@[simp] theorem bytes_87 : bytesV Tryz.prog 87 = some 8 := by kernel_rfl
attribute [simp] Tryz.underlying87
@[simp] theorem agg_88 : isAggV Tryz.prog 88 = some false := by kernel_rfl
@[simp] theorem size_88 : sizeV Tryz.prog 88 = some 1 := by kernel_rfl
@[simp] theorem bytes_88 : bytesV Tryz.prog 88 = some 8 := by kernel_rfl
attribute [simp] Tryz.underlying88
@[simp] theorem agg_89 : isAggV Tryz.prog 89 = some false := by kernel_rfl
@[simp] theorem size_89 : sizeV Tryz.prog 89 = some 1 := by kernel_rfl
@[simp] theorem bytes_89 : bytesV Tryz.prog 89 = some 8 := by kernel_rfl
attribute [simp] Tryz.underlying89
@[simp] theorem agg_90 : isAggV Tryz.prog 90 = some false := by kernel_rfl
@[simp] theorem size_90 : sizeV Tryz.prog 90 = some 1 := by kernel_rfl
@[simp] theorem bytes_90 : bytesV Tryz.prog 90 = some 8 := by kernel_rfl
attribute [simp] Tryz.underlying90
@[simp] theorem agg_91 : isAggV Tryz.prog 91 = some false := by kernel_rfl
@[simp] theorem size_91 : sizeV Tryz.prog 91 = some 1 := by kernel_rfl
@[simp] theorem bytes_91 : bytesV Tryz.prog 91 = some 0 := by kernel_rfl
attribute [simp] Tryz.underlying91
@[simp] theorem agg_92 : isAggV Tryz.prog 92 = some false := by kernel_rfl
@[simp] theorem size_92 : sizeV Tryz.prog 92 = some 1 := by kernel_rfl
@[simp] theorem bytes_92 : bytesV Tryz.prog 92 = some 8 := by kernel_rfl
attribute [simp] Tryz.underlying92
@[simp] theorem agg_93 : isAggV Tryz.prog 93 = some false := by kernel_rfl
@[simp] theorem size_93 : sizeV Tryz.prog 93 = some 1 := by kernel_rfl
@[simp] theorem bytes_93 : bytesV Tryz.prog 93 = some 8 := by kernel_rfl
attribute [simp] Tryz.underlying93
@[simp] theorem agg_94 : isAggV Tryz.prog 94 = some false := by kernel_rfl
@[simp] theorem size_94 : sizeV Tryz.prog 94 = some 1 := by kernel_rfl
@[simp] theorem bytes_94 : bytesV Tryz.prog 94 = some 8 := by kernel_rfl
attribute [simp] Tryz.underlying94
@[simp] theorem agg_95 : isAggV Tryz.prog 95 = some false := by kernel_rfl
@[simp] theorem size_95 : sizeV Tryz.prog 95 = some 1 := by kernel_rfl
@[simp] theorem bytes_95 : bytesV Tryz.prog 95 = some 24 := by kernel_rfl
@[simp] theorem zero_95 : zeroV Tryz.prog 95 = some (.nilslice) := by kernel_rfl
attribute [simp] Tryz.underlying95
@[simp] theorem agg_96 : isAggV Tryz.prog 96 = some true := by kernel_rfl
@[simp] theorem size_96 : sizeV Tryz.prog 96 = some 3 := by kernel_rfl
@[simp] theorem bytes_96 : bytesV Tryz.prog 96 = some 72 := by kernel_rfl
@[simp] theorem zero_96 : zeroV Tryz.prog 96 = some (.agg [.nilslice, .nilslice, .nilslice]) := by kernel_rfl
attribute [simp] Tryz.underlying96
@[simp] theorem agg_97 : isAggV Tryz.prog 97 = some true := by kernel_rfl
@[simp] theorem size_97 : sizeV Tryz.prog 97 = some 3 := by kernel_rfl
@[simp] theorem bytes_97 : bytesV Tryz.prog 97 = some 72 := by kernel_rfl
@[simp] theorem zero_97 : zeroV Tryz.prog 97 = some (.agg [.nilslice, .nilslice, .nilslice]) := by kernel_rfl
attribute [simp] Tryz.underlying97
@[simp] theorem agg_98 : isAggV Tryz.prog 98 = some false := by kernel_rfl
@[simp] theorem size_98 : sizeV Tryz.prog 98 = some 1 := by kernel_rfl
@[simp] theorem bytes_98 : bytesV Tryz.prog 98 = some 8 := by kernel_rfl
attribute [simp] Tryz.underlying98
@[simp] theorem agg_99 : isAggV Tryz.prog 99 = some false := by kernel_rfl
@[simp] theorem size_99 : sizeV Tryz.prog 99 = some 1 := by kernel_rfl
@[simp] theorem bytes_99 : bytesV Tryz.prog 99 = some 8 := by kernel_rfl
@[simp] theorem zero_99 : zeroV Tryz.prog 99 = some (.nilptr) := by kernel_rfl
attribute [simp] Tryz.underlying99
@[simp] theorem agg_100 : isAggV Tryz.prog 100 = some false := by kernel_rfl
@[simp] theorem size_100 : sizeV Tryz.prog 100 = some 1 := by kernel_rfl
@[simp] theorem bytes_100 : bytesV Tryz.prog 100 = some 0 := by kernel_rfl
attribute [simp] Tryz.underlying100
@[simp] theorem agg_101 : isAggV Tryz.prog 101 = some false := by kernel_rfl
@[simp] theorem size_101 : sizeV Tryz.prog 101 = some 1 := by kernel_rfl
@[simp] theorem bytes_101 : bytesV Tryz.prog 101 = some 8 := by kernel_rfl
attribute [simp] Tryz.underlying101
@[simp] theorem agg_102 : isAggV Tryz.prog 102 = some false := by kernel_rfl
@[simp] theorem size_102 : sizeV Tryz.prog 102 = some 1 := by kernel_rfl
@[simp] theorem bytes_102 : bytesV Tryz.prog 102 = some 8 := by kernel_rfl
attribute [simp] Tryz.underlying102
@[simp] theorem agg_103 : isAggV Tryz.prog 103 = some false := by kernel_rfl
@[simp] theorem size_103 : sizeV Tryz.prog 103 = some 1 := by kernel_rfl
@[simp] theorem bytes_103 : bytesV Tryz.prog 103 = some 8 := by kernel_rfl
attribute [simp] Tryz.underlying103
@[simp] theorem agg_104 : isAggV Tryz.prog 104 = some false := by kernel_rfl
@[simp] theorem size_104 : sizeV Tryz.prog 104 = some 1 := by kernel_rfl
@[simp] theorem bytes_104 : bytesV Tryz.prog 104 = some 8 := by kernel_rfl
attribute [simp] Tryz.underlying104
@[simp] theorem agg_105 : isAggV Tryz.prog 105 = some false := by kernel_rfl
@[simp] theorem size_105 : sizeV Tryz.prog 105 = some 1 := by kernel_rfl
@[simp] theorem bytes_105 : bytesV Tryz.prog 105 = some 8 := by kernel_rfl
attribute [simp] Tryz.underlying105
@[simp] theorem agg_106 : isAggV Tryz.prog 106 = some false := by kernel_rfl
@[simp] theorem size_106 : sizeV Tryz.prog 106 = some 1 := by kernel_rfl
@[simp] theorem bytes_106 : bytesV Tryz.prog 106 = some 24 := by kernel_rfl
@[simp] theorem zero_106 : zeroV Tryz.prog 106 = some (.nilslice) := by kernel_rfl
attribute [simp] Tryz.underlying106
@[simp] theorem agg_107 : isAggV Tryz.prog 107 = some false := by kernel_rfl
@[simp] theorem size_107 : sizeV Tryz.prog 107 = some 1 := by kernel_rfl
@[simp] theorem bytes_107 : bytesV Tryz.prog 107 = some 24 := by kernel_rfl
@[simp] theorem zero_107 : zeroV Tryz.prog 107 = some (.nilslice) := by kernel_rfl
attribute [simp] Tryz.underlying107
@[simp] theorem agg_108 : isAggV Tryz.prog 108 = some false := by kernel_rfl
@[simp] theorem size_108 : sizeV Tryz.prog 108 = some 1 := by kernel_rfl
@[simp] theorem bytes_108 : bytesV Tryz.prog 108 = some 0 := by kernel_rfl
attribute [simp] Tryz.underlying108
@[simp] theorem agg_109 : isAggV Tryz.prog 109 = some false := by kernel_rfl
@[simp] theorem size_109 : sizeV Tryz.prog 109 = some 1 := by kernel_rfl
@[simp] theorem bytes_109 : bytesV Tryz.prog 109 = some 8 := by kernel_rfl
attribute [simp] Tryz.underlying109
@[simp] theorem agg_110 : isAggV Tryz.prog 110 = some true := by kernel_rfl
@[simp] theorem size_110 : sizeV Tryz.prog 110 = some 2 := by kernel_rfl
@[simp] theorem bytes_110 : bytesV Tryz.prog 110 = some 8 := by kernel_rfl
@[simp] theorem zero_110 : zeroV Tryz.prog 110 = some (.agg [.int .u32 0, .int .u32 0]) := by kernel_rfl
attribute [simp] Tryz.underlying110
@[simp] theorem agg_111 : isAggV Tryz.prog 111 = some true := by kernel_rfl
@[simp] theorem size_111 : sizeV Tryz.prog 111 = some 2 := by kernel_rfl
@[simp] theorem bytes_111 : bytesV Tryz.prog 111 = some 8 := by kernel_rfl
@[simp] theorem zero_111 : zeroV Tryz.prog 111 = some (.agg [.int .u32 0, .int .u32 0]) := by kernel_rfl
attribute [simp] Tryz.underlying111
@[simp] theorem agg_112 : isAggV Tryz.prog 112 = some false := by kernel_rfl
@[simp] theorem size_112 : sizeV Tryz.prog 112 = some 1 := by kernel_rfl
@[simp] theorem bytes_112 : bytesV Tryz.prog 112 = some 8 := by kernel_rfl
attribute [simp] Tryz.underlying112
@[simp] theorem agg_113 : isAggV Tryz.prog 113 = some false := by kernel_rfl
@[simp] theorem size_113 : sizeV Tryz.prog 113 = some 1 := by kernel_rfl
@[simp] theorem bytes_113 : bytesV Tryz.prog 113 = some 8 := by kernel_rfl
attribute [simp] Tryz.underlying113
@[simp] theorem agg_114 : isAggV Tryz.prog 114 = some false := by kernel_rfl
@[simp] theorem size_114 : sizeV Tryz.prog 114 = some 1 := by kernel_rfl
@[simp] theorem bytes_114 : bytesV Tryz.prog 114 = some 8 := by kernel_rfl
attribute [simp] Tryz.underlying114
@[simp] theorem agg_115 : isAggV Tryz.prog 115 = some false := by kernel_rfl
@[simp] theorem size_115 : sizeV Tryz.prog 115 = some 1 := by kernel_rfl
@[simp] theorem bytes_115 : bytesV Tryz.prog 115 = some 8 := by kernel_rfl
attribute [simp] Tryz.underlying115
@[simp] theorem agg_116 : isAggV Tryz.prog 116 = some false := by kernel_rfl
@[simp] theorem size_116 : sizeV Tryz.prog 116 = some 1 := by kernel_rfl
@[simp] theorem bytes_116 : bytesV Tryz.prog 116 = some 8 := by kernel_rfl
attribute [simp] Tryz.underlying116
@[simp] theorem agg_117 : isAggV Tryz.prog 117 = some false := by kernel_rfl
@[simp] theorem size_117 : sizeV Tryz.prog 117 = some 1 := by kernel_rfl
@[simp] theorem bytes_117 : bytesV Tryz.prog 117 = some 0 := by kernel_rfl
attribute [simp] Tryz.underlying117
@[simp] theorem agg_118 : isAggV Tryz.prog 118 = some false := by kernel_rfl
@[simp] theorem size_118 : sizeV Tryz.prog 118 = some 1 := by kernel_rfl
@[simp] theorem bytes_118 : bytesV Tryz.prog 118 = some 8 := by kernel_rfl
attribute [simp] Tryz.underlying118
@[simp] theorem agg_119 : isAggV Tryz.prog 119 = some false := by kernel_rfl
@[simp] theorem size_119 : sizeV Tryz.prog 119 = some 1 := by kernel_rfl
@[simp] theorem bytes_119 : bytesV Tryz.prog 119 = some 8 := by kernel_rfl
attribute [simp] Tryz.underlying119
@[simp] theorem agg_120 : isAggV Tryz.prog 120 = some false := by kernel_rfl
@[simp] theorem size_120 : sizeV Tryz.prog 120 = some 1 := by kernel_rfl
@[simp] theorem bytes_120 : bytesV Tryz.prog 120 = some 0 := by kernel_rfl
attribute [simp] Tryz.underlying120
@[simp] theorem agg_121 : isAggV Tryz.prog 121 = some false := by kernel_rfl
@[simp] theorem size_121 : sizeV Tryz.prog 121 = some 1 := by kernel_rfl
@[simp] theorem bytes_121 : bytesV Tryz.prog 121 = some 8 := by kernel_rfl
attribute [simp] Tryz.underlying121
@[simp] theorem agg_122 : isAggV Tryz.prog 122 = some true := by kernel_rfl
@[simp] theorem size_122 : sizeV Tryz.prog 122 = some 4 := by kernel_rfl
@[simp] theorem bytes_122 : bytesV Tryz.prog 122 = some 32 := by kernel_rfl
@[simp] theorem zero_122 : zeroV Tryz.prog 122 = some (.agg [.int .i64 0, .int .i64 0, .int .i64 0, .int .i64 0]) := by kernel_rfl
attribute [simp] Tryz.underlying122
@[simp] theorem agg_123 : isAggV Tryz.prog 123 = some false := by kernel_rfl
@[simp] theorem size_123 : sizeV Tryz.prog 123 = some 1 := by kernel_rfl
@[simp] theorem bytes_123 : bytesV Tryz.prog 123 = some 8 := by kernel_rfl
attribute [simp] Tryz.underlying123
@[simp] theorem agg_124 : isAggV Tryz.prog 124 = some false := by kernel_rfl
@[simp] theorem size_124 : sizeV Tryz.prog 124 = some 1 := by kernel_rfl
@[simp] theorem bytes_124 : bytesV Tryz.prog 124 = some 0 := by kernel_rfl
attribute [simp] Tryz.underlying124
@[simp] theorem agg_125 : isAggV Tryz.prog 125 = some false := by kernel_rfl
@[simp] theorem size_125 : sizeV Tryz.prog 125 = some 1 := by kernel_rfl
@[simp] theorem bytes_125 : bytesV Tryz.prog 125 = some 8 := by kernel_rfl
attribute [simp] Tryz.underlying125
@[simp] theorem agg_126 : isAggV Tryz.prog 126 = some false := by kernel_rfl
@[simp] theorem size_126 : sizeV Tryz.prog 126 = some 1 := by kernel_rfl
@[simp] theorem bytes_126 : bytesV Tryz.prog 126 = some 1 := by kernel_rfl
@[simp] theorem zero_126 : zeroV Tryz.prog 126 = some (.int .u8 0) := by kernel_rfl
attribute [simp] Tryz.underlying126
@[simp] theorem agg_127 : isAggV Tryz.prog 127 = some true := by kernel_rfl
@[simp] theorem size_127 : sizeV Tryz.prog 127 = some 6 := by kernel_rfl
@[simp] theorem bytes_127 : bytesV Tryz.prog 127 = some 56 := by kernel_rfl
@[simp] theorem zero_127 : zeroV Tryz.prog 127 = some (.agg [.str [], .int .i64 0, .int .u32 0, .int .i64 0, .int .i64 0, .int .u8 0]) := by kernel_rfl
attribute [simp] Tryz.underlying127
@[simp] theorem agg_128 : isAggV Tryz.prog 128 = some true := by kernel_rfl
@[simp] theorem size_128 : sizeV Tryz.prog 128 = some 6 := by kernel_rfl
@[simp] theorem bytes_128 : bytesV Tryz.prog 128 = some 56 := by kernel_rfl
@[simp] theorem zero_128 : zeroV Tryz.prog 128 = some (.agg [.str [], .int .i64 0, .int .u32 0, .int .i64 0, .int .i64 0, .int .u8 0]) := by kernel_rfl
attribute [simp] Tryz.underlying128
@[simp] theorem agg_129 : isAggV Tryz.prog 129 = some false := by kernel_rfl
@[simp] theorem size_129 : sizeV Tryz.prog 129 = some 1 := by kernel_rfl
@[simp] theorem bytes_129 : bytesV Tryz.prog 129 = some 0 := by kernel_rfl
attribute [simp] Tryz.underlying129
@[simp] theorem agg_130 : isAggV Tryz.prog 130 = some false := by kernel_rfl
@[simp] theorem size_130 : sizeV Tryz.prog 130 = some 1 := by kernel_rfl
@[simp] theorem bytes_130 : bytesV Tryz.prog 130 = some 8 := by kernel_rfl
attribute [simp] Tryz.underlying130
@[simp] theorem agg_131 : isAggV Tryz.prog 131 = some false := by kernel_rfl
@[simp] theorem size_131 : sizeV Tryz.prog 131 = some 1 := by kernel_rfl
@[simp] theorem bytes_131 : bytesV Tryz.prog 131 = some 8 := by kernel_rfl
attribute [simp] Tryz.underlying131
@[simp] theorem agg_132 : isAggV Tryz.prog 132 = some false := by kernel_rfl
@[simp] theorem size_132 : sizeV Tryz.prog 132 = some 1 := by kernel_rfl
@[simp] theorem bytes_132 : bytesV Tryz.prog 132 = some 8 := by kernel_rfl
attribute [simp] Tryz.underlying132
@[simp] theorem agg_133 : isAggV Tryz.prog 133 = some false := by kernel_rfl
@[simp] theorem size_133 : sizeV Tryz.prog 133 = some 1 := by kernel_rfl
@[simp] theorem bytes_133 : bytesV Tryz.prog 133 = some 8 := by kernel_rfl
attribute [simp] Tryz.underlying133
@[simp] theorem agg_134 : isAggV Tryz.prog 134 = some true := by kernel_rfl
@[simp] theorem size_134 : sizeV Tryz.prog 134 = some 3 := by kernel_rfl
@[simp] theorem bytes_134 : bytesV Tryz.prog 134 = some 56 := by kernel_rfl
@[simp] theorem zero_134 : zeroV Tryz.prog 134 = some (.agg [.nilslice, .nilslice, .nilptr]) := by kernel_rfl
attribute [simp] Tryz.underlying134
@[simp] theorem agg_135 : isAggV Tryz.prog 135 = some true := by kernel_rfl
@[simp] theorem size_135 : sizeV Tryz.prog 135 = some 3 := by kernel_rfl
@[simp] theorem bytes_135 : bytesV Tryz.prog 135 = some 56 := by kernel_rfl
@[simp] theorem zero_135 : zeroV Tryz.prog 135 = some (.agg [.nilslice, .nilslice, .nilptr]) := by kernel_rfl
attribute [simp] Tryz.underlying135
@[simp] theorem agg_136 : isAggV Tryz.prog 136 = some false := by kernel_rfl
@[simp] theorem size_136 : sizeV Tryz.prog 136 = some 1 := by kernel_rfl
@[simp] theorem bytes_136 : bytesV Tryz.prog 136 = some 8 := by kernel_rfl
attribute [simp] Tryz.underlying136
@[simp] theorem agg_137 : isAggV Tryz.prog 137 = some false := by kernel_rfl
@[simp] theorem size_137 : sizeV Tryz.prog 137 = some 1 := by kernel_rfl
@[simp] theorem bytes_137 : bytesV Tryz.prog 137 = some 8 := by kernel_rfl
attribute [simp] Tryz.underlying137
@[simp] theorem agg_138 : isAggV Tryz.prog 138 = some false := by kernel_rfl
@[simp] theorem size_138 : sizeV Tryz.prog 138 = some 1 := by kernel_rfl
@[simp] theorem bytes_138 : bytesV Tryz.prog 138 = some 8 := by kernel_rfl
attribute [simp] Tryz.underlying138
@[simp] theorem agg_139 : isAggV Tryz.prog 139 = some false := by kernel_rfl
@[simp] theorem size_139 : sizeV Tryz.prog 139 = some 1 := by kernel_rfl
@[simp] theorem bytes_139 : bytesV Tryz.prog 139 = some 8 := by kernel_rfl
attribute [simp] Tryz.underlying139
@[simp] theorem agg_140 : isAggV Tryz.prog 140 = some false := by kernel_rfl
@[simp] theorem size_140 : sizeV Tryz.prog 140 = some 1 := by kernel_rfl
@[simp] theorem bytes_140 : bytesV Tryz.prog 140 = some 0 := by kernel_rfl
attribute [simp] Tryz.underlying140
@[simp] theorem agg_141 : isAggV Tryz.prog 141 = some false := by kernel_rfl
@[simp] theorem size_141 : sizeV Tryz.prog 141 = some 1 := by kernel_rfl
@[simp] theorem bytes_141 : bytesV Tryz.prog 141 = some 8 := by kernel_rfl
attribute [simp] Tryz.underlying141
@[simp] theorem agg_142 : isAggV Tryz.prog 142 = some false := by kernel_rfl
@[simp] theorem size_142 : sizeV Tryz.prog 142 = some 1 := by kernel_rfl
@[simp] theorem bytes_142 : bytesV Tryz.prog 142 = some 8 := by kernel_rfl
attribute [simp] Tryz.underlying142
@[simp] theorem agg_143 : isAggV Tryz.prog 143 = some false := by kernel_rfl
@[simp] theorem size_143 : sizeV Tryz.prog 143 = some 1 := by kernel_rfl
@[simp] theorem bytes_143 : bytesV Tryz.prog 143 = some 8 := by kernel_rfl
attribute [simp] Tryz.underlying143
@[simp] theorem agg_144 : isAggV Tryz.prog 144 = some false := by kernel_rfl
@[simp] theorem size_144 : sizeV Tryz.prog 144 = some 1 := by kernel_rfl
@[simp] theorem bytes_144 : bytesV Tryz.prog 144 = some 8 := by kernel_rfl
attribute [simp] Tryz.underlying144
@[simp] theorem agg_145 : isAggV Tryz.prog 145 = some false := by kernel_rfl
@[simp] theorem size_145 : sizeV Tryz.prog 145 = some 1 := by kernel_rfl
@[simp] theorem bytes_145 : bytesV Tryz.prog 145 = some 8 := by kernel_rfl
attribute [simp] Tryz.underlying145
@[simp] theorem agg_146 : isAggV Tryz.prog 146 = some false := by kernel_rfl
@[simp] theorem size_146 : sizeV Tryz.prog 146 = some 1 := by kernel_rfl
@[simp] theorem bytes_146 : bytesV Tryz.prog 146 = some 0 := by kernel_rfl
attribute [simp] Tryz.underlying146
@[simp] theorem agg_147 : isAggV Tryz.prog 147 = some false := by kernel_rfl
@[simp] theorem size_147 : sizeV Tryz.prog 147 = some 1 := by kernel_rfl
@[simp] theorem bytes_147 : bytesV Tryz.prog 147 = some 8 := by kernel_rfl
attribute [simp] Tryz.underlying147
@[simp] theorem agg_148 : isAggV Tryz.prog 148 = some false := by kernel_rfl
@[simp] theorem size_148 : sizeV Tryz.prog 148 = some 1 := by kernel_rfl
@[simp] theorem bytes_148 : bytesV Tryz.prog 148 = some 8 := by kernel_rfl
attribute [simp] Tryz.underlying148
@[simp] theorem agg_149 : isAggV Tryz.prog 149 = some false := by kernel_rfl
@[simp] theorem size_149 : sizeV Tryz.prog 149 = some 1 := by kernel_rfl
@[simp] theorem bytes_149 : bytesV Tryz.prog 149 = some 0 := by kernel_rfl
attribute [simp] Tryz.underlying149
@[simp] theorem agg_150 : isAggV Tryz.prog 150 = some false := by kernel_rfl
@[simp] theorem size_150 : sizeV Tryz.prog 150 = some 1 := by kernel_rfl
@[simp] theorem bytes_150 : bytesV Tryz.prog 150 = some 8 := by kernel_rfl
attribute [simp] Tryz.underlying150
@[simp] theorem agg_151 : isAggV Tryz.prog 151 = some false := by kernel_rfl
@[simp] theorem size_151 : sizeV Tryz.prog 151 = some 1 := by kernel_rfl
@[simp] theorem bytes_151 : bytesV Tryz.prog 151 = some 8 := by kernel_rfl
attribute [simp] Tryz.underlying151
@[simp] theorem agg_152 : isAggV Tryz.prog 152 = some false := by kernel_rfl
@[simp] theorem size_152 : sizeV Tryz.prog 152 = some 1 := by kernel_rfl
@[simp] theorem bytes_152 : bytesV Tryz.prog 152 = some 8 := by kernel_rfl
attribute [simp] Tryz.underlying152
@[simp] theorem agg_153 : isAggV Tryz.prog 153 = some false := by kernel_rfl
@[simp] theorem size_153 : sizeV Tryz.prog 153 = some 1 := by kernel_rfl
@[simp] theorem bytes_153 : bytesV Tryz.prog 153 = some 8 := by kernel_rfl
attribute [simp] Tryz.underlying153
@[simp] theorem agg_154 : isAggV Tryz.prog 154 = some false := by kernel_rfl
@[simp] theorem size_154 : sizeV Tryz.prog 154 = some 1 := by kernel_rfl
@[simp] theorem bytes_154 : bytesV Tryz.prog 154 = some 8 := by kernel_rfl
attribute [simp] Tryz.underlying154
@[simp] theorem agg_155 : isAggV Tryz.prog 155 = some false := by kernel_rfl
@[simp] theorem size_155 : sizeV Tryz.prog 155 = some 1 := by kernel_rfl
@[simp] theorem bytes_155 : bytesV Tryz.prog 155 = some 8 := by kernel_rfl
attribute [simp] Tryz.underlying155
@[simp] theorem agg_156 : isAggV Tryz.prog 156 = some false := by kernel_rfl
@[simp] theorem size_156 : sizeV Tryz.prog 156 = some 1 := by kernel_rfl
@[simp] theorem bytes_156 : bytesV Tryz.prog 156 = some 8 := by kernel_rfl
attribute [simp] Tryz.underlying156
@[simp] theorem agg_157 : isAggV Tryz.prog 157 = some false := by kernel_rfl
@[simp] theorem size_157 : sizeV Tryz.prog 157 = some 1 := by kernel_rfl
@[simp] theorem bytes_157 : bytesV Tryz.prog 157 = some 0 := by kernel_rfl
attribute [simp] Tryz.underlying157
@[simp] theorem agg_158 : isAggV Tryz.prog 158 = some false := by kernel_rfl
@[simp] theorem size_158 : sizeV Tryz.prog 158 = some 1 := by kernel_rfl
@[simp] theorem bytes_158 : bytesV Tryz.prog 158 = some 8 := by kernel_rfl
attribute [simp] Tryz.underlying158
@[simp] theorem agg_159 : isAggV Tryz.prog 159 = some true := by kernel_rfl
@[simp] theorem size_159 : sizeV Tryz.prog 159 = some 360 := by kernel_rfl
@[simp] theorem bytes_159 : bytesV Tryz.prog 159 = some 3360 := by kernel_rfl
attribute [simp] Tryz.underlying159
@[simp] theorem agg_160 : isAggV Tryz.prog 160 = some false := by kernel_rfl
@[simp] theorem size_160 : sizeV Tryz.prog 160 = some 1 := by kernel_rfl
@[simp] theorem bytes_160 : bytesV Tryz.prog 160 = some 8 := by kernel_rfl
attribute [simp] Tryz.underlying160
@[simp] theorem agg_161 : isAggV Tryz.prog 161 = some false := by kernel_rfl
@[simp] theorem size_161 : sizeV Tryz.prog 161 = some 1 := by kernel_rfl
@[simp] theorem bytes_161 : bytesV Tryz.prog 161 = some 0 := by kernel_rfl
attribute [simp] Tryz.underlying161
@[simp] theorem agg_162 : isAggV Tryz.prog 162 = some false := by kernel_rfl
@[simp] theorem size_162 : sizeV Tryz.prog 162 = some 1 := by kernel_rfl
@[simp] theorem bytes_162 : bytesV Tryz.prog 162 = some 8 := by kernel_rfl
attribute [simp] Tryz.underlying162
@[simp] theorem agg_163 : isAggV Tryz.prog 163 = some false := by kernel_rfl
@[simp] theorem size_163 : sizeV Tryz.prog 163 = some 1 := by kernel_rfl
@[simp] theorem bytes_163 : bytesV Tryz.prog 163 = some 8 := by kernel_rfl
attribute [simp] Tryz.underlying163
@[simp] theorem agg_164 : isAggV Tryz.prog 164 = some false := by kernel_rfl
@[simp] theorem size_164 : sizeV Tryz.prog 164 = some 1 := by kernel_rfl
@[simp] theorem bytes_164 : bytesV Tryz.prog 164 = some 8 := by kernel_rfl
@[simp] theorem zero_164 : zeroV Tryz.prog 164 = some (.nilptr) := by kernel_rfl
attribute [simp] Tryz.underlying164
@[simp] theorem agg_165 : isAggV Tryz.prog 165 = some false := by kernel_rfl
@[simp] theorem size_165 : sizeV Tryz.prog 165 = some 1 := by kernel_rfl
@[simp] theorem bytes_165 : bytesV Tryz.prog 165 = some 24 := by kernel_rfl
@[simp] theorem zero_165 : zeroV Tryz.prog 165 = some (.nilslice) := by kernel_rfl
attribute [simp] Tryz.underlying165
@[simp] theorem agg_166 : isAggV Tryz.prog 166 = some false := by kernel_rfl
@[simp] theorem size_166 : sizeV Tryz.prog 166 = some 1 := by kernel_rfl
@[simp] theorem bytes_166 : bytesV Tryz.prog 166 = some 8 := by kernel_rfl
attribute [simp] Tryz.underlying166
@[simp] theorem agg_167 : isAggV Tryz.prog 167 = some false := by kernel_rfl
@[simp] theorem size_167 : sizeV Tryz.prog 167 = some 1 := by kernel_rfl
@[simp] theorem bytes_167 : bytesV Tryz.prog 167 = some 8 := by kernel_rfl
attribute [simp] Tryz.underlying167
@[simp] theorem agg_168 : isAggV Tryz.prog 168 = some false := by kernel_rfl
@[simp] theorem size_168 : sizeV Tryz.prog 168 = some 1 := by kernel_rfl
@[simp] theorem bytes_168 : bytesV Tryz.prog 168 = some 8 := by kernel_rfl
attribute [simp] Tryz.underlying168
@[simp] theorem agg_169 : isAggV Tryz.prog 169 = some false := by kernel_rfl
@[simp] theorem size_169 : sizeV Tryz.prog 169 = some 1 := by kernel_rfl
@[simp] theorem bytes_169 : bytesV Tryz.prog 169 = some 8 := by kernel_rfl
attribute [simp] Tryz.underlying169
@[simp] theorem agg_170 : isAggV Tryz.prog 170 = some false := by kernel_rfl
@[simp] theorem size_170 : sizeV Tryz.prog 170 = some 1 := by kernel_rfl
@[simp] theorem bytes_170 : bytesV Tryz.prog 170 = some 8 := by kernel_rfl
attribute [simp] Tryz.underlying170
@[simp] theorem agg_171 : isAggV Tryz.prog 171 = some false := by kernel_rfl
@[simp] theorem size_171 : sizeV Tryz.prog 171 = some 1 := by kernel_rfl
@[simp] theorem bytes_171 : bytesV Tryz.prog 171 = some 8 := by kernel_rfl
attribute [simp] Tryz.underlying171
@[simp] theorem agg_172 : isAggV Tryz.prog 172 = some false := by kernel_rfl
@[simp] theorem size_172 : sizeV Tryz.prog 172 = some 1 := by kernel_rfl
@[simp] theorem bytes_172 : bytesV Tryz.prog 172 = some 24 := by kernel_rfl
@[simp] theorem zero_172 : zeroV Tryz.prog 172 = some (.nilslice) := by kernel_rfl
attribute [simp] Tryz.underlying172
@[simp] theorem agg_173 : isAggV Tryz.prog 173 = some false := by kernel_rfl
@[simp] theorem size_173 : sizeV Tryz.prog 173 = some 1 := by kernel_rfl
@[simp] theorem bytes_173 : bytesV Tryz.prog 173 = some 8 := by kernel_rfl
attribute [simp] Tryz.underlying173
@[simp] theorem agg_174 : isAggV Tryz.prog 174 = some false := by kernel_rfl
@[simp] theorem size_174 : sizeV Tryz.prog 174 = some 1 := by kernel_rfl
@[simp] theorem bytes_174 : bytesV Tryz.prog 174 = some 8 := by kernel_rfl
attribute [simp] Tryz.underlying174
@[simp] theorem agg_175 : isAggV Tryz.prog 175 = some false := by kernel_rfl
@[simp] theorem size_175 : sizeV Tryz.prog 175 = some 1 := by kernel_rfl
@[simp] theorem bytes_175 : bytesV Tryz.prog 175 = some 0 := by kernel_rfl
attribute [simp] Tryz.underlying175
@[simp] theorem agg_176 : isAggV Tryz.prog 176 = some false := by kernel_rfl
@[simp] theorem size_176 : sizeV Tryz.prog 176 = some 1 := by kernel_rfl
@[simp] theorem bytes_176 : bytesV Tryz.prog 176 = some 8 := by kernel_rfl
attribute [simp] Tryz.underlying176
@[simp] theorem agg_177 : isAggV Tryz.prog 177 = some false := by kernel_rfl
@[simp] theorem size_177 : sizeV Tryz.prog 177 = some 1 := by kernel_rfl
@[simp] theorem bytes_177 : bytesV Tryz.prog 177 = some 8 := by kernel_rfl
attribute [simp] Tryz.underlying177
@[simp] theorem agg_178 : isAggV Tryz.prog 178 = some false := by kernel_rfl
@[simp] theorem size_178 : sizeV Tryz.prog 178 = some 1 := by kernel_rfl
@[simp] theorem bytes_178 : bytesV Tryz.prog 178 = some 0 := by kernel_rfl
attribute [simp] Tryz.underlying178
@[simp] theorem agg_179 : isAggV Tryz.prog 179 = some false := by kernel_rfl
@[simp] theorem size_179 : sizeV Tryz.prog 179 = some 1 := by kernel_rfl
@[simp] theorem bytes_179 : bytesV Tryz.prog 179 = some 8 := by kernel_rfl
attribute [simp] Tryz.underlying179
@[simp] theorem agg_180 : isAggV Tryz.prog 180 = some false := by kernel_rfl
@[simp] theorem size_180 : sizeV Tryz.prog 180 = some 1 := by kernel_rfl
@[simp] theorem bytes_180 : bytesV Tryz.prog 180 = some 0 := by kernel_rfl
attribute [simp] Tryz.underlying180
@[simp] theorem agg_181 : isAggV Tryz.prog 181 = some false := by kernel_rfl
@[simp] theorem size_181 : sizeV Tryz.prog 181 = some 1 := by kernel_rfl
@[simp] theorem bytes_181 : bytesV Tryz.prog 181 = some 8 := by kernel_rfl
attribute [simp] Tryz.underlying181
@[simp] theorem agg_182 : isAggV Tryz.prog 182 = some false := by kernel_rfl
@[simp] theorem size_182 : sizeV Tryz.prog 182 = some 1 := by kernel_rfl
@[simp] theorem bytes_182 : bytesV Tryz.prog 182 = some 16 := by kernel_rfl
attribute [simp] Tryz.underlying182
@[simp] theorem agg_183 : isAggV Tryz.prog 183 = some false := by kernel_rfl
@[simp] theorem size_183 : sizeV Tryz.prog 183 = some 1 := by kernel_rfl
@[simp] theorem bytes_183 : bytesV Tryz.prog 183 = some 16 := by kernel_rfl
attribute [simp] Tryz.underlying183
@[simp] theorem agg_184 : isAggV Tryz.prog 184 = some false := by kernel_rfl
@[simp] theorem size_184 : sizeV Tryz.prog 184 = some 1 := by kernel_rfl
@[simp] theorem bytes_184 : bytesV Tryz.prog 184 = some 8 := by kernel_rfl
attribute [simp] Tryz.underlying184
@[simp] theorem agg_185 : isAggV Tryz.prog 185 = some false := by kernel_rfl
@[simp] theorem size_185 : sizeV Tryz.prog 185 = some 1 := by kernel_rfl
@[simp] theorem bytes_185 : bytesV Tryz.prog 185 = some 8 := by kernel_rfl
attribute [simp] Tryz.underlying185
@[simp] theorem agg_186 : isAggV Tryz.prog 186 = some false := by kernel_rfl
@[simp] theorem size_186 : sizeV Tryz.prog 186 = some 1 := by kernel_rfl
@[simp] theorem bytes_186 : bytesV Tryz.prog 186 = some 8 := by kernel_rfl
attribute [simp] Tryz.underlying186
@[simp] theorem agg_187 : isAggV Tryz.prog 187 = some false := by kernel_rfl
@[simp] theorem size_187 : sizeV Tryz.prog 187 = some 1 := by kernel_rfl
@[simp] theorem bytes_187 : bytesV Tryz.prog 187 = some 8 := by kernel_rfl
attribute [simp] Tryz.underlying187
@[simp] theorem agg_188 : isAggV Tryz.prog 188 = some false := by kernel_rfl
@[simp] theorem size_188 : sizeV Tryz.prog 188 = some 1 := by kernel_rfl
@[simp] theorem bytes_188 : bytesV Tryz.prog 188 = some 8 := by kernel_rfl
attribute [simp] Tryz.underlying188
@[simp] theorem agg_189 : isAggV Tryz.prog 189 = some false := by kernel_rfl
@[simp] theorem size_189 : sizeV Tryz.prog 189 = some 1 := by kernel_rfl
@[simp] theorem bytes_189 : bytesV Tryz.prog 189 = some 8 := by kernel_rfl
attribute [simp] Tryz.underlying189
@[simp] theorem agg_190 : isAggV Tryz.prog 190 = some false := by kernel_rfl
@[simp] theorem size_190 : sizeV Tryz.prog 190 = some 1 := by kernel_rfl
@[simp] theorem bytes_190 : bytesV Tryz.prog 190 = some 8 := by kernel_rfl
attribute [simp] Tryz.underlying190
@[simp] theorem agg_191 : isAggV Tryz.prog 191 = some true := by kernel_rfl
@[simp] theorem size_191 : sizeV Tryz.prog 191 = some 4 := by kernel_rfl
@[simp] theorem bytes_191 : bytesV Tryz.prog 191 = some 40 := by kernel_rfl
@[simp] theorem zero_191 : zeroV Tryz.prog 191 = some (.agg [.nilptr, .nilptr, .nilptr, .str []]) := by kernel_rfl
attribute [simp] Tryz.underlying191
@[simp] theorem agg_192 : isAggV Tryz.prog 192 = some true := by kernel_rfl
@[simp] theorem size_192 : sizeV Tryz.prog 192 = some 4 := by kernel_rfl
@[simp] theorem bytes_192 : bytesV Tryz.prog 192 = some 40 := by kernel_rfl
@[simp] theorem zero_192 : zeroV Tryz.prog 192 = some (.agg [.nilptr, .nilptr, .nilptr, .str []]) := by kernel_rfl
attribute [simp] Tryz.underlying192
@[simp] theorem agg_193 : isAggV Tryz.prog 193 = some true := by kernel_rfl
@[simp] theorem size_193 : sizeV Tryz.prog 193 = some 0 := by kernel_rfl
@[simp] theorem bytes_193 : bytesV Tryz.prog 193 = some 0 := by kernel_rfl
@[simp] theorem zero_193 : zeroV Tryz.prog 193 = some (.agg []) := by kernel_rfl
attribute [simp] Tryz.underlying193
@[simp] theorem agg_194 : isAggV Tryz.prog 194 = some true := by kernel_rfl
@[simp] theorem size_194 : sizeV Tryz.prog 194 = some 0 := by kernel_rfl
@[simp] theorem bytes_194 : bytesV Tryz.prog 194 = some 0 := by kernel_rfl
@[simp] theorem zero_194 : zeroV Tryz.prog 194 = some (.agg []) := by kernel_rfl
attribute [simp] Tryz.underlying194
@[simp] theorem agg_195 : isAggV Tryz.prog 195 = some true := by kernel_rfl
@[simp] theorem size_195 : sizeV Tryz.prog 195 = some 0 := by kernel_rfl
@[simp] theorem bytes_195 : bytesV Tryz.prog 195 = some 0 := by kernel_rfl
@[simp] theorem zero_195 : zeroV Tryz.prog 195 = some (.agg []) := by kernel_rfl
attribute [simp] Tryz.underlying195
@[simp] theorem agg_196 : isAggV Tryz.prog 196 = some false := by kernel_rfl
@[simp] theorem size_196 : sizeV Tryz.prog 196 = some 1 := by kernel_rfl
@[simp] theorem bytes_196 : bytesV Tryz.prog 196 = some 1 := by kernel_rfl
@[simp] theorem zero_196 : zeroV Tryz.prog 196 = some (.int .u8 0) := by kernel_rfl
attribute [simp] Tryz.underlying196
@[simp] theorem agg_197 : isAggV Tryz.prog 197 = some false := by kernel_rfl
@[simp] theorem size_197 : sizeV Tryz.prog 197 = some 1 := by kernel_rfl
@[simp] theorem bytes_197 : bytesV Tryz.prog 197 = some 1 := by kernel_rfl
@[simp] theorem zero_197 : zeroV Tryz.prog 197 = some (.int .u8 0) := by kernel_rfl
attribute [simp] Tryz.underlying197
@[simp] theorem agg_198 : isAggV Tryz.prog 198 = some false := by kernel_rfl
@[simp] theorem size_198 : sizeV Tryz.prog 198 = some 1 := by kernel_rfl
@[simp] theorem bytes_198 : bytesV Tryz.prog 198 = some 8 := by kernel_rfl
attribute [simp] Tryz.underlying198
@[simp] theorem agg_199 : isAggV Tryz.prog 199 = some false := by kernel_rfl
@[simp] theorem size_199 : sizeV Tryz.prog 199 = some 1 := by kernel_rfl
@[simp] theorem bytes_199 : bytesV Tryz.prog 199 = some 8 := by kernel_rfl
@[simp] theorem zero_199 : zeroV Tryz.prog 199 = some (.nilptr) := by kernel_rfl
attribute [simp] Tryz.underlying199
@[simp] theorem agg_200 : isAggV Tryz.prog 200 = some false := by kernel_rfl
@[simp] theorem size_200 : sizeV Tryz.prog 200 = some 1 := by kernel_rfl
@[simp] theorem bytes_200 : bytesV Tryz.prog 200 = some 4 := by kernel_rfl
@[simp] theorem zero_200 : zeroV Tryz.prog 200 = some (.int .i32 0) := by kernel_rfl
attribute [simp] Tryz.underlying200
@[simp] theorem agg_201 : isAggV Tryz.prog 201 = some false := by kernel_rfl
@[simp] theorem size_201 : sizeV Tryz.prog 201 = some 1 := by kernel_rfl
@[simp] theorem bytes_201 : bytesV Tryz.prog 201 = some 4 := by kernel_rfl
@[simp] theorem zero_201 : zeroV Tryz.prog 201 = some (.int .i32 0) := by kernel_rfl
attribute [simp] Tryz.underlying201
@[simp] theorem agg_202 : isAggV Tryz.prog 202 = some true := by kernel_rfl
@[simp] theorem size_202 : sizeV Tryz.prog 202 = some 11 := by kernel_rfl
@[simp] theorem bytes_202 : bytesV Tryz.prog 202 = some 48 := by kernel_rfl
@[simp] theorem zero_202 : zeroV Tryz.prog 202 = some (.agg [.int .u64 0, .int .u64 0, .int .u32 0, .int .u8 0, .int .u8 0, .int .u8 0, .int .u8 0, .nilfunc, .nilptr, .int .i32 0, .int .i32 0]) := by kernel_rfl
attribute [simp] Tryz.underlying202
@[simp] theorem agg_203 : isAggV Tryz.prog 203 = some true := by kernel_rfl
@[simp] theorem size_203 : sizeV Tryz.prog 203 = some 11 := by kernel_rfl
@[simp] theorem bytes_203 : bytesV Tryz.prog 203 = some 48 := by kernel_rfl
@[simp] theorem zero_203 : zeroV Tryz.prog 203 = some (.agg [.int .u64 0, .int .u64 0, .int .u32 0, .int .u8 0, .int .u8 0, .int .u8 0, .int .u8 0, .nilfunc, .nilptr, .int .i32 0, .int .i32 0]) := by kernel_rfl
attribute [simp] Tryz.underlying203
@[simp] theorem agg_204 : isAggV Tryz.prog 204 = some false := by kernel_rfl
@[simp] theorem size_204 : sizeV Tryz.prog 204 = some 1 := by kernel_rfl
@[simp] theorem bytes_204 : bytesV Tryz.prog 204 = some 8 := by kernel_rfl
attribute [simp] Tryz.underlying204
@[simp] theorem agg_205 : isAggV Tryz.prog 205 = some false := by kernel_rfl
@[simp] theorem size_205 : sizeV Tryz.prog 205 = some 1 := by kernel_rfl
@[simp] theorem bytes_205 : bytesV Tryz.prog 205 = some 8 := by kernel_rfl
@[simp] theorem zero_205 : zeroV Tryz.prog 205 = some (.nilptr) := by kernel_rfl
attribute [simp] Tryz.underlying205

/-! 2: gosem.cut.init -/
attribute [simp] Tryz.results2
theorem pu_2 {lent : Bool} {args : List V} {r : V} (hr : evK E (om E) 2 [] (Tryz.f2.body.getD .skip) (endK Tryz.prog Tryz.f2.results.toList (pureFin lent)) (args ++ pois (1 - args.length)) [[]] = some r) : pureV E (om E) 2 lent args = some r := pureV_of (dyn := []) rfl (by rw [E_P]; exact Tryz.func2) (by unfold Tryz.f2; rfl) (by kernel_rfl) (by rw [Tryz.ntmps2]; exact hr)
@[simp] theorem call_2 (args : List V) (h : Heap) : callV E (om E) 2 args h = (viewArgs h args).bind fun a => (pureV E (om E) 2 (!V.flatL args) a).map fun r => (r, h) := callV_pure rfl rfl args h

/-! 3: playpen/playpenlaw15.VerifyNames -/
attribute [simp] Tryz.results3
theorem pu_3 {lent : Bool} {args : List V} {r : V} (hr : evK E (om E) 3 [] (Tryz.f3.body.getD .skip) (endK Tryz.prog Tryz.f3.results.toList (pureFin lent)) (args ++ pois (150 - args.length)) [[]] = some r) : pureV E (om E) 3 lent args = some r := pureV_of (dyn := []) rfl (by rw [E_P]; exact Tryz.func3) (by unfold Tryz.f3; rfl) (by kernel_rfl) (by rw [Tryz.ntmps3]; exact hr)
@[simp] theorem call_3 (args : List V) (h : Heap) : callV E (om E) 3 args h = (viewArgs h args).bind fun a => (pureV E (om E) 3 (!V.flatL args) a).map fun r => (r, h) := callV_pure rfl rfl args h

/-! 4: playpen/verify.Take -/
attribute [simp] Tryz.results4
theorem bo_4 {args : List V} {h : Heap} {r : V × Heap} (hr : evK E (om E) 4 [] (Tryz.f4.body.getD .skip) (endK Tryz.prog Tryz.f4.results.toList bodyFin) (args ++ pois (87 - args.length)) h = some r) : bodyV E (om E) 4 args h = some r := bodyV_of (dyn := []) rfl (by rw [E_P]; exact Tryz.func4) (by unfold Tryz.f4; rfl) (by kernel_rfl) (by rw [Tryz.ntmps4]; exact hr)
theorem call_4 (args : List V) (h : Heap) : callV E (om E) 4 args h = (bodyV E (om E) 4 (V.upL 1 args) ([] :: h)).bind fun x => some (V.out (Heap.top x.2.tail).length x.1, Heap.setTop x.2.tail (Heap.top x.2.tail ++ x.2.top.map (outBlk (Heap.top x.2.tail).length))) := callV_live rfl rfl args h

/-! 5: playpen/playpenlaw15.sample -/
attribute [simp] Tryz.results5
theorem bo_5 {args : List V} {h : Heap} {r : V × Heap} (hr : evK E (om E) 5 [] (Tryz.f5.body.getD .skip) (endK Tryz.prog Tryz.f5.results.toList bodyFin) (args ++ pois (14 - args.length)) h = some r) : bodyV E (om E) 5 args h = some r := bodyV_of (dyn := []) rfl (by rw [E_P]; exact Tryz.func5) (by unfold Tryz.f5; rfl) (by kernel_rfl) (by rw [Tryz.ntmps5]; exact hr)
theorem call_5 (args : List V) (h : Heap) : callV E (om E) 5 args h = (viewArgs h args).bind fun args' => (bodyV E (om E) 5 args' [[]]).bind fun x => if !V.flatL args && !V.own x.2 x.1 then none else some (V.out h.top.length x.1, h.setTop (h.top ++ x.2.top.map (outBlk h.top.length))) := callV_own rfl rfl args h

/-! 6: playpen/playpenlaw15.awake -/
attribute [simp] Tryz.results6
theorem pu_6 {lent : Bool} {args : List V} {r : V} (hr : evK E (om E) 6 [] (Tryz.f6.body.getD .skip) (endK Tryz.prog Tryz.f6.results.toList (pureFin lent)) (args ++ pois (53 - args.length)) [[]] = some r) : pureV E (om E) 6 lent args = some r := pureV_of (dyn := []) rfl (by rw [E_P]; exact Tryz.func6) (by unfold Tryz.f6; rfl) (by kernel_rfl) (by rw [Tryz.ntmps6]; exact hr)
@[simp] theorem call_6 (args : List V) (h : Heap) : callV E (om E) 6 args h = (viewArgs h args).bind fun a => (pureV E (om E) 6 (!V.flatL args) a).map fun r => (r, h) := callV_pure rfl rfl args h

/-! 7: (*playpen/verify.Module).Bits -/
attribute [simp] Tryz.results7
theorem pu_7 {lent : Bool} {args : List V} {r : V} (hr : evK E (om E) 7 [] (Tryz.f7.body.getD .skip) (endK Tryz.prog Tryz.f7.results.toList (pureFin lent)) (args ++ pois (8 - args.length)) [[]] = some r) : pureV E (om E) 7 lent args = some r := pureV_of (dyn := []) rfl (by rw [E_P]; exact Tryz.func7) (by unfold Tryz.f7; rfl) (by kernel_rfl) (by rw [Tryz.ntmps7]; exact hr)
@[simp] theorem call_7 (args : List V) (h : Heap) : callV E (om E) 7 args h = (viewArgs h args).bind fun a => (pureV E (om E) 7 (!V.flatL args) a).map fun r => (r, h) := callV_pure rfl rfl args h

/-! 8: (*playpen/verify.Module).Procs -/
attribute [simp] Tryz.results8
theorem bo_8 {args : List V} {h : Heap} {r : V × Heap} (hr : evK E (om E) 8 [] (Tryz.f8.body.getD .skip) (endK Tryz.prog Tryz.f8.results.toList bodyFin) (args ++ pois (9 - args.length)) h = some r) : bodyV E (om E) 8 args h = some r := bodyV_of (dyn := []) rfl (by rw [E_P]; exact Tryz.func8) (by unfold Tryz.f8; rfl) (by kernel_rfl) (by rw [Tryz.ntmps8]; exact hr)
theorem call_8 (args : List V) (h : Heap) : callV E (om E) 8 args h = (bodyV E (om E) 8 (V.upL 1 args) ([] :: h)).bind fun x => some (V.out (Heap.top x.2.tail).length x.1, Heap.setTop x.2.tail (Heap.top x.2.tail ++ x.2.top.map (outBlk (Heap.top x.2.tail).length))) := callV_live rfl rfl args h

/-! 9: (*playpen/verify.Module).Entry -/
attribute [simp] Tryz.results9
theorem pu_9 {lent : Bool} {args : List V} {r : V} (hr : evK E (om E) 9 [] (Tryz.f9.body.getD .skip) (endK Tryz.prog Tryz.f9.results.toList (pureFin lent)) (args ++ pois (26 - args.length)) [[]] = some r) : pureV E (om E) 9 lent args = some r := pureV_of (dyn := []) rfl (by rw [E_P]; exact Tryz.func9) (by unfold Tryz.f9; rfl) (by kernel_rfl) (by rw [Tryz.ntmps9]; exact hr)
@[simp] theorem call_9 (args : List V) (h : Heap) : callV E (om E) 9 args h = (viewArgs h args).bind fun a => (pureV E (om E) 9 (!V.flatL args) a).map fun r => (r, h) := callV_pure rfl rfl args h
@[simp] theorem hint_9_0 : E.hint 9 2 = [.forget 4, .forget 5, .forget 7, .forget 16, .forget 17, .forget 18, .forget 19, .forget 20, .forget 21, .forget 22, .forget 23, .forget 24, .forget 25] := rfl

/-! 10: (*playpen/verify.Module).Depth -/
attribute [simp] Tryz.results10
theorem pu_10 {lent : Bool} {args : List V} {r : V} (hr : evK E (om E) 10 [] (Tryz.f10.body.getD .skip) (endK Tryz.prog Tryz.f10.results.toList (pureFin lent)) (args ++ pois (12 - args.length)) [[]] = some r) : pureV E (om E) 10 lent args = some r := pureV_of (dyn := []) rfl (by rw [E_P]; exact Tryz.func10) (by unfold Tryz.f10; rfl) (by kernel_rfl) (by rw [Tryz.ntmps10]; exact hr)
@[simp] theorem call_10 (args : List V) (h : Heap) : callV E (om E) 10 args h = (viewArgs h args).bind fun a => (pureV E (om E) 10 (!V.flatL args) a).map fun r => (r, h) := callV_pure rfl rfl args h

/-! 11: (*playpen/verify.Module).Back -/
attribute [simp] Tryz.results11
theorem pu_11 {lent : Bool} {args : List V} {r : V} (hr : evK E (om E) 11 [] (Tryz.f11.body.getD .skip) (endK Tryz.prog Tryz.f11.results.toList (pureFin lent)) (args ++ pois (12 - args.length)) [[]] = some r) : pureV E (om E) 11 lent args = some r := pureV_of (dyn := []) rfl (by rw [E_P]; exact Tryz.func11) (by unfold Tryz.f11; rfl) (by kernel_rfl) (by rw [Tryz.ntmps11]; exact hr)
@[simp] theorem call_11 (args : List V) (h : Heap) : callV E (om E) 11 args h = (viewArgs h args).bind fun a => (pureV E (om E) 11 (!V.flatL args) a).map fun r => (r, h) := callV_pure rfl rfl args h

/-! 12: (*playpen/verify.Module).Begins -/
attribute [simp] Tryz.results12
theorem pu_12 {lent : Bool} {args : List V} {r : V} (hr : evK E (om E) 12 [] (Tryz.f12.body.getD .skip) (endK Tryz.prog Tryz.f12.results.toList (pureFin lent)) (args ++ pois (12 - args.length)) [[]] = some r) : pureV E (om E) 12 lent args = some r := pureV_of (dyn := []) rfl (by rw [E_P]; exact Tryz.func12) (by unfold Tryz.f12; rfl) (by kernel_rfl) (by rw [Tryz.ntmps12]; exact hr)
@[simp] theorem call_12 (args : List V) (h : Heap) : callV E (om E) 12 args h = (viewArgs h args).bind fun a => (pureV E (om E) 12 (!V.flatL args) a).map fun r => (r, h) := callV_pure rfl rfl args h

/-! 13: playpen/verify.Load -/
attribute [simp] Tryz.results13
theorem pu_13 {lent : Bool} {args : List V} {r : V} (hr : evK E (om E) 13 [] (Tryz.f13.body.getD .skip) (endK Tryz.prog Tryz.f13.results.toList (pureFin lent)) (args ++ pois (23 - args.length)) [[]] = some r) : pureV E (om E) 13 lent args = some r := pureV_of (dyn := []) rfl (by rw [E_P]; exact Tryz.func13) (by unfold Tryz.f13; rfl) (by kernel_rfl) (by rw [Tryz.ntmps13]; exact hr)
@[simp] theorem call_13 (args : List V) (h : Heap) : callV E (om E) 13 args h = (viewArgs h args).bind fun a => (pureV E (om E) 13 (!V.flatL args) a).map fun r => (r, h) := callV_pure rfl rfl args h

/-! 14: playpen/playpenlaw15.nothing -/
attribute [simp] Tryz.results14
theorem pu_14 {lent : Bool} {args : List V} {r : V} (hr : evK E (om E) 14 [] (Tryz.f14.body.getD .skip) (endK Tryz.prog Tryz.f14.results.toList (pureFin lent)) (args ++ pois (119 - args.length)) [[]] = some r) : pureV E (om E) 14 lent args = some r := pureV_of (dyn := []) rfl (by rw [E_P]; exact Tryz.func14) (by unfold Tryz.f14; rfl) (by kernel_rfl) (by rw [Tryz.ntmps14]; exact hr)
@[simp] theorem call_14 (args : List V) (h : Heap) : callV E (om E) 14 args h = (viewArgs h args).bind fun a => (pureV E (om E) 14 (!V.flatL args) a).map fun r => (r, h) := callV_pure rfl rfl args h

/-! 15: playpen/image.Check -/
attribute [simp] Tryz.results15
theorem pu_15 {lent : Bool} {args : List V} {r : V} (hr : evK E (om E) 15 [] (Tryz.f15.body.getD .skip) (endK Tryz.prog Tryz.f15.results.toList (pureFin lent)) (args ++ pois (59 - args.length)) [[]] = some r) : pureV E (om E) 15 lent args = some r := pureV_of (dyn := []) rfl (by rw [E_P]; exact Tryz.func15) (by unfold Tryz.f15; rfl) (by kernel_rfl) (by rw [Tryz.ntmps15]; exact hr)
@[simp] theorem call_15 (args : List V) (h : Heap) : callV E (om E) 15 args h = (viewArgs h args).bind fun a => (pureV E (om E) 15 (!V.flatL args) a).map fun r => (r, h) := callV_pure rfl rfl args h
@[simp] theorem hint_15_0 : E.hint 15 4 = [.forget 2, .forget 4, .forget 5, .forget 15, .forget 16, .forget 17, .forget 18, .forget 19, .forget 20, .forget 21, .forget 22, .forget 23] := rfl
@[simp] theorem hint_15_1 : E.hint 15 17 = [.forget 2, .forget 6, .forget 51, .forget 52, .forget 53, .forget 54, .forget 55, .forget 56, .forget 57, .forget 58] := rfl

/-! 16: playpen/verify.copied -/
attribute [simp] Tryz.results16
theorem pu_16 {lent : Bool} {args : List V} {r : V} (hr : evK E (om E) 16 [] (Tryz.f16.body.getD .skip) (endK Tryz.prog Tryz.f16.results.toList (pureFin lent)) (args ++ pois (20 - args.length)) [[]] = some r) : pureV E (om E) 16 lent args = some r := pureV_of (dyn := []) rfl (by rw [E_P]; exact Tryz.func16) (by unfold Tryz.f16; rfl) (by kernel_rfl) (by rw [Tryz.ntmps16]; exact hr)
@[simp] theorem call_16 (args : List V) (h : Heap) : callV E (om E) 16 args h = (viewArgs h args).bind fun a => (pureV E (om E) 16 (!V.flatL args) a).map fun r => (r, h) := callV_pure rfl rfl args h

/-! 17: playpen/procs.Find -/
attribute [simp] Tryz.results17
theorem pu_17 {lent : Bool} {args : List V} {r : V} (hr : evK E (om E) 17 [] (Tryz.f17.body.getD .skip) (endK Tryz.prog Tryz.f17.results.toList (pureFin lent)) (args ++ pois (96 - args.length)) [[]] = some r) : pureV E (om E) 17 lent args = some r := pureV_of (dyn := []) rfl (by rw [E_P]; exact Tryz.func17) (by unfold Tryz.f17; rfl) (by kernel_rfl) (by rw [Tryz.ntmps17]; exact hr)
@[simp] theorem call_17 (args : List V) (h : Heap) : callV E (om E) 17 args h = (viewArgs h args).bind fun a => (pureV E (om E) 17 (!V.flatL args) a).map fun r => (r, h) := callV_pure rfl rfl args h
@[simp] theorem hint_17_0 : E.hint 17 8 = [.forget 6, .forget 7, .forget 8, .forget 13, .forget 14, .forget 15, .forget 45, .forget 46, .forget 47, .forget 48, .forget 49, .forget 50, .forget 51, .forget 52, .forget 53, .forget 54, .forget 55, .forget 56, .forget 57, .forget 58, .forget 59, .forget 60, .forget 61, .forget 62, .forget 63, .forget 64, .forget 65, .forget 66, .forget 67, .forget 68, .forget 69, .forget 70] := rfl
@[simp] theorem hint_17_1 : E.hint 17 18 = [.forget 6, .forget 7, .forget 8, .forget 18, .forget 19, .forget 84, .forget 85, .forget 86, .forget 87, .forget 88, .forget 89, .forget 90, .forget 91, .forget 92, .forget 93, .forget 94] := rfl

/-! 18: playpen/flow.Depths -/
attribute [simp] Tryz.results18
theorem pu_18 {lent : Bool} {args : List V} {r : V} (hr : evK E (om E) 18 [] (Tryz.f18.body.getD .skip) (endK Tryz.prog Tryz.f18.results.toList (pureFin lent)) (args ++ pois (28 - args.length)) [[]] = some r) : pureV E (om E) 18 lent args = some r := pureV_of (dyn := []) rfl (by rw [E_P]; exact Tryz.func18) (by unfold Tryz.f18; rfl) (by kernel_rfl) (by rw [Tryz.ntmps18]; exact hr)
@[simp] theorem call_18 (args : List V) (h : Heap) : callV E (om E) 18 args h = (viewArgs h args).bind fun a => (pureV E (om E) 18 (!V.flatL args) a).map fun r => (r, h) := callV_pure rfl rfl args h

/-! 19: playpen/image.Bits -/
attribute [simp] Tryz.results19
theorem pu_19 {lent : Bool} {args : List V} {r : V} (hr : evK E (om E) 19 [] (Tryz.f19.body.getD .skip) (endK Tryz.prog Tryz.f19.results.toList (pureFin lent)) (args ++ pois (25 - args.length)) [[]] = some r) : pureV E (om E) 19 lent args = some r := pureV_of (dyn := []) rfl (by rw [E_P]; exact Tryz.func19) (by unfold Tryz.f19; rfl) (by kernel_rfl) (by rw [Tryz.ntmps19]; exact hr)
@[simp] theorem call_19 (args : List V) (h : Heap) : callV E (om E) 19 args h = (viewArgs h args).bind fun a => (pureV E (om E) 19 (!V.flatL args) a).map fun r => (r, h) := callV_pure rfl rfl args h
@[simp] theorem hint_19_0 : E.hint 19 5 = [.forget 11, .forget 12, .forget 13, .forget 14, .forget 15, .forget 16, .forget 17, .forget 18, .forget 19, .forget 20, .forget 21, .forget 22, .forget 23] := rfl

/-! 20: playpen/image.Encode -/
attribute [simp] Tryz.results20
theorem pu_20 {lent : Bool} {args : List V} {r : V} (hr : evK E (om E) 20 [] (Tryz.f20.body.getD .skip) (endK Tryz.prog Tryz.f20.results.toList (pureFin lent)) (args ++ pois (134 - args.length)) [[]] = some r) : pureV E (om E) 20 lent args = some r := pureV_of (dyn := []) rfl (by rw [E_P]; exact Tryz.func20) (by unfold Tryz.f20; rfl) (by kernel_rfl) (by rw [Tryz.ntmps20]; exact hr)
@[simp] theorem call_20 (args : List V) (h : Heap) : callV E (om E) 20 args h = (viewArgs h args).bind fun a => (pureV E (om E) 20 (!V.flatL args) a).map fun r => (r, h) := callV_pure rfl rfl args h
@[simp] theorem hint_20_0 : E.hint 20 9 = [.forget 10, .forget 40, .forget 41, .forget 42, .forget 43, .forget 44, .forget 45, .forget 46, .forget 47, .forget 48, .forget 49, .forget 50, .forget 51, .forget 52, .forget 53, .forget 54, .forget 55, .forget 56, .forget 57, .forget 58, .forget 59] := rfl
@[simp] theorem hint_20_1 : E.hint 20 16 = [.promote 12 1, .forget 14, .forget 71, .forget 72, .forget 73, .forget 74, .forget 75, .forget 76, .forget 77, .forget 78, .forget 79, .forget 80] := rfl
@[simp] theorem hint_20_2 : E.hint 20 25 = [.promote 16 1, .forget 18, .forget 102, .forget 103, .forget 104, .forget 105, .forget 106, .forget 107, .forget 108, .forget 109, .forget 110, .forget 111, .forget 112, .forget 113] := rfl
@[simp] theorem hint_20_3 : E.hint 20 31 = [.promote 16 1, .forget 20, .forget 125, .forget 126, .forget 127, .forget 128, .forget 129, .forget 130, .forget 131] := rfl

/-! 21: playpen/little.Sum -/
attribute [simp] Tryz.results21
theorem pu_21 {lent : Bool} {args : List V} {r : V} (hr : evK E (om E) 21 [] (Tryz.f21.body.getD .skip) (endK Tryz.prog Tryz.f21.results.toList (pureFin lent)) (args ++ pois (27 - args.length)) [[]] = some r) : pureV E (om E) 21 lent args = some r := pureV_of (dyn := []) rfl (by rw [E_P]; exact Tryz.func21) (by unfold Tryz.f21; rfl) (by kernel_rfl) (by rw [Tryz.ntmps21]; exact hr)
@[simp] theorem call_21 (args : List V) (h : Heap) : callV E (om E) 21 args h = (viewArgs h args).bind fun a => (pureV E (om E) 21 (!V.flatL args) a).map fun r => (r, h) := callV_pure rfl rfl args h
@[simp] theorem hint_21_0 : E.hint 21 3 = [.forget 6, .forget 10, .forget 11, .forget 12, .forget 13, .forget 14, .forget 15, .forget 16, .forget 17, .forget 18, .forget 19, .forget 20, .forget 21, .forget 22] := rfl

/-! 22: (*playpen/verify.Module).Count -/
attribute [simp] Tryz.results22
theorem pu_22 {lent : Bool} {args : List V} {r : V} (hr : evK E (om E) 22 [] (Tryz.f22.body.getD .skip) (endK Tryz.prog Tryz.f22.results.toList (pureFin lent)) (args ++ pois (10 - args.length)) [[]] = some r) : pureV E (om E) 22 lent args = some r := pureV_of (dyn := []) rfl (by rw [E_P]; exact Tryz.func22) (by unfold Tryz.f22; rfl) (by kernel_rfl) (by rw [Tryz.ntmps22]; exact hr)
@[simp] theorem call_22 (args : List V) (h : Heap) : callV E (om E) 22 args h = (viewArgs h args).bind fun a => (pureV E (om E) 22 (!V.flatL args) a).map fun r => (r, h) := callV_pure rfl rfl args h

/-! 23: (*playpen/verify.Module).all -/
attribute [simp] Tryz.results23
theorem bo_23 {args : List V} {h : Heap} {r : V × Heap} (hr : evK E (om E) 23 [] (Tryz.f23.body.getD .skip) (endK Tryz.prog Tryz.f23.results.toList bodyFin) (args ++ pois (18 - args.length)) h = some r) : bodyV E (om E) 23 args h = some r := bodyV_of (dyn := []) rfl (by rw [E_P]; exact Tryz.func23) (by unfold Tryz.f23; rfl) (by kernel_rfl) (by rw [Tryz.ntmps23]; exact hr)
theorem he_23 {args : List V} {h : Heap} {r : V × Heap} (hr : evK E (om E) 23 [] (Tryz.f23.body.getD .skip) (endK Tryz.prog Tryz.f23.results.toList heapFin) (V.upL 1 args ++ pois (18 - (V.upL 1 args).length)) ([] :: h) = some r) : callV E (om E) 23 args h = some r := heap_of (dyn := []) rfl rfl rfl (by rw [E_P]; exact Tryz.func23) (by unfold Tryz.f23; rfl) (by kernel_rfl) (by rw [Tryz.ntmps23]; exact hr)
theorem call_23 (args : List V) (h : Heap) : callV E (om E) 23 args h = (bodyV E (om E) 23 (V.upL 1 args) ([] :: h)).bind fun x => (V.freeze [x.2.top] x.1).bind fun r' => some (r', x.2.tail) := callV_heap rfl rfl args h

/-! 24: (playpen/verify.where).Procs -/
attribute [simp] Tryz.results24
theorem bo_24 {args : List V} {h : Heap} {r : V × Heap} (hr : evK E (om E) 24 [] (Tryz.f24.body.getD .skip) (endK Tryz.prog Tryz.f24.results.toList bodyFin) (args ++ pois (19 - args.length)) h = some r) : bodyV E (om E) 24 args h = some r := bodyV_of (dyn := []) rfl (by rw [E_P]; exact Tryz.func24) (by unfold Tryz.f24; rfl) (by kernel_rfl) (by rw [Tryz.ntmps24]; exact hr)
theorem call_24 (args : List V) (h : Heap) : callV E (om E) 24 args h = (bodyV E (om E) 24 (V.upL 1 args) ([] :: h)).bind fun x => some (V.out (Heap.top x.2.tail).length x.1, Heap.setTop x.2.tail (Heap.top x.2.tail ++ x.2.top.map (outBlk (Heap.top x.2.tail).length))) := callV_live rfl rfl args h
@[simp] theorem hint_24_0 : E.hint 24 3 = [.promote 3 4, .forget 4, .forget 9, .forget 10, .forget 11, .forget 12, .forget 13, .forget 14, .forget 15, .forget 16, .forget 17] := rfl

/-! 25: (playpen/verify.deep).Depth -/
attribute [simp] Tryz.results25
theorem pu_25 {lent : Bool} {args : List V} {r : V} (hr : evK E (om E) 25 [] (Tryz.f25.body.getD .skip) (endK Tryz.prog Tryz.f25.results.toList (pureFin lent)) (args ++ pois (17 - args.length)) [[]] = some r) : pureV E (om E) 25 lent args = some r := pureV_of (dyn := []) rfl (by rw [E_P]; exact Tryz.func25) (by unfold Tryz.f25; rfl) (by kernel_rfl) (by rw [Tryz.ntmps25]; exact hr)
@[simp] theorem call_25 (args : List V) (h : Heap) : callV E (om E) 25 args h = (viewArgs h args).bind fun a => (pureV E (om E) 25 (!V.flatL args) a).map fun r => (r, h) := callV_pure rfl rfl args h

/-! 26: (playpen/verify.deep).Back -/
attribute [simp] Tryz.results26
theorem pu_26 {lent : Bool} {args : List V} {r : V} (hr : evK E (om E) 26 [] (Tryz.f26.body.getD .skip) (endK Tryz.prog Tryz.f26.results.toList (pureFin lent)) (args ++ pois (24 - args.length)) [[]] = some r) : pureV E (om E) 26 lent args = some r := pureV_of (dyn := []) rfl (by rw [E_P]; exact Tryz.func26) (by unfold Tryz.f26; rfl) (by kernel_rfl) (by rw [Tryz.ntmps26]; exact hr)
@[simp] theorem call_26 (args : List V) (h : Heap) : callV E (om E) 26 args h = (viewArgs h args).bind fun a => (pureV E (om E) 26 (!V.flatL args) a).map fun r => (r, h) := callV_pure rfl rfl args h

/-! 27: (playpen/verify.where).Begins -/
attribute [simp] Tryz.results27
theorem pu_27 {lent : Bool} {args : List V} {r : V} (hr : evK E (om E) 27 [] (Tryz.f27.body.getD .skip) (endK Tryz.prog Tryz.f27.results.toList (pureFin lent)) (args ++ pois (9 - args.length)) [[]] = some r) : pureV E (om E) 27 lent args = some r := pureV_of (dyn := []) rfl (by rw [E_P]; exact Tryz.func27) (by unfold Tryz.f27; rfl) (by kernel_rfl) (by rw [Tryz.ntmps27]; exact hr)
@[simp] theorem call_27 (args : List V) (h : Heap) : callV E (om E) 27 args h = (viewArgs h args).bind fun a => (pureV E (om E) 27 (!V.flatL args) a).map fun r => (r, h) := callV_pure rfl rfl args h

/-! 28: playpen/image.Parse -/
attribute [simp] Tryz.results28
theorem pu_28 {lent : Bool} {args : List V} {r : V} (hr : evK E (om E) 28 [8, 14, 21] (Tryz.f28.body.getD .skip) (endK Tryz.prog Tryz.f28.results.toList (pureFin lent)) (args ++ pois (119 - args.length)) [[]] = some r) : pureV E (om E) 28 lent args = some r := pureV_of (dyn := [8, 14, 21]) rfl (by rw [E_P]; exact Tryz.func28) (by unfold Tryz.f28; rfl) (by kernel_rfl) (by rw [Tryz.ntmps28]; exact hr)
@[simp] theorem call_28 (args : List V) (h : Heap) : callV E (om E) 28 args h = (viewArgs h args).bind fun a => (pureV E (om E) 28 (!V.flatL args) a).map fun r => (r, h) := callV_pure rfl rfl args h

/-! 29: (*playpen/verify.Module).Image -/
attribute [simp] Tryz.results29
theorem bo_29 {args : List V} {h : Heap} {r : V × Heap} (hr : evK E (om E) 29 [] (Tryz.f29.body.getD .skip) (endK Tryz.prog Tryz.f29.results.toList bodyFin) (args ++ pois (9 - args.length)) h = some r) : bodyV E (om E) 29 args h = some r := bodyV_of (dyn := []) rfl (by rw [E_P]; exact Tryz.func29) (by unfold Tryz.f29; rfl) (by kernel_rfl) (by rw [Tryz.ntmps29]; exact hr)
theorem call_29 (args : List V) (h : Heap) : callV E (om E) 29 args h = (bodyV E (om E) 29 (V.upL 1 args) ([] :: h)).bind fun x => some (V.out (Heap.top x.2.tail).length x.1, Heap.setTop x.2.tail (Heap.top x.2.tail ++ x.2.top.map (outBlk (Heap.top x.2.tail).length))) := callV_live rfl rfl args h

/-! 30: (*playpen/verify.Module).At -/
attribute [simp] Tryz.results30
theorem pu_30 {lent : Bool} {args : List V} {r : V} (hr : evK E (om E) 30 [] (Tryz.f30.body.getD .skip) (endK Tryz.prog Tryz.f30.results.toList (pureFin lent)) (args ++ pois (24 - args.length)) [[]] = some r) : pureV E (om E) 30 lent args = some r := pureV_of (dyn := []) rfl (by rw [E_P]; exact Tryz.func30) (by unfold Tryz.f30; rfl) (by kernel_rfl) (by rw [Tryz.ntmps30]; exact hr)
@[simp] theorem call_30 (args : List V) (h : Heap) : callV E (om E) 30 args h = (viewArgs h args).bind fun a => (pureV E (om E) 30 (!V.flatL args) a).map fun r => (r, h) := callV_pure rfl rfl args h

/-! 31: (*playpen/verify.Module).ProcOf -/
attribute [simp] Tryz.results31
theorem pu_31 {lent : Bool} {args : List V} {r : V} (hr : evK E (om E) 31 [] (Tryz.f31.body.getD .skip) (endK Tryz.prog Tryz.f31.results.toList (pureFin lent)) (args ++ pois (15 - args.length)) [[]] = some r) : pureV E (om E) 31 lent args = some r := pureV_of (dyn := []) rfl (by rw [E_P]; exact Tryz.func31) (by unfold Tryz.f31; rfl) (by kernel_rfl) (by rw [Tryz.ntmps31]; exact hr)
@[simp] theorem call_31 (args : List V) (h : Heap) : callV E (om E) 31 args h = (viewArgs h args).bind fun a => (pureV E (om E) 31 (!V.flatL args) a).map fun r => (r, h) := callV_pure rfl rfl args h

/-! 32: (*playpen/verify.Module).Digest -/
attribute [simp] Tryz.results32
theorem pu_32 {lent : Bool} {args : List V} {r : V} (hr : evK E (om E) 32 [] (Tryz.f32.body.getD .skip) (endK Tryz.prog Tryz.f32.results.toList (pureFin lent)) (args ++ pois (8 - args.length)) [[]] = some r) : pureV E (om E) 32 lent args = some r := pureV_of (dyn := []) rfl (by rw [E_P]; exact Tryz.func32) (by unfold Tryz.f32; rfl) (by kernel_rfl) (by rw [Tryz.ntmps32]; exact hr)
@[simp] theorem call_32 (args : List V) (h : Heap) : callV E (om E) 32 args h = (viewArgs h args).bind fun a => (pureV E (om E) 32 (!V.flatL args) a).map fun r => (r, h) := callV_pure rfl rfl args h

/-! 33: (*playpen/verify.Module).Legal -/
attribute [simp] Tryz.results33
theorem pu_33 {lent : Bool} {args : List V} {r : V} (hr : evK E (om E) 33 [] (Tryz.f33.body.getD .skip) (endK Tryz.prog Tryz.f33.results.toList (pureFin lent)) (args ++ pois (15 - args.length)) [[]] = some r) : pureV E (om E) 33 lent args = some r := pureV_of (dyn := []) rfl (by rw [E_P]; exact Tryz.func33) (by unfold Tryz.f33; rfl) (by kernel_rfl) (by rw [Tryz.ntmps33]; exact hr)
@[simp] theorem call_33 (args : List V) (h : Heap) : callV E (om E) 33 args h = (viewArgs h args).bind fun a => (pureV E (om E) 33 (!V.flatL args) a).map fun r => (r, h) := callV_pure rfl rfl args h

/-! 34: playpen/isa.Check -/
attribute [simp] Tryz.results34
theorem pu_34 {lent : Bool} {args : List V} {r : V} (hr : evK E (om E) 34 [] (Tryz.f34.body.getD .skip) (endK Tryz.prog Tryz.f34.results.toList (pureFin lent)) (args ++ pois (20 - args.length)) [[]] = some r) : pureV E (om E) 34 lent args = some r := pureV_of (dyn := []) rfl (by rw [E_P]; exact Tryz.func34) (by unfold Tryz.f34; rfl) (by kernel_rfl) (by rw [Tryz.ntmps34]; exact hr)
@[simp] theorem call_34 (args : List V) (h : Heap) : callV E (om E) 34 args h = (viewArgs h args).bind fun a => (pureV E (om E) 34 (!V.flatL args) a).map fun r => (r, h) := callV_pure rfl rfl args h

/-! 35: playpen/image.stackMay -/
attribute [simp] Tryz.results35
theorem pu_35 {lent : Bool} {args : List V} {r : V} (hr : evK E (om E) 35 [] (Tryz.f35.body.getD .skip) (endK Tryz.prog Tryz.f35.results.toList (pureFin lent)) (args ++ pois (14 - args.length)) [[]] = some r) : pureV E (om E) 35 lent args = some r := pureV_of (dyn := []) rfl (by rw [E_P]; exact Tryz.func35) (by unfold Tryz.f35; rfl) (by kernel_rfl) (by rw [Tryz.ntmps35]; exact hr)
@[simp] theorem call_35 (args : List V) (h : Heap) : callV E (om E) 35 args h = (viewArgs h args).bind fun a => (pureV E (om E) 35 (!V.flatL args) a).map fun r => (r, h) := callV_pure rfl rfl args h

/-! 36: playpen/image.room -/
attribute [simp] Tryz.results36
theorem pu_36 {lent : Bool} {args : List V} {r : V} (hr : evK E (om E) 36 [] (Tryz.f36.body.getD .skip) (endK Tryz.prog Tryz.f36.results.toList (pureFin lent)) (args ++ pois (15 - args.length)) [[]] = some r) : pureV E (om E) 36 lent args = some r := pureV_of (dyn := []) rfl (by rw [E_P]; exact Tryz.func36) (by unfold Tryz.f36; rfl) (by kernel_rfl) (by rw [Tryz.ntmps36]; exact hr)
@[simp] theorem call_36 (args : List V) (h : Heap) : callV E (om E) 36 args h = (viewArgs h args).bind fun a => (pureV E (om E) 36 (!V.flatL args) a).map fun r => (r, h) := callV_pure rfl rfl args h

/-! 37: playpen/image.nameMay -/
attribute [simp] Tryz.results37
theorem pu_37 {lent : Bool} {args : List V} {r : V} (hr : evK E (om E) 37 [] (Tryz.f37.body.getD .skip) (endK Tryz.prog Tryz.f37.results.toList (pureFin lent)) (args ++ pois (33 - args.length)) [[]] = some r) : pureV E (om E) 37 lent args = some r := pureV_of (dyn := []) rfl (by rw [E_P]; exact Tryz.func37) (by unfold Tryz.f37; rfl) (by kernel_rfl) (by rw [Tryz.ntmps37]; exact hr)
@[simp] theorem call_37 (args : List V) (h : Heap) : callV E (om E) 37 args h = (viewArgs h args).bind fun a => (pureV E (om E) 37 (!V.flatL args) a).map fun r => (r, h) := callV_pure rfl rfl args h

/-! 38: slices.Clone[[]playpen/api.Instr,playpen/api.Instr] -/
attribute [simp] Tryz.results38
@[simp] theorem call_38 (args : List V) (h : Heap) : callV E (om E) 38 args h = cloneW 2 args h := callV_known rfl args h

/-! 39: slices.Clone[[]uint32,uint32] -/
attribute [simp] Tryz.results39
@[simp] theorem call_39 (args : List V) (h : Heap) : callV E (om E) 39 args h = cloneW 1 args h := callV_known rfl args h

/-! 40: bytes.Clone -/
attribute [simp] Tryz.results40
@[simp] theorem call_40 (args : List V) (h : Heap) : callV E (om E) 40 args h = cloneW 1 args h := callV_known rfl args h

/-! 41: slices.Clone[[]playpen/api.Export,playpen/api.Export] -/
attribute [simp] Tryz.results41
@[simp] theorem call_41 (args : List V) (h : Heap) : callV E (om E) 41 args h = cloneW 2 args h := callV_known rfl args h

/-! 42: playpen/isa.Encode -/
attribute [simp] Tryz.results42
theorem pu_42 {lent : Bool} {args : List V} {r : V} (hr : evK E (om E) 42 [] (Tryz.f42.body.getD .skip) (endK Tryz.prog Tryz.f42.results.toList (pureFin lent)) (args ++ pois (42 - args.length)) [[]] = some r) : pureV E (om E) 42 lent args = some r := pureV_of (dyn := []) rfl (by rw [E_P]; exact Tryz.func42) (by unfold Tryz.f42; rfl) (by kernel_rfl) (by rw [Tryz.ntmps42]; exact hr)
@[simp] theorem call_42 (args : List V) (h : Heap) : callV E (om E) 42 args h = (viewArgs h args).bind fun a => (pureV E (om E) 42 (!V.flatL args) a).map fun r => (r, h) := callV_pure rfl rfl args h
@[simp] theorem hint_42_0 : E.hint 42 5 = [.promote 5 1, .forget 2, .forget 3, .forget 4, .forget 6, .forget 7, .forget 8, .forget 15, .forget 16, .forget 17, .forget 18, .forget 19, .forget 20, .forget 21, .forget 22, .forget 23, .forget 24, .forget 25, .forget 26, .forget 27, .forget 28, .forget 29, .forget 30, .forget 31, .forget 32, .forget 33, .forget 34, .forget 35, .forget 36, .forget 37, .forget 38, .forget 39, .forget 40] := rfl

/-! 43: playpen/procs.cut -/
attribute [simp] Tryz.results43
theorem pu_43 {lent : Bool} {args : List V} {r : V} (hr : evK E (om E) 43 [] (Tryz.f43.body.getD .skip) (endK Tryz.prog Tryz.f43.results.toList (pureFin lent)) (args ++ pois (70 - args.length)) [[]] = some r) : pureV E (om E) 43 lent args = some r := pureV_of (dyn := []) rfl (by rw [E_P]; exact Tryz.func43) (by unfold Tryz.f43; rfl) (by kernel_rfl) (by rw [Tryz.ntmps43]; exact hr)
@[simp] theorem call_43 (args : List V) (h : Heap) : callV E (om E) 43 args h = (viewArgs h args).bind fun a => (pureV E (om E) 43 (!V.flatL args) a).map fun r => (r, h) := callV_pure rfl rfl args h
@[simp] theorem hint_43_0 : E.hint 43 3 = [.promoteBox 3 0 4, .promoteBox 3 1 1, .forget 4, .forget 5, .forget 6, .forget 12, .forget 13, .forget 14, .forget 15, .forget 16, .forget 17, .forget 18, .forget 19, .forget 20, .forget 21, .forget 22, .forget 23, .forget 24, .forget 25, .forget 26, .forget 27, .forget 28, .forget 29, .forget 30, .forget 31, .forget 32, .forget 33, .forget 34, .forget 35, .forget 36, .forget 37, .forget 38, .forget 39, .forget 40, .forget 41, .forget 42, .forget 43, .forget 44, .forget 45, .forget 46, .forget 47, .forget 48, .forget 49, .forget 50, .forget 51, .forget 52, .forget 53, .forget 54, .forget 55, .forget 56, .forget 57, .forget 58, .forget 59] := rfl

/-! 44: playpen/procs.fault -/
attribute [simp] Tryz.results44
theorem pu_44 {lent : Bool} {args : List V} {r : V} (hr : evK E (om E) 44 [] (Tryz.f44.body.getD .skip) (endK Tryz.prog Tryz.f44.results.toList (pureFin lent)) (args ++ pois (71 - args.length)) [[]] = some r) : pureV E (om E) 44 lent args = some r := pureV_of (dyn := []) rfl (by rw [E_P]; exact Tryz.func44) (by unfold Tryz.f44; rfl) (by kernel_rfl) (by rw [Tryz.ntmps44]; exact hr)
@[simp] theorem call_44 (args : List V) (h : Heap) : callV E (om E) 44 args h = (viewArgs h args).bind fun a => (pureV E (om E) 44 (!V.flatL args) a).map fun r => (r, h) := callV_pure rfl rfl args h

/-! 45: (*playpen/procs.Procs).aim -/
attribute [simp] Tryz.results45
theorem pu_45 {lent : Bool} {args : List V} {r : V} (hr : evK E (om E) 45 [6] (Tryz.f45.body.getD .skip) (endK Tryz.prog Tryz.f45.results.toList (pureFin lent)) (args ++ pois (84 - args.length)) [[]] = some r) : pureV E (om E) 45 lent args = some r := pureV_of (dyn := [6]) rfl (by rw [E_P]; exact Tryz.func45) (by unfold Tryz.f45; rfl) (by kernel_rfl) (by rw [Tryz.ntmps45]; exact hr)
@[simp] theorem call_45 (args : List V) (h : Heap) : callV E (om E) 45 args h = (viewArgs h args).bind fun a => (pureV E (om E) 45 (!V.flatL args) a).map fun r => (r, h) := callV_pure rfl rfl args h
@[simp] theorem hint_45_0 : E.hint 45 2 = [.forget 4, .forget 5, .forget 6, .forget 7, .forget 11, .forget 12, .forget 13, .forget 14, .forget 15, .forget 16, .forget 17, .forget 18, .forget 19, .forget 20, .forget 21, .forget 22, .forget 23, .forget 24, .forget 25, .forget 26, .forget 27, .forget 28, .forget 29, .forget 30, .forget 31, .forget 32, .forget 33, .forget 34, .forget 35, .forget 36, .forget 37, .forget 38, .forget 39, .forget 40, .forget 41, .forget 42, .forget 43, .forget 44, .forget 45, .forget 46, .forget 47, .forget 48, .forget 49, .forget 50, .forget 51, .forget 52, .forget 53, .forget 54, .forget 55, .forget 56, .forget 57, .forget 58, .forget 59, .forget 60, .forget 61, .forget 62, .forget 63, .forget 64, .forget 65, .forget 66, .forget 67, .forget 68, .forget 69, .forget 70, .forget 71, .forget 72, .forget 73, .forget 74, .forget 75, .forget 76, .forget 77, .forget 78, .forget 79, .forget 80, .forget 81, .forget 82, .forget 83] := rfl

/-! 46: (*playpen/procs.Procs).Begins -/
attribute [simp] Tryz.results46
theorem pu_46 {lent : Bool} {args : List V} {r : V} (hr : evK E (om E) 46 [] (Tryz.f46.body.getD .skip) (endK Tryz.prog Tryz.f46.results.toList (pureFin lent)) (args ++ pois (22 - args.length)) [[]] = some r) : pureV E (om E) 46 lent args = some r := pureV_of (dyn := []) rfl (by rw [E_P]; exact Tryz.func46) (by unfold Tryz.f46; rfl) (by kernel_rfl) (by rw [Tryz.ntmps46]; exact hr)
@[simp] theorem call_46 (args : List V) (h : Heap) : callV E (om E) 46 args h = (viewArgs h args).bind fun a => (pureV E (om E) 46 (!V.flatL args) a).map fun r => (r, h) := callV_pure rfl rfl args h

/-! 47: playpen/flow.found -/
attribute [simp] Tryz.results47
theorem pu_47 {lent : Bool} {args : List V} {r : V} (hr : evK E (om E) 47 [] (Tryz.f47.body.getD .skip) (endK Tryz.prog Tryz.f47.results.toList (pureFin lent)) (args ++ pois (28 - args.length)) [[]] = some r) : pureV E (om E) 47 lent args = some r := pureV_of (dyn := []) rfl (by rw [E_P]; exact Tryz.func47) (by unfold Tryz.f47; rfl) (by kernel_rfl) (by rw [Tryz.ntmps47]; exact hr)
@[simp] theorem call_47 (args : List V) (h : Heap) : callV E (om E) 47 args h = (viewArgs h args).bind fun a => (pureV E (om E) 47 (!V.flatL args) a).map fun r => (r, h) := callV_pure rfl rfl args h

/-! 48: (*playpen/flow.graph).depths -/
attribute [simp] Tryz.results48
theorem pu_48 {lent : Bool} {args : List V} {r : V} (hr : evK E (om E) 48 [9] (Tryz.f48.body.getD .skip) (endK Tryz.prog Tryz.f48.results.toList (pureFin lent)) (args ++ pois (47 - args.length)) [[]] = some r) : pureV E (om E) 48 lent args = some r := pureV_of (dyn := [9]) rfl (by rw [E_P]; exact Tryz.func48) (by unfold Tryz.f48; rfl) (by kernel_rfl) (by rw [Tryz.ntmps48]; exact hr)
@[simp] theorem call_48 (args : List V) (h : Heap) : callV E (om E) 48 args h = (viewArgs h args).bind fun a => (pureV E (om E) 48 (!V.flatL args) a).map fun r => (r, h) := callV_pure rfl rfl args h
@[simp] theorem hint_48_0 : E.hint 48 4 = [.promoteBox 7 0 1] := rfl

/-! 49: slices.Concat[[]byte,byte] -/
attribute [simp] Tryz.results49
theorem bo_49 {args : List V} {h : Heap} {r : V × Heap} (hr : evK E (om E) 49 [] (Tryz.f49.body.getD .skip) (endK Tryz.prog Tryz.f49.results.toList bodyFin) (args ++ pois (36 - args.length)) h = some r) : bodyV E (om E) 49 args h = some r := bodyV_of (dyn := []) rfl (by rw [E_P]; exact Tryz.func49) (by unfold Tryz.f49; rfl) (by kernel_rfl) (by rw [Tryz.ntmps49]; exact hr)
theorem call_49 (args : List V) (h : Heap) : callV E (om E) 49 args h = (viewArgs h args).bind fun args' => (bodyV E (om E) 49 args' [[]]).bind fun x => if !V.flatL args && !V.own x.2 x.1 then none else some (V.out h.top.length x.1, h.setTop (h.top ++ x.2.top.map (outBlk h.top.length))) := callV_own rfl rfl args h
@[simp] theorem hint_49_0 : E.hint 49 3 = [.forget 5, .forget 12, .forget 13, .forget 14, .forget 15, .forget 16, .forget 17, .forget 18, .forget 19, .forget 20, .forget 21, .forget 22] := rfl
@[simp] theorem hint_49_1 : E.hint 49 11 = [.promote 6 1, .forget 8, .forget 28, .forget 29, .forget 30, .forget 31, .forget 32, .forget 33, .forget 34] := rfl

/-! 50: playpen/little.Put[uint32] -/
attribute [simp] Tryz.results50
theorem pu_50 {lent : Bool} {args : List V} {r : V} (hr : evK E (om E) 50 [] (Tryz.f50.body.getD .skip) (endK Tryz.prog Tryz.f50.results.toList (pureFin lent)) (args ++ pois (17 - args.length)) [[]] = some r) : pureV E (om E) 50 lent args = some r := pureV_of (dyn := []) rfl (by rw [E_P]; exact Tryz.func50) (by unfold Tryz.f50; rfl) (by kernel_rfl) (by rw [Tryz.ntmps50]; exact hr)
@[simp] theorem call_50 (args : List V) (h : Heap) : callV E (om E) 50 args h = (viewArgs h args).bind fun a => (pureV E (om E) 50 (!V.flatL args) a).map fun r => (r, h) := callV_pure rfl rfl args h
@[simp] theorem hint_50_0 : E.hint 50 3 = [.promote 3 1, .forget 5, .forget 9, .forget 10, .forget 11, .forget 12, .forget 13, .forget 14, .forget 15] := rfl

/-! 51: playpen/little.Put[uint8] -/
attribute [simp] Tryz.results51
theorem pu_51 {lent : Bool} {args : List V} {r : V} (hr : evK E (om E) 51 [] (Tryz.f51.body.getD .skip) (endK Tryz.prog Tryz.f51.results.toList (pureFin lent)) (args ++ pois (17 - args.length)) [[]] = some r) : pureV E (om E) 51 lent args = some r := pureV_of (dyn := []) rfl (by rw [E_P]; exact Tryz.func51) (by unfold Tryz.f51; rfl) (by kernel_rfl) (by rw [Tryz.ntmps51]; exact hr)
@[simp] theorem call_51 (args : List V) (h : Heap) : callV E (om E) 51 args h = (viewArgs h args).bind fun a => (pureV E (om E) 51 (!V.flatL args) a).map fun r => (r, h) := callV_pure rfl rfl args h
@[simp] theorem hint_51_0 : E.hint 51 3 = [.promote 3 1, .forget 5, .forget 9, .forget 10, .forget 11, .forget 12, .forget 13, .forget 14, .forget 15] := rfl

/-! 52: playpen/little.Lay -/
attribute [simp] Tryz.results52
theorem pu_52 {lent : Bool} {args : List V} {r : V} (hr : evK E (om E) 52 [] (Tryz.f52.body.getD .skip) (endK Tryz.prog Tryz.f52.results.toList (pureFin lent)) (args ++ pois (33 - args.length)) [[]] = some r) : pureV E (om E) 52 lent args = some r := pureV_of (dyn := []) rfl (by rw [E_P]; exact Tryz.func52) (by unfold Tryz.f52; rfl) (by kernel_rfl) (by rw [Tryz.ntmps52]; exact hr)
@[simp] theorem call_52 (args : List V) (h : Heap) : callV E (om E) 52 args h = (viewArgs h args).bind fun a => (pureV E (om E) 52 (!V.flatL args) a).map fun r => (r, h) := callV_pure rfl rfl args h
@[simp] theorem hint_52_0 : E.hint 52 4 = [.promote 7 2, .forget 4, .forget 5, .forget 9, .forget 15, .forget 16, .forget 17, .forget 18, .forget 19, .forget 20, .forget 21, .forget 22, .forget 23, .forget 24, .forget 25, .forget 26, .forget 27, .forget 28, .forget 29, .forget 30, .forget 31] := rfl

/-! 53: playpen/image.sealed -/
attribute [simp] Tryz.results53
theorem bo_53 {args : List V} {h : Heap} {r : V × Heap} (hr : evK E (om E) 53 [] (Tryz.f53.body.getD .skip) (endK Tryz.prog Tryz.f53.results.toList bodyFin) (args ++ pois (18 - args.length)) h = some r) : bodyV E (om E) 53 args h = some r := bodyV_of (dyn := []) rfl (by rw [E_P]; exact Tryz.func53) (by unfold Tryz.f53; rfl) (by kernel_rfl) (by rw [Tryz.ntmps53]; exact hr)
theorem call_53 (args : List V) (h : Heap) : callV E (om E) 53 args h = (viewArgs h args).bind fun args' => (bodyV E (om E) 53 args' [[]]).bind fun x => if !V.flatL args && !V.own x.2 x.1 then none else some (V.out h.top.length x.1, h.setTop (h.top ++ x.2.top.map (outBlk h.top.length))) := callV_own rfl rfl args h

/-! 54: (*playpen/procs.Procs).Count -/
attribute [simp] Tryz.results54
theorem pu_54 {lent : Bool} {args : List V} {r : V} (hr : evK E (om E) 54 [] (Tryz.f54.body.getD .skip) (endK Tryz.prog Tryz.f54.results.toList (pureFin lent)) (args ++ pois (11 - args.length)) [[]] = some r) : pureV E (om E) 54 lent args = some r := pureV_of (dyn := []) rfl (by rw [E_P]; exact Tryz.func54) (by unfold Tryz.f54; rfl) (by kernel_rfl) (by rw [Tryz.ntmps54]; exact hr)
@[simp] theorem call_54 (args : List V) (h : Heap) : callV E (om E) 54 args h = (viewArgs h args).bind fun a => (pureV E (om E) 54 (!V.flatL args) a).map fun r => (r, h) := callV_pure rfl rfl args h
@[simp] theorem hint_54_0 : E.hint 54 3 = [] := rfl

/-! 55: (playpen/verify.where).proc -/
attribute [simp] Tryz.results55
theorem pu_55 {lent : Bool} {args : List V} {r : V} (hr : evK E (om E) 55 [] (Tryz.f55.body.getD .skip) (endK Tryz.prog Tryz.f55.results.toList (pureFin lent)) (args ++ pois (21 - args.length)) [[]] = some r) : pureV E (om E) 55 lent args = some r := pureV_of (dyn := []) rfl (by rw [E_P]; exact Tryz.func55) (by unfold Tryz.f55; rfl) (by kernel_rfl) (by rw [Tryz.ntmps55]; exact hr)
@[simp] theorem call_55 (args : List V) (h : Heap) : callV E (om E) 55 args h = (viewArgs h args).bind fun a => (pureV E (om E) 55 (!V.flatL args) a).map fun r => (r, h) := callV_pure rfl rfl args h

/-! 56: playpen/image.headed -/
attribute [simp] Tryz.results56
theorem pu_56 {lent : Bool} {args : List V} {r : V} (hr : evK E (om E) 56 [] (Tryz.f56.body.getD .skip) (endK Tryz.prog Tryz.f56.results.toList (pureFin lent)) (args ++ pois (79 - args.length)) [[]] = some r) : pureV E (om E) 56 lent args = some r := pureV_of (dyn := []) rfl (by rw [E_P]; exact Tryz.func56) (by unfold Tryz.f56; rfl) (by kernel_rfl) (by rw [Tryz.ntmps56]; exact hr)
@[simp] theorem call_56 (args : List V) (h : Heap) : callV E (om E) 56 args h = (viewArgs h args).bind fun a => (pureV E (om E) 56 (!V.flatL args) a).map fun r => (r, h) := callV_pure rfl rfl args h
@[simp] theorem hint_56_0 : E.hint 56 16 = [.forget 2, .forget 3, .forget 7, .forget 8, .forget 49, .forget 50, .forget 51, .forget 52, .forget 53, .forget 54, .forget 55, .forget 56, .forget 57, .forget 58, .forget 59, .forget 60, .forget 61, .forget 62] := rfl

/-! 57: playpen/image.spansOf -/
attribute [simp] Tryz.results57
theorem bo_57 {args : List V} {h : Heap} {r : V × Heap} (hr : evK E (om E) 57 [] (Tryz.f57.body.getD .skip) (endK Tryz.prog Tryz.f57.results.toList bodyFin) (args ++ pois (23 - args.length)) h = some r) : bodyV E (om E) 57 args h = some r := bodyV_of (dyn := []) rfl (by rw [E_P]; exact Tryz.func57) (by unfold Tryz.f57; rfl) (by kernel_rfl) (by rw [Tryz.ntmps57]; exact hr)
theorem call_57 (args : List V) (h : Heap) : callV E (om E) 57 args h = (viewArgs h args).bind fun args' => (bodyV E (om E) 57 args' [[]]).bind fun x => if !V.flatL args && !V.own x.2 x.1 then none else some (V.out h.top.length x.1, h.setTop (h.top ++ x.2.top.map (outBlk h.top.length))) := callV_own rfl rfl args h
@[simp] theorem hint_57_0 : E.hint 57 3 = [.promote 3 2, .forget 5, .forget 8, .forget 9, .forget 10, .forget 11, .forget 12, .forget 13, .forget 14, .forget 15, .forget 16, .forget 17, .forget 18, .forget 19, .forget 20, .forget 21] := rfl

/-! 58: playpen/image.Parse$1 -/
attribute [simp] Tryz.results58
theorem pu_58 {lent : Bool} {args : List V} {r : V} (hr : evK E (om E) 58 [] (Tryz.f58.body.getD .skip) (endK Tryz.prog Tryz.f58.results.toList (pureFin lent)) (args ++ pois (17 - args.length)) [[]] = some r) : pureV E (om E) 58 lent args = some r := pureV_of (dyn := []) rfl (by rw [E_P]; exact Tryz.func58) (by unfold Tryz.f58; rfl) (by kernel_rfl) (by rw [Tryz.ntmps58]; exact hr)
@[simp] theorem call_58 (args : List V) (h : Heap) : callV E (om E) 58 args h = (viewArgs h args).bind fun a => (pureV E (om E) 58 (!V.flatL args) a).map fun r => (r, h) := callV_pure rfl rfl args h

/-! 59: playpen/little.Cut -/
attribute [simp] Tryz.results59
theorem bo_59 {args : List V} {h : Heap} {r : V × Heap} (hr : evK E (om E) 59 [] (Tryz.f59.body.getD .skip) (endK Tryz.prog Tryz.f59.results.toList bodyFin) (args ++ pois (19 - args.length)) h = some r) : bodyV E (om E) 59 args h = some r := bodyV_of (dyn := []) rfl (by rw [E_P]; exact Tryz.func59) (by unfold Tryz.f59; rfl) (by kernel_rfl) (by rw [Tryz.ntmps59]; exact hr)
theorem call_59 (args : List V) (h : Heap) : callV E (om E) 59 args h = (viewArgs h args).bind fun args' => (bodyV E (om E) 59 args' [[]]).bind fun x => if !V.flatL args && !V.own x.2 x.1 then none else some (V.out h.top.length x.1, h.setTop (h.top ++ x.2.top.map (outBlk h.top.length))) := callV_own rfl rfl args h

/-! 60: playpen/isa.Decode -/
attribute [simp] Tryz.results60
theorem pu_60 {lent : Bool} {args : List V} {r : V} (hr : evK E (om E) 60 [] (Tryz.f60.body.getD .skip) (endK Tryz.prog Tryz.f60.results.toList (pureFin lent)) (args ++ pois (24 - args.length)) [[]] = some r) : pureV E (om E) 60 lent args = some r := pureV_of (dyn := []) rfl (by rw [E_P]; exact Tryz.func60) (by unfold Tryz.f60; rfl) (by kernel_rfl) (by rw [Tryz.ntmps60]; exact hr)
@[simp] theorem call_60 (args : List V) (h : Heap) : callV E (om E) 60 args h = (viewArgs h args).bind fun a => (pureV E (om E) 60 (!V.flatL args) a).map fun r => (r, h) := callV_pure rfl rfl args h
@[simp] theorem hint_60_0 : E.hint 60 4 = [.promoteBox 5 0 2] := rfl

/-! 61: playpen/image.word -/
attribute [simp] Tryz.results61
theorem pu_61 {lent : Bool} {args : List V} {r : V} (hr : evK E (om E) 61 [] (Tryz.f61.body.getD .skip) (endK Tryz.prog Tryz.f61.results.toList (pureFin lent)) (args ++ pois (14 - args.length)) [[]] = some r) : pureV E (om E) 61 lent args = some r := pureV_of (dyn := []) rfl (by rw [E_P]; exact Tryz.func61) (by unfold Tryz.f61; rfl) (by kernel_rfl) (by rw [Tryz.ntmps61]; exact hr)
@[simp] theorem call_61 (args : List V) (h : Heap) : callV E (om E) 61 args h = (viewArgs h args).bind fun a => (pureV E (om E) 61 (!V.flatL args) a).map fun r => (r, h) := callV_pure rfl rfl args h

/-! 62: playpen/little.All[uint32] -/
attribute [simp] Tryz.results62
theorem pu_62 {lent : Bool} {args : List V} {r : V} (hr : evK E (om E) 62 [] (Tryz.f62.body.getD .skip) (endK Tryz.prog Tryz.f62.results.toList (pureFin lent)) (args ++ pois (28 - args.length)) [[]] = some r) : pureV E (om E) 62 lent args = some r := pureV_of (dyn := []) rfl (by rw [E_P]; exact Tryz.func62) (by unfold Tryz.f62; rfl) (by kernel_rfl) (by rw [Tryz.ntmps62]; exact hr)
@[simp] theorem call_62 (args : List V) (h : Heap) : callV E (om E) 62 args h = (viewArgs h args).bind fun a => (pureV E (om E) 62 (!V.flatL args) a).map fun r => (r, h) := callV_pure rfl rfl args h
@[simp] theorem hint_62_0 : E.hint 62 6 = [.promote 5 1, .forget 13, .forget 14, .forget 15, .forget 16, .forget 17, .forget 18, .forget 19, .forget 20, .forget 21, .forget 22, .forget 23, .forget 24, .forget 25, .forget 26] := rfl

/-! 63: playpen/image.segments -/
attribute [simp] Tryz.results63
theorem pu_63 {lent : Bool} {args : List V} {r : V} (hr : evK E (om E) 63 [] (Tryz.f63.body.getD .skip) (endK Tryz.prog Tryz.f63.results.toList (pureFin lent)) (args ++ pois (2 - args.length)) [[]] = some r) : pureV E (om E) 63 lent args = some r := pureV_of (dyn := []) rfl (by rw [E_P]; exact Tryz.func63) (by unfold Tryz.f63; rfl) (by kernel_rfl) (by rw [Tryz.ntmps63]; exact hr)
@[simp] theorem call_63 (args : List V) (h : Heap) : callV E (om E) 63 args h = (viewArgs h args).bind fun a => (pureV E (om E) 63 (!V.flatL args) a).map fun r => (r, h) := callV_pure rfl rfl args h

/-! 64: playpen/image.exports -/
attribute [simp] Tryz.results64
theorem pu_64 {lent : Bool} {args : List V} {r : V} (hr : evK E (om E) 64 [] (Tryz.f64.body.getD .skip) (endK Tryz.prog Tryz.f64.results.toList (pureFin lent)) (args ++ pois (64 - args.length)) [[]] = some r) : pureV E (om E) 64 lent args = some r := pureV_of (dyn := []) rfl (by rw [E_P]; exact Tryz.func64) (by unfold Tryz.f64; rfl) (by kernel_rfl) (by rw [Tryz.ntmps64]; exact hr)
@[simp] theorem call_64 (args : List V) (h : Heap) : callV E (om E) 64 args h = (viewArgs h args).bind fun a => (pureV E (om E) 64 (!V.flatL args) a).map fun r => (r, h) := callV_pure rfl rfl args h
@[simp] theorem hint_64_0 : E.hint 64 3 = [.promote 5 2, .forget 7, .forget 8, .forget 9, .forget 10, .forget 11, .forget 12, .forget 13, .forget 14, .forget 15, .forget 16, .forget 17, .forget 18, .forget 19, .forget 20, .forget 21, .forget 22, .forget 23, .forget 24, .forget 25, .forget 26, .forget 27, .forget 28, .forget 29, .forget 30, .forget 31, .forget 32, .forget 33, .forget 34, .forget 35, .forget 36, .forget 37, .forget 38, .forget 39, .forget 40, .forget 41, .forget 42, .forget 43, .forget 44, .forget 45, .forget 46, .forget 47, .forget 48, .forget 49, .forget 50, .forget 51, .forget 52, .forget 53, .forget 54, .forget 55, .forget 56, .forget 57] := rfl

/-! 65: (playpen/verify.where).ProcOf -/
attribute [simp] Tryz.results65
theorem pu_65 {lent : Bool} {args : List V} {r : V} (hr : evK E (om E) 65 [] (Tryz.f65.body.getD .skip) (endK Tryz.prog Tryz.f65.results.toList (pureFin lent)) (args ++ pois (17 - args.length)) [[]] = some r) : pureV E (om E) 65 lent args = some r := pureV_of (dyn := []) rfl (by rw [E_P]; exact Tryz.func65) (by unfold Tryz.f65; rfl) (by kernel_rfl) (by rw [Tryz.ntmps65]; exact hr)
@[simp] theorem call_65 (args : List V) (h : Heap) : callV E (om E) 65 args h = (viewArgs h args).bind fun a => (pureV E (om E) 65 (!V.flatL args) a).map fun r => (r, h) := callV_pure rfl rfl args h

/-! 66: (playpen/verify.where).Legal -/
attribute [simp] Tryz.results66
theorem pu_66 {lent : Bool} {args : List V} {r : V} (hr : evK E (om E) 66 [] (Tryz.f66.body.getD .skip) (endK Tryz.prog Tryz.f66.results.toList (pureFin lent)) (args ++ pois (12 - args.length)) [[]] = some r) : pureV E (om E) 66 lent args = some r := pureV_of (dyn := []) rfl (by rw [E_P]; exact Tryz.func66) (by unfold Tryz.f66; rfl) (by kernel_rfl) (by rw [Tryz.ntmps66]; exact hr)
@[simp] theorem call_66 (args : List V) (h : Heap) : callV E (om E) 66 args h = (viewArgs h args).bind fun a => (pureV E (om E) 66 (!V.flatL args) a).map fun r => (r, h) := callV_pure rfl rfl args h

/-! 67: playpen/isa.Info -/
attribute [simp] Tryz.results67
theorem pu_67 {lent : Bool} {args : List V} {r : V} (hr : evK E (om E) 67 [] (Tryz.f67.body.getD .skip) (endK Tryz.prog Tryz.f67.results.toList (pureFin lent)) (args ++ pois (16 - args.length)) [[]] = some r) : pureV E (om E) 67 lent args = some r := pureV_of (dyn := []) rfl (by rw [E_P]; exact Tryz.func67) (by unfold Tryz.f67; rfl) (by kernel_rfl) (by rw [Tryz.ntmps67]; exact hr)
@[simp] theorem call_67 (args : List V) (h : Heap) : callV E (om E) 67 args h = (viewArgs h args).bind fun a => (pureV E (om E) 67 (!V.flatL args) a).map fun r => (r, h) := callV_pure rfl rfl args h

/-! 68: playpen/isa.Size -/
attribute [simp] Tryz.results68
theorem pu_68 {lent : Bool} {args : List V} {r : V} (hr : evK E (om E) 68 [] (Tryz.f68.body.getD .skip) (endK Tryz.prog Tryz.f68.results.toList (pureFin lent)) (args ++ pois (17 - args.length)) [[]] = some r) : pureV E (om E) 68 lent args = some r := pureV_of (dyn := []) rfl (by rw [E_P]; exact Tryz.func68) (by unfold Tryz.f68; rfl) (by kernel_rfl) (by rw [Tryz.ntmps68]; exact hr)
@[simp] theorem call_68 (args : List V) (h : Heap) : callV E (om E) 68 args h = (viewArgs h args).bind fun a => (pureV E (om E) 68 (!V.flatL args) a).map fun r => (r, h) := callV_pure rfl rfl args h

/-! 69: playpen/procs.inside -/
attribute [simp] Tryz.results69
theorem pu_69 {lent : Bool} {args : List V} {r : V} (hr : evK E (om E) 69 [] (Tryz.f69.body.getD .skip) (endK Tryz.prog Tryz.f69.results.toList (pureFin lent)) (args ++ pois (15 - args.length)) [[]] = some r) : pureV E (om E) 69 lent args = some r := pureV_of (dyn := []) rfl (by rw [E_P]; exact Tryz.func69) (by unfold Tryz.f69; rfl) (by kernel_rfl) (by rw [Tryz.ntmps69]; exact hr)
@[simp] theorem call_69 (args : List V) (h : Heap) : callV E (om E) 69 args h = (viewArgs h args).bind fun a => (pureV E (om E) 69 (!V.flatL args) a).map fun r => (r, h) := callV_pure rfl rfl args h

/-! 70: (*playpen/procs.Procs).Proc -/
attribute [simp] Tryz.results70
theorem pu_70 {lent : Bool} {args : List V} {r : V} (hr : evK E (om E) 70 [] (Tryz.f70.body.getD .skip) (endK Tryz.prog Tryz.f70.results.toList (pureFin lent)) (args ++ pois (29 - args.length)) [[]] = some r) : pureV E (om E) 70 lent args = some r := pureV_of (dyn := []) rfl (by rw [E_P]; exact Tryz.func70) (by unfold Tryz.f70; rfl) (by kernel_rfl) (by rw [Tryz.ntmps70]; exact hr)
@[simp] theorem call_70 (args : List V) (h : Heap) : callV E (om E) 70 args h = (viewArgs h args).bind fun a => (pureV E (om E) 70 (!V.flatL args) a).map fun r => (r, h) := callV_pure rfl rfl args h

/-! 71: (*playpen/procs.Procs).Of -/
attribute [simp] Tryz.results71
theorem pu_71 {lent : Bool} {args : List V} {r : V} (hr : evK E (om E) 71 [] (Tryz.f71.body.getD .skip) (endK Tryz.prog Tryz.f71.results.toList (pureFin lent)) (args ++ pois (24 - args.length)) [[]] = some r) : pureV E (om E) 71 lent args = some r := pureV_of (dyn := []) rfl (by rw [E_P]; exact Tryz.func71) (by unfold Tryz.f71; rfl) (by kernel_rfl) (by rw [Tryz.ntmps71]; exact hr)
@[simp] theorem call_71 (args : List V) (h : Heap) : callV E (om E) 71 args h = (viewArgs h args).bind fun a => (pureV E (om E) 71 (!V.flatL args) a).map fun r => (r, h) := callV_pure rfl rfl args h

/-! 72: slices.Repeat[[]int,int] -/
attribute [simp] Tryz.results72
theorem bo_72 {args : List V} {h : Heap} {r : V × Heap} (hr : evK E (om E) 72 [] (Tryz.f72.body.getD .skip) (endK Tryz.prog Tryz.f72.results.toList bodyFin) (args ++ pois (48 - args.length)) h = some r) : bodyV E (om E) 72 args h = some r := bodyV_of (dyn := []) rfl (by rw [E_P]; exact Tryz.func72) (by unfold Tryz.f72; rfl) (by kernel_rfl) (by rw [Tryz.ntmps72]; exact hr)
theorem call_72 (args : List V) (h : Heap) : callV E (om E) 72 args h = (viewArgs h args).bind fun args' => (bodyV E (om E) 72 args' [[]]).bind fun x => if !V.flatL args && !V.own x.2 x.1 then none else some (V.out h.top.length x.1, h.setTop (h.top ++ x.2.top.map (outBlk h.top.length))) := callV_own rfl rfl args h
@[simp] theorem hint_72_0 : E.hint 72 8 = [.forget 34, .forget 35, .forget 36, .forget 37, .forget 38, .forget 39, .forget 40, .forget 41, .forget 42, .forget 43, .forget 44, .forget 45, .forget 46] := rfl

/-! 73: (*playpen/procs.Procs).All -/
attribute [simp] Tryz.results73
theorem pu_73 {lent : Bool} {args : List V} {r : V} (hr : evK E (om E) 73 [] (Tryz.f73.body.getD .skip) (endK Tryz.prog Tryz.f73.results.toList (pureFin lent)) (args ++ pois (4 - args.length)) [[]] = some r) : pureV E (om E) 73 lent args = some r := pureV_of (dyn := []) rfl (by rw [E_P]; exact Tryz.func73) (by unfold Tryz.f73; rfl) (by kernel_rfl) (by rw [Tryz.ntmps73]; exact hr)
@[simp] theorem call_73 (args : List V) (h : Heap) : callV E (om E) 73 args h = (viewArgs h args).bind fun a => (pureV E (om E) 73 (!V.flatL args) a).map fun r => (r, h) := callV_pure rfl rfl args h

/-! 74: (*playpen/flow.graph).walk -/
attribute [simp] Tryz.results74
theorem bo_74 {args : List V} {h : Heap} {r : V × Heap} (hr : evK E (om E) 74 [6] (Tryz.f74.body.getD .skip) (endK Tryz.prog Tryz.f74.results.toList bodyFin) (args ++ pois (109 - args.length)) h = some r) : bodyV E (om E) 74 args h = some r := bodyV_of (dyn := [6]) rfl (by rw [E_P]; exact Tryz.func74) (by unfold Tryz.f74; rfl) (by kernel_rfl) (by rw [Tryz.ntmps74]; exact hr)
theorem he_74 {args : List V} {h : Heap} {r : V × Heap} (hr : evK E (om E) 74 [6] (Tryz.f74.body.getD .skip) (endK Tryz.prog Tryz.f74.results.toList heapFin) (V.upL 1 args ++ pois (109 - (V.upL 1 args).length)) ([] :: h) = some r) : callV E (om E) 74 args h = some r := heap_of (dyn := [6]) rfl rfl rfl (by rw [E_P]; exact Tryz.func74) (by unfold Tryz.f74; rfl) (by kernel_rfl) (by rw [Tryz.ntmps74]; exact hr)
theorem call_74 (args : List V) (h : Heap) : callV E (om E) 74 args h = (bodyV E (om E) 74 (V.upL 1 args) ([] :: h)).bind fun x => (V.freeze [x.2.top] x.1).bind fun r' => some (r', x.2.tail) := callV_heap rfl rfl args h
@[simp] theorem hint_74_0 : E.hint 74 4 = [.forget 13, .forget 14, .forget 15, .forget 17, .forget 24, .forget 25, .forget 26, .forget 27, .forget 28, .forget 29, .forget 30, .forget 31, .forget 32, .forget 33, .forget 34, .forget 35, .forget 36, .forget 37, .forget 38, .forget 39, .forget 40, .forget 41, .forget 42, .forget 43, .forget 44, .forget 45, .forget 46, .forget 47, .forget 48, .forget 49, .forget 50, .forget 51, .forget 52, .forget 53, .forget 54, .forget 55, .forget 56, .forget 57, .forget 58, .forget 59, .forget 60, .forget 61, .forget 62, .forget 63, .forget 64, .forget 65, .forget 66, .forget 67, .forget 68, .forget 69, .forget 70, .forget 71, .forget 72, .forget 73, .forget 74, .forget 75, .forget 76, .forget 77, .forget 78, .forget 79, .forget 80, .forget 81, .forget 82, .forget 83, .forget 84, .forget 85, .forget 86, .forget 87, .forget 88, .forget 89, .forget 90, .forget 91, .forget 92, .forget 93, .forget 94, .forget 95, .forget 96, .forget 97, .forget 98, .forget 99, .forget 100, .forget 101, .forget 102, .forget 103] := rfl
@[simp] theorem hint_74_1 : E.hint 74 16 = [.forget 17, .forget 72, .forget 73, .forget 74, .forget 75, .forget 76, .forget 77, .forget 78, .forget 79, .forget 80, .forget 81, .forget 82, .forget 83, .forget 84, .forget 85, .forget 86, .forget 87, .forget 88, .forget 89, .forget 90, .forget 91, .forget 92, .forget 93, .forget 94, .forget 95, .forget 96, .forget 97, .forget 98, .forget 99, .forget 100, .forget 101, .forget 102, .forget 103] := rfl

/-! 75: slices.Grow[[]byte,byte] -/
attribute [simp] Tryz.results75
theorem bo_75 {args : List V} {h : Heap} {r : V × Heap} (hr : evK E (om E) 75 [] (Tryz.f75.body.getD .skip) (endK Tryz.prog Tryz.f75.results.toList bodyFin) (args ++ pois (27 - args.length)) h = some r) : bodyV E (om E) 75 args h = some r := bodyV_of (dyn := []) rfl (by rw [E_P]; exact Tryz.func75) (by unfold Tryz.f75; rfl) (by kernel_rfl) (by rw [Tryz.ntmps75]; exact hr)
theorem call_75 (args : List V) (h : Heap) : callV E (om E) 75 args h = (bodyV E (om E) 75 (V.upL 1 args) ([] :: h)).bind fun x => some (V.out (Heap.top x.2.tail).length x.1, Heap.setTop x.2.tail (Heap.top x.2.tail ++ x.2.top.map (outBlk (Heap.top x.2.tail).length))) := callV_live rfl rfl args h

/-! 76: playpen/little.lay[uint32] -/
attribute [simp] Tryz.results76
theorem bo_76 {args : List V} {h : Heap} {r : V × Heap} (hr : evK E (om E) 76 [] (Tryz.f76.body.getD .skip) (endK Tryz.prog Tryz.f76.results.toList bodyFin) (args ++ pois (21 - args.length)) h = some r) : bodyV E (om E) 76 args h = some r := bodyV_of (dyn := []) rfl (by rw [E_P]; exact Tryz.func76) (by unfold Tryz.f76; rfl) (by kernel_rfl) (by rw [Tryz.ntmps76]; exact hr)
theorem he_76 {args : List V} {h : Heap} {r : V × Heap} (hr : evK E (om E) 76 [] (Tryz.f76.body.getD .skip) (endK Tryz.prog Tryz.f76.results.toList heapFin) (V.upL 1 args ++ pois (21 - (V.upL 1 args).length)) ([] :: h) = some r) : callV E (om E) 76 args h = some r := heap_of (dyn := []) rfl rfl rfl (by rw [E_P]; exact Tryz.func76) (by unfold Tryz.f76; rfl) (by kernel_rfl) (by rw [Tryz.ntmps76]; exact hr)
theorem call_76 (args : List V) (h : Heap) : callV E (om E) 76 args h = (bodyV E (om E) 76 (V.upL 1 args) ([] :: h)).bind fun x => (V.freeze [x.2.top] x.1).bind fun r' => some (r', x.2.tail) := callV_heap rfl rfl args h
@[simp] theorem hint_76_0 : E.hint 76 2 = [.promote 0 1, .forget 5, .forget 8, .forget 9, .forget 10, .forget 11, .forget 12, .forget 13, .forget 14, .forget 15, .forget 16, .forget 17, .forget 18, .forget 19] := rfl

/-! 77: playpen/little.lay[uint8] -/
attribute [simp] Tryz.results77
theorem bo_77 {args : List V} {h : Heap} {r : V × Heap} (hr : evK E (om E) 77 [] (Tryz.f77.body.getD .skip) (endK Tryz.prog Tryz.f77.results.toList bodyFin) (args ++ pois (21 - args.length)) h = some r) : bodyV E (om E) 77 args h = some r := bodyV_of (dyn := []) rfl (by rw [E_P]; exact Tryz.func77) (by unfold Tryz.f77; rfl) (by kernel_rfl) (by rw [Tryz.ntmps77]; exact hr)
theorem he_77 {args : List V} {h : Heap} {r : V × Heap} (hr : evK E (om E) 77 [] (Tryz.f77.body.getD .skip) (endK Tryz.prog Tryz.f77.results.toList heapFin) (V.upL 1 args ++ pois (21 - (V.upL 1 args).length)) ([] :: h) = some r) : callV E (om E) 77 args h = some r := heap_of (dyn := []) rfl rfl rfl (by rw [E_P]; exact Tryz.func77) (by unfold Tryz.f77; rfl) (by kernel_rfl) (by rw [Tryz.ntmps77]; exact hr)
theorem call_77 (args : List V) (h : Heap) : callV E (om E) 77 args h = (bodyV E (om E) 77 (V.upL 1 args) ([] :: h)).bind fun x => (V.freeze [x.2.top] x.1).bind fun r' => some (r', x.2.tail) := callV_heap rfl rfl args h
@[simp] theorem hint_77_0 : E.hint 77 2 = [.promote 0 1, .forget 5, .forget 8, .forget 9, .forget 10, .forget 11, .forget 12, .forget 13, .forget 14, .forget 15, .forget 16, .forget 17, .forget 18, .forget 19] := rfl

/-! 78: playpen/little.With[uint32] -/
attribute [simp] Tryz.results78
theorem bo_78 {args : List V} {h : Heap} {r : V × Heap} (hr : evK E (om E) 78 [] (Tryz.f78.body.getD .skip) (endK Tryz.prog Tryz.f78.results.toList bodyFin) (args ++ pois (22 - args.length)) h = some r) : bodyV E (om E) 78 args h = some r := bodyV_of (dyn := []) rfl (by rw [E_P]; exact Tryz.func78) (by unfold Tryz.f78; rfl) (by kernel_rfl) (by rw [Tryz.ntmps78]; exact hr)
theorem call_78 (args : List V) (h : Heap) : callV E (om E) 78 args h = (viewArgs h args).bind fun args' => (bodyV E (om E) 78 args' [[]]).bind fun x => if !V.flatL args && !V.own x.2 x.1 then none else some (V.out h.top.length x.1, h.setTop (h.top ++ x.2.top.map (outBlk h.top.length))) := callV_own rfl rfl args h

/-! 79: playpen/image.sized -/
attribute [simp] Tryz.results79
theorem pu_79 {lent : Bool} {args : List V} {r : V} (hr : evK E (om E) 79 [] (Tryz.f79.body.getD .skip) (endK Tryz.prog Tryz.f79.results.toList (pureFin lent)) (args ++ pois (12 - args.length)) [[]] = some r) : pureV E (om E) 79 lent args = some r := pureV_of (dyn := []) rfl (by rw [E_P]; exact Tryz.func79) (by unfold Tryz.f79; rfl) (by kernel_rfl) (by rw [Tryz.ntmps79]; exact hr)
@[simp] theorem call_79 (args : List V) (h : Heap) : callV E (om E) 79 args h = (viewArgs h args).bind fun a => (pureV E (om E) 79 (!V.flatL args) a).map fun r => (r, h) := callV_pure rfl rfl args h

/-! 80: playpen/little.Within -/
attribute [simp] Tryz.results80
theorem pu_80 {lent : Bool} {args : List V} {r : V} (hr : evK E (om E) 80 [] (Tryz.f80.body.getD .skip) (endK Tryz.prog Tryz.f80.results.toList (pureFin lent)) (args ++ pois (10 - args.length)) [[]] = some r) : pureV E (om E) 80 lent args = some r := pureV_of (dyn := []) rfl (by rw [E_P]; exact Tryz.func80) (by unfold Tryz.f80; rfl) (by kernel_rfl) (by rw [Tryz.ntmps80]; exact hr)
@[simp] theorem call_80 (args : List V) (h : Heap) : callV E (om E) 80 args h = (viewArgs h args).bind fun a => (pureV E (om E) 80 (!V.flatL args) a).map fun r => (r, h) := callV_pure rfl rfl args h

/-! 81: playpen/little.Apart -/
attribute [simp] Tryz.results81
theorem pu_81 {lent : Bool} {args : List V} {r : V} (hr : evK E (om E) 81 [] (Tryz.f81.body.getD .skip) (endK Tryz.prog Tryz.f81.results.toList (pureFin lent)) (args ++ pois (32 - args.length)) [[]] = some r) : pureV E (om E) 81 lent args = some r := pureV_of (dyn := []) rfl (by rw [E_P]; exact Tryz.func81) (by unfold Tryz.f81; rfl) (by kernel_rfl) (by rw [Tryz.ntmps81]; exact hr)
@[simp] theorem call_81 (args : List V) (h : Heap) : callV E (om E) 81 args h = (viewArgs h args).bind fun a => (pureV E (om E) 81 (!V.flatL args) a).map fun r => (r, h) := callV_pure rfl rfl args h
@[simp] theorem hint_81_0 : E.hint 81 2 = [.forget 2, .forget 3, .forget 4, .forget 5, .forget 6, .forget 7, .forget 8, .forget 12, .forget 13, .forget 14, .forget 15, .forget 16, .forget 17, .forget 18, .forget 19, .forget 20, .forget 21, .forget 22, .forget 23, .forget 24, .forget 25, .forget 26, .forget 27, .forget 28, .forget 29, .forget 30, .forget 31] := rfl
@[simp] theorem hint_81_1 : E.hint 81 5 = [.forget 2, .forget 3, .forget 4, .forget 7, .forget 8, .forget 21, .forget 22, .forget 23, .forget 24, .forget 25, .forget 26, .forget 27, .forget 28, .forget 29, .forget 30] := rfl

/-! 82: slices.Concat[[]playpen/api.Span,playpen/api.Span] -/
attribute [simp] Tryz.results82
theorem pu_82 {lent : Bool} {args : List V} {r : V} (hr : evK E (om E) 82 [] (Tryz.f82.body.getD .skip) (endK Tryz.prog Tryz.f82.results.toList (pureFin lent)) (args ++ pois (36 - args.length)) [[]] = some r) : pureV E (om E) 82 lent args = some r := pureV_of (dyn := []) rfl (by rw [E_P]; exact Tryz.func82) (by unfold Tryz.f82; rfl) (by kernel_rfl) (by rw [Tryz.ntmps82]; exact hr)
@[simp] theorem call_82 (args : List V) (h : Heap) : callV E (om E) 82 args h = (viewArgs h args).bind fun a => (pureV E (om E) 82 (!V.flatL args) a).map fun r => (r, h) := callV_pure rfl rfl args h
@[simp] theorem hint_82_0 : E.hint 82 3 = [.forget 5, .forget 12, .forget 13, .forget 14, .forget 15, .forget 16, .forget 17, .forget 18, .forget 19, .forget 20, .forget 21, .forget 22] := rfl
@[simp] theorem hint_82_1 : E.hint 82 11 = [.promote 6 2, .forget 8, .forget 28, .forget 29, .forget 30, .forget 31, .forget 32, .forget 33, .forget 34] := rfl

/-! 83: playpen/little.end -/
attribute [simp] Tryz.results83
theorem pu_83 {lent : Bool} {args : List V} {r : V} (hr : evK E (om E) 83 [] (Tryz.f83.body.getD .skip) (endK Tryz.prog Tryz.f83.results.toList (pureFin lent)) (args ++ pois (10 - args.length)) [[]] = some r) : pureV E (om E) 83 lent args = some r := pureV_of (dyn := []) rfl (by rw [E_P]; exact Tryz.func83) (by unfold Tryz.f83; rfl) (by kernel_rfl) (by rw [Tryz.ntmps83]; exact hr)
@[simp] theorem call_83 (args : List V) (h : Heap) : callV E (om E) 83 args h = (viewArgs h args).bind fun a => (pureV E (om E) 83 (!V.flatL args) a).map fun r => (r, h) := callV_pure rfl rfl args h

/-! 84: slices.Clone[[]byte,byte] -/
attribute [simp] Tryz.results84
@[simp] theorem call_84 (args : List V) (h : Heap) : callV E (om E) 84 args h = cloneW 1 args h := callV_known rfl args h

/-! 85: playpen/isa.through -/
attribute [simp] Tryz.results85
theorem bo_85 {args : List V} {h : Heap} {r : V × Heap} (hr : evK E (om E) 85 [] (Tryz.f85.body.getD .skip) (endK Tryz.prog Tryz.f85.results.toList bodyFin) (args ++ pois (6 - args.length)) h = some r) : bodyV E (om E) 85 args h = some r := bodyV_of (dyn := []) rfl (by rw [E_P]; exact Tryz.func85) (by unfold Tryz.f85; rfl) (by kernel_rfl) (by rw [Tryz.ntmps85]; exact hr)
theorem call_85 (args : List V) (h : Heap) : callV E (om E) 85 args h = (bodyV E (om E) 85 (V.upL 1 args) ([] :: h)).bind fun x => some (V.out (Heap.top x.2.tail).length x.1, Heap.setTop x.2.tail (Heap.top x.2.tail ++ x.2.top.map (outBlk (Heap.top x.2.tail).length))) := callV_live rfl rfl args h

/-! 86: playpen/isa.Decode$1 -/
attribute [simp] Tryz.results86
theorem bo_86 {args : List V} {h : Heap} {r : V × Heap} (hr : evK E (om E) 86 [] (Tryz.f86.body.getD .skip) (endK Tryz.prog Tryz.f86.results.toList bodyFin) (args ++ pois (8 - args.length)) h = some r) : bodyV E (om E) 86 args h = some r := bodyV_of (dyn := []) rfl (by rw [E_P]; exact Tryz.func86) (by unfold Tryz.f86; rfl) (by kernel_rfl) (by rw [Tryz.ntmps86]; exact hr)
theorem he_86 {args : List V} {h : Heap} {r : V × Heap} (hr : evK E (om E) 86 [] (Tryz.f86.body.getD .skip) (endK Tryz.prog Tryz.f86.results.toList heapFin) (V.upL 1 args ++ pois (8 - (V.upL 1 args).length)) ([] :: h) = some r) : callV E (om E) 86 args h = some r := heap_of (dyn := []) rfl rfl rfl (by rw [E_P]; exact Tryz.func86) (by unfold Tryz.f86; rfl) (by kernel_rfl) (by rw [Tryz.ntmps86]; exact hr)
theorem call_86 (args : List V) (h : Heap) : callV E (om E) 86 args h = (bodyV E (om E) 86 (V.upL 1 args) ([] :: h)).bind fun x => (V.freeze [x.2.top] x.1).bind fun r' => some (r', x.2.tail) := callV_heap rfl rfl args h

/-! 87: playpen/little.At[uint32] -/
attribute [simp] Tryz.results87
theorem pu_87 {lent : Bool} {args : List V} {r : V} (hr : evK E (om E) 87 [] (Tryz.f87.body.getD .skip) (endK Tryz.prog Tryz.f87.results.toList (pureFin lent)) (args ++ pois (14 - args.length)) [[]] = some r) : pureV E (om E) 87 lent args = some r := pureV_of (dyn := []) rfl (by rw [E_P]; exact Tryz.func87) (by unfold Tryz.f87; rfl) (by kernel_rfl) (by rw [Tryz.ntmps87]; exact hr)
@[simp] theorem call_87 (args : List V) (h : Heap) : callV E (om E) 87 args h = (viewArgs h args).bind fun a => (pureV E (om E) 87 (!V.flatL args) a).map fun r => (r, h) := callV_pure rfl rfl args h

/-! 88: playpen/little.width[uint32] -/
attribute [simp] Tryz.results88
theorem pu_88 {lent : Bool} {args : List V} {r : V} (hr : evK E (om E) 88 [] (Tryz.f88.body.getD .skip) (endK Tryz.prog Tryz.f88.results.toList (pureFin lent)) (args ++ pois (14 - args.length)) [[]] = some r) : pureV E (om E) 88 lent args = some r := pureV_of (dyn := []) rfl (by rw [E_P]; exact Tryz.func88) (by unfold Tryz.f88; rfl) (by kernel_rfl) (by rw [Tryz.ntmps88]; exact hr)
@[simp] theorem call_88 (args : List V) (h : Heap) : callV E (om E) 88 args h = (viewArgs h args).bind fun a => (pureV E (om E) 88 (!V.flatL args) a).map fun r => (r, h) := callV_pure rfl rfl args h
@[simp] theorem hint_88_0 : E.hint 88 3 = [.forget 5, .forget 6, .forget 7, .forget 8, .forget 9, .forget 10, .forget 11, .forget 12] := rfl

/-! 89: playpen/little.take[uint32] -/
attribute [simp] Tryz.results89
theorem pu_89 {lent : Bool} {args : List V} {r : V} (hr : evK E (om E) 89 [] (Tryz.f89.body.getD .skip) (endK Tryz.prog Tryz.f89.results.toList (pureFin lent)) (args ++ pois (22 - args.length)) [[]] = some r) : pureV E (om E) 89 lent args = some r := pureV_of (dyn := []) rfl (by rw [E_P]; exact Tryz.func89) (by unfold Tryz.f89; rfl) (by kernel_rfl) (by rw [Tryz.ntmps89]; exact hr)
@[simp] theorem call_89 (args : List V) (h : Heap) : callV E (om E) 89 args h = (viewArgs h args).bind fun a => (pureV E (om E) 89 (!V.flatL args) a).map fun r => (r, h) := callV_pure rfl rfl args h
@[simp] theorem hint_89_0 : E.hint 89 3 = [.forget 4, .forget 7, .forget 8, .forget 9, .forget 10, .forget 11, .forget 12, .forget 13, .forget 14, .forget 15, .forget 16, .forget 17, .forget 18, .forget 19] := rfl

/-! 90: (*playpen/procs.Procs).Legal -/
attribute [simp] Tryz.results90
theorem pu_90 {lent : Bool} {args : List V} {r : V} (hr : evK E (om E) 90 [] (Tryz.f90.body.getD .skip) (endK Tryz.prog Tryz.f90.results.toList (pureFin lent)) (args ++ pois (28 - args.length)) [[]] = some r) : pureV E (om E) 90 lent args = some r := pureV_of (dyn := []) rfl (by rw [E_P]; exact Tryz.func90) (by unfold Tryz.f90; rfl) (by kernel_rfl) (by rw [Tryz.ntmps90]; exact hr)
@[simp] theorem call_90 (args : List V) (h : Heap) : callV E (om E) 90 args h = (viewArgs h args).bind fun a => (pureV E (om E) 90 (!V.flatL args) a).map fun r => (r, h) := callV_pure rfl rfl args h

/-! 91: playpen/isa.rows -/
attribute [simp] Tryz.results91
theorem pu_91 {lent : Bool} {args : List V} {r : V} (hr : evK E (om E) 91 [] (Tryz.f91.body.getD .skip) (endK Tryz.prog Tryz.f91.results.toList (pureFin lent)) (args ++ pois (61 - args.length)) [[]] = some r) : pureV E (om E) 91 lent args = some r := pureV_of (dyn := []) rfl (by rw [E_P]; exact Tryz.func91) (by unfold Tryz.f91; rfl) (by kernel_rfl) (by rw [Tryz.ntmps91]; exact hr)
@[simp] theorem call_91 (args : List V) (h : Heap) : callV E (om E) 91 args h = (viewArgs h args).bind fun a => (pureV E (om E) 91 (!V.flatL args) a).map fun r => (r, h) := callV_pure rfl rfl args h

/-! 92: math/bits.Mul -/
attribute [simp] Tryz.results92
theorem pu_92 {lent : Bool} {args : List V} {r : V} (hr : evK E (om E) 92 [] (Tryz.f92.body.getD .skip) (endK Tryz.prog Tryz.f92.results.toList (pureFin lent)) (args ++ pois (30 - args.length)) [[]] = some r) : pureV E (om E) 92 lent args = some r := pureV_of (dyn := []) rfl (by rw [E_P]; exact Tryz.func92) (by unfold Tryz.f92; rfl) (by kernel_rfl) (by rw [Tryz.ntmps92]; exact hr)
@[simp] theorem call_92 (args : List V) (h : Heap) : callV E (om E) 92 args h = (viewArgs h args).bind fun a => (pureV E (om E) 92 (!V.flatL args) a).map fun r => (r, h) := callV_pure rfl rfl args h

/-! 93: (*playpen/procs.Procs).All$1 -/
attribute [simp] Tryz.results93
theorem bo_93 {args : List V} {h : Heap} {r : V × Heap} (hr : evK E (om E) 93 [] (Tryz.f93.body.getD .skip) (endK Tryz.prog Tryz.f93.results.toList bodyFin) (args ++ pois (23 - args.length)) h = some r) : bodyV E (om E) 93 args h = some r := bodyV_of (dyn := []) rfl (by rw [E_P]; exact Tryz.func93) (by unfold Tryz.f93; rfl) (by kernel_rfl) (by rw [Tryz.ntmps93]; exact hr)
theorem he_93 {args : List V} {h : Heap} {r : V × Heap} (hr : evK E (om E) 93 [] (Tryz.f93.body.getD .skip) (endK Tryz.prog Tryz.f93.results.toList heapFin) (V.upL 1 args ++ pois (23 - (V.upL 1 args).length)) ([] :: h) = some r) : callV E (om E) 93 args h = some r := heap_of (dyn := []) rfl rfl rfl (by rw [E_P]; exact Tryz.func93) (by unfold Tryz.f93; rfl) (by kernel_rfl) (by rw [Tryz.ntmps93]; exact hr)
theorem call_93 (args : List V) (h : Heap) : callV E (om E) 93 args h = (bodyV E (om E) 93 (V.upL 1 args) ([] :: h)).bind fun x => (V.freeze [x.2.top] x.1).bind fun r' => some (r', x.2.tail) := callV_heap rfl rfl args h
@[simp] theorem hint_93_0 : E.hint 93 2 = [.forget 3, .forget 4, .forget 13, .forget 14, .forget 15, .forget 16, .forget 17, .forget 18, .forget 19, .forget 20, .forget 21, .forget 22] := rfl

/-! 94: (playpen/flow.indices).Len -/
attribute [simp] Tryz.results94
theorem pu_94 {lent : Bool} {args : List V} {r : V} (hr : evK E (om E) 94 [] (Tryz.f94.body.getD .skip) (endK Tryz.prog Tryz.f94.results.toList (pureFin lent)) (args ++ pois (5 - args.length)) [[]] = some r) : pureV E (om E) 94 lent args = some r := pureV_of (dyn := []) rfl (by rw [E_P]; exact Tryz.func94) (by unfold Tryz.f94; rfl) (by kernel_rfl) (by rw [Tryz.ntmps94]; exact hr)
@[simp] theorem call_94 (args : List V) (h : Heap) : callV E (om E) 94 args h = (viewArgs h args).bind fun a => (pureV E (om E) 94 (!V.flatL args) a).map fun r => (r, h) := callV_pure rfl rfl args h

/-! 95: container/heap.Pop -/
attribute [simp] Tryz.results95
theorem bo_95 {args : List V} {h : Heap} {r : V × Heap} (hr : evK E (om E) 95 [] (Tryz.f95.body.getD .skip) (endK Tryz.prog Tryz.f95.results.toList bodyFin) (args ++ pois (15 - args.length)) h = some r) : bodyV E (om E) 95 args h = some r := bodyV_of (dyn := []) rfl (by rw [E_P]; exact Tryz.func95) (by unfold Tryz.f95; rfl) (by kernel_rfl) (by rw [Tryz.ntmps95]; exact hr)
theorem he_95 {args : List V} {h : Heap} {r : V × Heap} (hr : evK E (om E) 95 [] (Tryz.f95.body.getD .skip) (endK Tryz.prog Tryz.f95.results.toList heapFin) (V.upL 1 args ++ pois (15 - (V.upL 1 args).length)) ([] :: h) = some r) : callV E (om E) 95 args h = some r := heap_of (dyn := []) rfl rfl rfl (by rw [E_P]; exact Tryz.func95) (by unfold Tryz.f95; rfl) (by kernel_rfl) (by rw [Tryz.ntmps95]; exact hr)
theorem call_95 (args : List V) (h : Heap) : callV E (om E) 95 args h = (bodyV E (om E) 95 (V.upL 1 args) ([] :: h)).bind fun x => (V.freeze [x.2.top] x.1).bind fun r' => some (r', x.2.tail) := callV_heap rfl rfl args h

/-! 96: (*playpen/flow.graph).info -/
attribute [simp] Tryz.results96
theorem pu_96 {lent : Bool} {args : List V} {r : V} (hr : evK E (om E) 96 [] (Tryz.f96.body.getD .skip) (endK Tryz.prog Tryz.f96.results.toList (pureFin lent)) (args ++ pois (20 - args.length)) [[]] = some r) : pureV E (om E) 96 lent args = some r := pureV_of (dyn := []) rfl (by rw [E_P]; exact Tryz.func96) (by unfold Tryz.f96; rfl) (by kernel_rfl) (by rw [Tryz.ntmps96]; exact hr)
@[simp] theorem call_96 (args : List V) (h : Heap) : callV E (om E) 96 args h = (viewArgs h args).bind fun a => (pureV E (om E) 96 (!V.flatL args) a).map fun r => (r, h) := callV_pure rfl rfl args h

/-! 97: (*playpen/flow.graph).next -/
attribute [simp] Tryz.results97
theorem pu_97 {lent : Bool} {args : List V} {r : V} (hr : evK E (om E) 97 [] (Tryz.f97.body.getD .skip) (endK Tryz.prog Tryz.f97.results.toList (pureFin lent)) (args ++ pois (58 - args.length)) [[]] = some r) : pureV E (om E) 97 lent args = some r := pureV_of (dyn := []) rfl (by rw [E_P]; exact Tryz.func97) (by unfold Tryz.f97; rfl) (by kernel_rfl) (by rw [Tryz.ntmps97]; exact hr)
@[simp] theorem call_97 (args : List V) (h : Heap) : callV E (om E) 97 args h = (viewArgs h args).bind fun a => (pureV E (om E) 97 (!V.flatL args) a).map fun r => (r, h) := callV_pure rfl rfl args h

/-! 98: container/heap.Push -/
attribute [simp] Tryz.results98
theorem bo_98 {args : List V} {h : Heap} {r : V × Heap} (hr : evK E (om E) 98 [] (Tryz.f98.body.getD .skip) (endK Tryz.prog Tryz.f98.results.toList bodyFin) (args ++ pois (12 - args.length)) h = some r) : bodyV E (om E) 98 args h = some r := bodyV_of (dyn := []) rfl (by rw [E_P]; exact Tryz.func98) (by unfold Tryz.f98; rfl) (by kernel_rfl) (by rw [Tryz.ntmps98]; exact hr)
theorem he_98 {args : List V} {h : Heap} {r : V × Heap} (hr : evK E (om E) 98 [] (Tryz.f98.body.getD .skip) (endK Tryz.prog Tryz.f98.results.toList heapFin) (V.upL 1 args ++ pois (12 - (V.upL 1 args).length)) ([] :: h) = some r) : callV E (om E) 98 args h = some r := heap_of (dyn := []) rfl rfl rfl (by rw [E_P]; exact Tryz.func98) (by unfold Tryz.f98; rfl) (by kernel_rfl) (by rw [Tryz.ntmps98]; exact hr)
theorem call_98 (args : List V) (h : Heap) : callV E (om E) 98 args h = (bodyV E (om E) 98 (V.upL 1 args) ([] :: h)).bind fun x => (V.freeze [x.2.top] x.1).bind fun r' => some (r', x.2.tail) := callV_heap rfl rfl args h

/-! 99: playpen/little.width[uint8] -/
attribute [simp] Tryz.results99
theorem pu_99 {lent : Bool} {args : List V} {r : V} (hr : evK E (om E) 99 [] (Tryz.f99.body.getD .skip) (endK Tryz.prog Tryz.f99.results.toList (pureFin lent)) (args ++ pois (14 - args.length)) [[]] = some r) : pureV E (om E) 99 lent args = some r := pureV_of (dyn := []) rfl (by rw [E_P]; exact Tryz.func99) (by unfold Tryz.f99; rfl) (by kernel_rfl) (by rw [Tryz.ntmps99]; exact hr)
@[simp] theorem call_99 (args : List V) (h : Heap) : callV E (om E) 99 args h = (viewArgs h args).bind fun a => (pureV E (om E) 99 (!V.flatL args) a).map fun r => (r, h) := callV_pure rfl rfl args h
@[simp] theorem hint_99_0 : E.hint 99 3 = [.forget 5, .forget 6, .forget 7, .forget 8, .forget 9, .forget 10, .forget 11, .forget 12] := rfl

/-! 100: playpen/little.has[uint32] -/
attribute [simp] Tryz.results100
theorem pu_100 {lent : Bool} {args : List V} {r : V} (hr : evK E (om E) 100 [] (Tryz.f100.body.getD .skip) (endK Tryz.prog Tryz.f100.results.toList (pureFin lent)) (args ++ pois (15 - args.length)) [[]] = some r) : pureV E (om E) 100 lent args = some r := pureV_of (dyn := []) rfl (by rw [E_P]; exact Tryz.func100) (by unfold Tryz.f100; rfl) (by kernel_rfl) (by rw [Tryz.ntmps100]; exact hr)
@[simp] theorem call_100 (args : List V) (h : Heap) : callV E (om E) 100 args h = (viewArgs h args).bind fun a => (pureV E (om E) 100 (!V.flatL args) a).map fun r => (r, h) := callV_pure rfl rfl args h

/-! 101: playpen/little.Lap -/
attribute [simp] Tryz.results101
theorem pu_101 {lent : Bool} {args : List V} {r : V} (hr : evK E (om E) 101 [] (Tryz.f101.body.getD .skip) (endK Tryz.prog Tryz.f101.results.toList (pureFin lent)) (args ++ pois (29 - args.length)) [[]] = some r) : pureV E (om E) 101 lent args = some r := pureV_of (dyn := []) rfl (by rw [E_P]; exact Tryz.func101) (by unfold Tryz.f101; rfl) (by kernel_rfl) (by rw [Tryz.ntmps101]; exact hr)
@[simp] theorem call_101 (args : List V) (h : Heap) : callV E (om E) 101 args h = (viewArgs h args).bind fun a => (pureV E (om E) 101 (!V.flatL args) a).map fun r => (r, h) := callV_pure rfl rfl args h

/-! 102: slices.Grow[[]playpen/api.Span,playpen/api.Span] -/
attribute [simp] Tryz.results102
theorem bo_102 {args : List V} {h : Heap} {r : V × Heap} (hr : evK E (om E) 102 [] (Tryz.f102.body.getD .skip) (endK Tryz.prog Tryz.f102.results.toList bodyFin) (args ++ pois (27 - args.length)) h = some r) : bodyV E (om E) 102 args h = some r := bodyV_of (dyn := []) rfl (by rw [E_P]; exact Tryz.func102) (by unfold Tryz.f102; rfl) (by kernel_rfl) (by rw [Tryz.ntmps102]; exact hr)
theorem call_102 (args : List V) (h : Heap) : callV E (om E) 102 args h = (bodyV E (om E) 102 (V.upL 1 args) ([] :: h)).bind fun x => some (V.out (Heap.top x.2.tail).length x.1, Heap.setTop x.2.tail (Heap.top x.2.tail ++ x.2.top.map (outBlk (Heap.top x.2.tail).length))) := callV_live rfl rfl args h

/-! 103: playpen/isa.through$1 -/
attribute [simp] Tryz.results103
theorem bo_103 {args : List V} {h : Heap} {r : V × Heap} (hr : evK E (om E) 103 [] (Tryz.f103.body.getD .skip) (endK Tryz.prog Tryz.f103.results.toList bodyFin) (args ++ pois (43 - args.length)) h = some r) : bodyV E (om E) 103 args h = some r := bodyV_of (dyn := []) rfl (by rw [E_P]; exact Tryz.func103) (by unfold Tryz.f103; rfl) (by kernel_rfl) (by rw [Tryz.ntmps103]; exact hr)
theorem he_103 {args : List V} {h : Heap} {r : V × Heap} (hr : evK E (om E) 103 [] (Tryz.f103.body.getD .skip) (endK Tryz.prog Tryz.f103.results.toList heapFin) (V.upL 1 args ++ pois (43 - (V.upL 1 args).length)) ([] :: h) = some r) : callV E (om E) 103 args h = some r := heap_of (dyn := []) rfl rfl rfl (by rw [E_P]; exact Tryz.func103) (by unfold Tryz.f103; rfl) (by kernel_rfl) (by rw [Tryz.ntmps103]; exact hr)
theorem call_103 (args : List V) (h : Heap) : callV E (om E) 103 args h = (bodyV E (om E) 103 (V.upL 1 args) ([] :: h)).bind fun x => (V.freeze [x.2.top] x.1).bind fun r' => some (r', x.2.tail) := callV_heap rfl rfl args h
@[simp] theorem hint_103_0 : E.hint 103 2 = [.forget 6, .forget 7, .forget 8, .forget 9, .forget 10, .forget 11, .forget 12, .forget 13, .forget 14, .forget 15, .forget 16, .forget 17, .forget 18, .forget 19, .forget 20, .forget 21, .forget 22, .forget 23, .forget 24, .forget 25, .forget 26, .forget 27, .forget 28, .forget 29, .forget 30, .forget 31, .forget 32, .forget 33, .forget 34, .forget 35, .forget 36, .forget 37, .forget 38, .forget 39, .forget 40] := rfl

/-! 104: playpen/isa.read -/
attribute [simp] Tryz.results104
theorem pu_104 {lent : Bool} {args : List V} {r : V} (hr : evK E (om E) 104 [13] (Tryz.f104.body.getD .skip) (endK Tryz.prog Tryz.f104.results.toList (pureFin lent)) (args ++ pois (64 - args.length)) [[]] = some r) : pureV E (om E) 104 lent args = some r := pureV_of (dyn := [13]) rfl (by rw [E_P]; exact Tryz.func104) (by unfold Tryz.f104; rfl) (by kernel_rfl) (by rw [Tryz.ntmps104]; exact hr)
@[simp] theorem call_104 (args : List V) (h : Heap) : callV E (om E) 104 args h = (viewArgs h args).bind fun a => (pureV E (om E) 104 (!V.flatL args) a).map fun r => (r, h) := callV_pure rfl rfl args h
@[simp] theorem hint_104_0 : E.hint 104 8 = [.forget 38, .forget 39, .forget 40, .forget 41, .forget 42, .forget 43, .forget 44, .forget 45, .forget 46, .forget 47, .forget 48, .forget 49, .forget 50, .forget 51, .forget 52, .forget 53] := rfl

/-! 105: slices.BinarySearch[[]uint32,uint32] -/
attribute [simp] Tryz.results105
theorem pu_105 {lent : Bool} {args : List V} {r : V} (hr : evK E (om E) 105 [] (Tryz.f105.body.getD .skip) (endK Tryz.prog Tryz.f105.results.toList (pureFin lent)) (args ++ pois (54 - args.length)) [[]] = some r) : pureV E (om E) 105 lent args = some r := pureV_of (dyn := []) rfl (by rw [E_P]; exact Tryz.func105) (by unfold Tryz.f105; rfl) (by kernel_rfl) (by rw [Tryz.ntmps105]; exact hr)
@[simp] theorem call_105 (args : List V) (h : Heap) : callV E (om E) 105 args h = (viewArgs h args).bind fun a => (pureV E (om E) 105 (!V.flatL args) a).map fun r => (r, h) := callV_pure rfl rfl args h
@[simp] theorem hint_105_0 : E.hint 105 3 = [.forget 9, .forget 13, .forget 14, .forget 15, .forget 16, .forget 17, .forget 18, .forget 19, .forget 20, .forget 21, .forget 22, .forget 23, .forget 24, .forget 25, .forget 26, .forget 27, .forget 28, .forget 29, .forget 30] := rfl

/-! 106: math/bits.Mul32 -/
attribute [simp] Tryz.results106
theorem pu_106 {lent : Bool} {args : List V} {r : V} (hr : evK E (om E) 106 [] (Tryz.f106.body.getD .skip) (endK Tryz.prog Tryz.f106.results.toList (pureFin lent)) (args ++ pois (17 - args.length)) [[]] = some r) : pureV E (om E) 106 lent args = some r := pureV_of (dyn := []) rfl (by rw [E_P]; exact Tryz.func106) (by unfold Tryz.f106; rfl) (by kernel_rfl) (by rw [Tryz.ntmps106]; exact hr)
@[simp] theorem call_106 (args : List V) (h : Heap) : callV E (om E) 106 args h = (viewArgs h args).bind fun a => (pureV E (om E) 106 (!V.flatL args) a).map fun r => (r, h) := callV_pure rfl rfl args h

/-! 107: math/bits.Mul64 -/
attribute [simp] Tryz.results107
theorem pu_107 {lent : Bool} {args : List V} {r : V} (hr : evK E (om E) 107 [] (Tryz.f107.body.getD .skip) (endK Tryz.prog Tryz.f107.results.toList (pureFin lent)) (args ++ pois (51 - args.length)) [[]] = some r) : pureV E (om E) 107 lent args = some r := pureV_of (dyn := []) rfl (by rw [E_P]; exact Tryz.func107) (by unfold Tryz.f107; rfl) (by kernel_rfl) (by rw [Tryz.ntmps107]; exact hr)
@[simp] theorem call_107 (args : List V) (h : Heap) : callV E (om E) 107 args h = (viewArgs h args).bind fun a => (pureV E (om E) 107 (!V.flatL args) a).map fun r => (r, h) := callV_pure rfl rfl args h

/-! 108: container/heap.down -/
attribute [simp] Tryz.results108
theorem bo_108 {args : List V} {h : Heap} {r : V × Heap} (hr : evK E (om E) 108 [] (Tryz.f108.body.getD .skip) (endK Tryz.prog Tryz.f108.results.toList bodyFin) (args ++ pois (48 - args.length)) h = some r) : bodyV E (om E) 108 args h = some r := bodyV_of (dyn := []) rfl (by rw [E_P]; exact Tryz.func108) (by unfold Tryz.f108; rfl) (by kernel_rfl) (by rw [Tryz.ntmps108]; exact hr)
theorem he_108 {args : List V} {h : Heap} {r : V × Heap} (hr : evK E (om E) 108 [] (Tryz.f108.body.getD .skip) (endK Tryz.prog Tryz.f108.results.toList heapFin) (V.upL 1 args ++ pois (48 - (V.upL 1 args).length)) ([] :: h) = some r) : callV E (om E) 108 args h = some r := heap_of (dyn := []) rfl rfl rfl (by rw [E_P]; exact Tryz.func108) (by unfold Tryz.f108; rfl) (by kernel_rfl) (by rw [Tryz.ntmps108]; exact hr)
theorem call_108 (args : List V) (h : Heap) : callV E (om E) 108 args h = (bodyV E (om E) 108 (V.upL 1 args) ([] :: h)).bind fun x => (V.freeze [x.2.top] x.1).bind fun r' => some (r', x.2.tail) := callV_heap rfl rfl args h
@[simp] theorem hint_108_0 : E.hint 108 2 = [.forget 8, .forget 9, .forget 10, .forget 12, .forget 13, .forget 14, .forget 15, .forget 16, .forget 17, .forget 18, .forget 19, .forget 20, .forget 21, .forget 22, .forget 23, .forget 24, .forget 25, .forget 26, .forget 27, .forget 28, .forget 29, .forget 30, .forget 31, .forget 32, .forget 33, .forget 34, .forget 35, .forget 36, .forget 37, .forget 38, .forget 39, .forget 40, .forget 41, .forget 42, .forget 43, .forget 44] := rfl

/-! 109: slices.Compact[[]uint32,uint32] -/
attribute [simp] Tryz.results109
theorem bo_109 {args : List V} {h : Heap} {r : V × Heap} (hr : evK E (om E) 109 [] (Tryz.f109.body.getD .skip) (endK Tryz.prog Tryz.f109.results.toList bodyFin) (args ++ pois (61 - args.length)) h = some r) : bodyV E (om E) 109 args h = some r := bodyV_of (dyn := []) rfl (by rw [E_P]; exact Tryz.func109) (by unfold Tryz.f109; rfl) (by kernel_rfl) (by rw [Tryz.ntmps109]; exact hr)
theorem he_109 {args : List V} {h : Heap} {r : V × Heap} (hr : evK E (om E) 109 [] (Tryz.f109.body.getD .skip) (endK Tryz.prog Tryz.f109.results.toList heapFin) (V.upL 1 args ++ pois (61 - (V.upL 1 args).length)) ([] :: h) = some r) : callV E (om E) 109 args h = some r := heap_of (dyn := []) rfl rfl rfl (by rw [E_P]; exact Tryz.func109) (by unfold Tryz.f109; rfl) (by kernel_rfl) (by rw [Tryz.ntmps109]; exact hr)
theorem call_109 (args : List V) (h : Heap) : callV E (om E) 109 args h = (bodyV E (om E) 109 (V.upL 1 args) ([] :: h)).bind fun x => (V.freeze [x.2.top] x.1).bind fun r' => some (r', x.2.tail) := callV_heap rfl rfl args h
@[simp] theorem hint_109_0 : E.hint 109 4 = [.forget 2, .forget 4, .forget 5, .forget 10, .forget 11, .forget 12, .forget 13, .forget 14, .forget 15, .forget 16, .forget 17, .forget 18, .forget 19, .forget 20, .forget 21, .forget 22, .forget 23, .forget 24, .forget 25, .forget 26, .forget 27, .forget 28, .forget 29, .forget 30, .forget 31, .forget 32, .forget 33, .forget 34, .forget 35, .forget 36, .forget 37, .forget 38, .forget 39, .forget 40, .forget 41, .forget 42, .forget 43, .forget 44, .forget 45, .forget 46, .forget 47, .forget 48, .forget 49, .forget 50, .forget 51, .forget 52, .forget 53, .forget 54, .forget 55, .forget 56, .forget 57, .forget 58, .forget 59] := rfl
@[simp] theorem hint_109_1 : E.hint 109 9 = [.forget 29, .forget 30, .forget 31, .forget 32, .forget 33, .forget 34, .forget 35, .forget 36, .forget 37, .forget 38, .forget 39, .forget 40, .forget 41, .forget 42, .forget 43, .forget 44, .forget 45, .forget 46, .forget 47, .forget 48, .forget 49, .forget 50, .forget 51, .forget 52, .forget 53] := rfl

/-! 110: (*playpen/procs.Procs).Targets -/
attribute [simp] Tryz.results110
theorem pu_110 {lent : Bool} {args : List V} {r : V} (hr : evK E (om E) 110 [] (Tryz.f110.body.getD .skip) (endK Tryz.prog Tryz.f110.results.toList (pureFin lent)) (args ++ pois (23 - args.length)) [[]] = some r) : pureV E (om E) 110 lent args = some r := pureV_of (dyn := []) rfl (by rw [E_P]; exact Tryz.func110) (by unfold Tryz.f110; rfl) (by kernel_rfl) (by rw [Tryz.ntmps110]; exact hr)
@[simp] theorem call_110 (args : List V) (h : Heap) : callV E (om E) 110 args h = (viewArgs h args).bind fun a => (pureV E (om E) 110 (!V.flatL args) a).map fun r => (r, h) := callV_pure rfl rfl args h

/-! 111: container/heap.up -/
attribute [simp] Tryz.results111
theorem bo_111 {args : List V} {h : Heap} {r : V × Heap} (hr : evK E (om E) 111 [] (Tryz.f111.body.getD .skip) (endK Tryz.prog Tryz.f111.results.toList bodyFin) (args ++ pois (23 - args.length)) h = some r) : bodyV E (om E) 111 args h = some r := bodyV_of (dyn := []) rfl (by rw [E_P]; exact Tryz.func111) (by unfold Tryz.f111; rfl) (by kernel_rfl) (by rw [Tryz.ntmps111]; exact hr)
theorem he_111 {args : List V} {h : Heap} {r : V × Heap} (hr : evK E (om E) 111 [] (Tryz.f111.body.getD .skip) (endK Tryz.prog Tryz.f111.results.toList heapFin) (V.upL 1 args ++ pois (23 - (V.upL 1 args).length)) ([] :: h) = some r) : callV E (om E) 111 args h = some r := heap_of (dyn := []) rfl rfl rfl (by rw [E_P]; exact Tryz.func111) (by unfold Tryz.f111; rfl) (by kernel_rfl) (by rw [Tryz.ntmps111]; exact hr)
theorem call_111 (args : List V) (h : Heap) : callV E (om E) 111 args h = (bodyV E (om E) 111 (V.upL 1 args) ([] :: h)).bind fun x => (V.freeze [x.2.top] x.1).bind fun r' => some (r', x.2.tail) := callV_heap rfl rfl args h
@[simp] theorem hint_111_0 : E.hint 111 0 = [.forget 4, .forget 5, .forget 6, .forget 7, .forget 8, .forget 9, .forget 10, .forget 11, .forget 12, .forget 13, .forget 14, .forget 15, .forget 16, .forget 17, .forget 18, .forget 19, .forget 20, .forget 21, .forget 22] := rfl

/-! 112: cmp.Less[uint32] -/
attribute [simp] Tryz.results112
theorem pu_112 {lent : Bool} {args : List V} {r : V} (hr : evK E (om E) 112 [] (Tryz.f112.body.getD .skip) (endK Tryz.prog Tryz.f112.results.toList (pureFin lent)) (args ++ pois (17 - args.length)) [[]] = some r) : pureV E (om E) 112 lent args = some r := pureV_of (dyn := []) rfl (by rw [E_P]; exact Tryz.func112) (by unfold Tryz.f112; rfl) (by kernel_rfl) (by rw [Tryz.ntmps112]; exact hr)
@[simp] theorem call_112 (args : List V) (h : Heap) : callV E (om E) 112 args h = (viewArgs h args).bind fun a => (pureV E (om E) 112 (!V.flatL args) a).map fun r => (r, h) := callV_pure rfl rfl args h

/-! 113: slices.isNaN[uint32] -/
attribute [simp] Tryz.results113
theorem pu_113 {lent : Bool} {args : List V} {r : V} (hr : evK E (om E) 113 [] (Tryz.f113.body.getD .skip) (endK Tryz.prog Tryz.f113.results.toList (pureFin lent)) (args ++ pois (6 - args.length)) [[]] = some r) : pureV E (om E) 113 lent args = some r := pureV_of (dyn := []) rfl (by rw [E_P]; exact Tryz.func113) (by unfold Tryz.f113; rfl) (by kernel_rfl) (by rw [Tryz.ntmps113]; exact hr)
@[simp] theorem call_113 (args : List V) (h : Heap) : callV E (om E) 113 args h = (viewArgs h args).bind fun a => (pureV E (om E) 113 (!V.flatL args) a).map fun r => (r, h) := callV_pure rfl rfl args h

/-! 114: cmp.isNaN[uint32] -/
attribute [simp] Tryz.results114
theorem pu_114 {lent : Bool} {args : List V} {r : V} (hr : evK E (om E) 114 [] (Tryz.f114.body.getD .skip) (endK Tryz.prog Tryz.f114.results.toList (pureFin lent)) (args ++ pois (6 - args.length)) [[]] = some r) : pureV E (om E) 114 lent args = some r := pureV_of (dyn := []) rfl (by rw [E_P]; exact Tryz.func114) (by unfold Tryz.f114; rfl) (by kernel_rfl) (by rw [Tryz.ntmps114]; exact hr)
@[simp] theorem call_114 (args : List V) (h : Heap) : callV E (om E) 114 args h = (viewArgs h args).bind fun a => (pureV E (om E) 114 (!V.flatL args) a).map fun r => (r, h) := callV_pure rfl rfl args h

/-! 133: (playpen/flow.indices).Less -/
attribute [simp] Tryz.results133
theorem pu_133 {lent : Bool} {args : List V} {r : V} (hr : evK E (om E) 133 [] (Tryz.f133.body.getD .skip) (endK Tryz.prog Tryz.f133.results.toList (pureFin lent)) (args ++ pois (16 - args.length)) [[]] = some r) : pureV E (om E) 133 lent args = some r := pureV_of (dyn := []) rfl (by rw [E_P]; exact Tryz.func133) (by unfold Tryz.f133; rfl) (by kernel_rfl) (by rw [Tryz.ntmps133]; exact hr)
@[simp] theorem call_133 (args : List V) (h : Heap) : callV E (om E) 133 args h = (viewArgs h args).bind fun a => (pureV E (om E) 133 (!V.flatL args) a).map fun r => (r, h) := callV_pure rfl rfl args h

/-! 134: (*playpen/flow.indices).Pop -/
attribute [simp] Tryz.results134
theorem bo_134 {args : List V} {h : Heap} {r : V × Heap} (hr : evK E (om E) 134 [] (Tryz.f134.body.getD .skip) (endK Tryz.prog Tryz.f134.results.toList bodyFin) (args ++ pois (27 - args.length)) h = some r) : bodyV E (om E) 134 args h = some r := bodyV_of (dyn := []) rfl (by rw [E_P]; exact Tryz.func134) (by unfold Tryz.f134; rfl) (by kernel_rfl) (by rw [Tryz.ntmps134]; exact hr)
theorem he_134 {args : List V} {h : Heap} {r : V × Heap} (hr : evK E (om E) 134 [] (Tryz.f134.body.getD .skip) (endK Tryz.prog Tryz.f134.results.toList heapFin) (V.upL 1 args ++ pois (27 - (V.upL 1 args).length)) ([] :: h) = some r) : callV E (om E) 134 args h = some r := heap_of (dyn := []) rfl rfl rfl (by rw [E_P]; exact Tryz.func134) (by unfold Tryz.f134; rfl) (by kernel_rfl) (by rw [Tryz.ntmps134]; exact hr)
theorem call_134 (args : List V) (h : Heap) : callV E (om E) 134 args h = (bodyV E (om E) 134 (V.upL 1 args) ([] :: h)).bind fun x => (V.freeze [x.2.top] x.1).bind fun r' => some (r', x.2.tail) := callV_heap rfl rfl args h

/-! 135: (*playpen/flow.indices).Push -/
attribute [simp] Tryz.results135
theorem bo_135 {args : List V} {h : Heap} {r : V × Heap} (hr : evK E (om E) 135 [] (Tryz.f135.body.getD .skip) (endK Tryz.prog Tryz.f135.results.toList bodyFin) (args ++ pois (13 - args.length)) h = some r) : bodyV E (om E) 135 args h = some r := bodyV_of (dyn := []) rfl (by rw [E_P]; exact Tryz.func135) (by unfold Tryz.f135; rfl) (by kernel_rfl) (by rw [Tryz.ntmps135]; exact hr)
theorem he_135 {args : List V} {h : Heap} {r : V × Heap} (hr : evK E (om E) 135 [] (Tryz.f135.body.getD .skip) (endK Tryz.prog Tryz.f135.results.toList heapFin) (V.upL 1 args ++ pois (13 - (V.upL 1 args).length)) ([] :: h) = some r) : callV E (om E) 135 args h = some r := heap_of (dyn := []) rfl rfl rfl (by rw [E_P]; exact Tryz.func135) (by unfold Tryz.f135; rfl) (by kernel_rfl) (by rw [Tryz.ntmps135]; exact hr)
theorem call_135 (args : List V) (h : Heap) : callV E (om E) 135 args h = (bodyV E (om E) 135 (V.upL 1 args) ([] :: h)).bind fun x => (V.freeze [x.2.top] x.1).bind fun r' => some (r', x.2.tail) := callV_heap rfl rfl args h

/-! 136: (playpen/flow.indices).Swap -/
attribute [simp] Tryz.results136
theorem bo_136 {args : List V} {h : Heap} {r : V × Heap} (hr : evK E (om E) 136 [] (Tryz.f136.body.getD .skip) (endK Tryz.prog Tryz.f136.results.toList bodyFin) (args ++ pois (20 - args.length)) h = some r) : bodyV E (om E) 136 args h = some r := bodyV_of (dyn := []) rfl (by rw [E_P]; exact Tryz.func136) (by unfold Tryz.f136; rfl) (by kernel_rfl) (by rw [Tryz.ntmps136]; exact hr)
theorem he_136 {args : List V} {h : Heap} {r : V × Heap} (hr : evK E (om E) 136 [] (Tryz.f136.body.getD .skip) (endK Tryz.prog Tryz.f136.results.toList heapFin) (V.upL 1 args ++ pois (20 - (V.upL 1 args).length)) ([] :: h) = some r) : callV E (om E) 136 args h = some r := heap_of (dyn := []) rfl rfl rfl (by rw [E_P]; exact Tryz.func136) (by unfold Tryz.f136; rfl) (by kernel_rfl) (by rw [Tryz.ntmps136]; exact hr)
theorem call_136 (args : List V) (h : Heap) : callV E (om E) 136 args h = (bodyV E (om E) 136 (V.upL 1 args) ([] :: h)).bind fun x => (V.freeze [x.2.top] x.1).bind fun r' => some (r', x.2.tail) := callV_heap rfl rfl args h
end Go.Proofs.YtlachkeneeflaabGreat
end
