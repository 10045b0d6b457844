/-
  Facts of the types. Printed by program.
  The machine's settings over this seat's program. Printed by program.
-/
import Derived.Test.YtijfffbhhlmgmaaGreatDoorProg
import Derived.Test.YtijfffbhhlmgmaaGreatDoorMe
import Derived.KernelRfl
import Derived.Test.YtijfffbhhlmgmaaGreatDoorMh
section
namespace Go.Proofs.YtijfffbhhlmgmaaGreatDoor
open Go Go.Sim
set_option maxRecDepth 100000
set_option linter.unusedVariables false
set_option linter.unusedSimpArgs false
attribute [simp] Tryz.underlying0
@[simp] theorem agg_3 : isAggV Tryz.prog 3 = some false := by kernel_rfl
@[simp] theorem size_3 : sizeV Tryz.prog 3 = some 1 := by kernel_rfl
attribute [simp] Tryz.underlying3
attribute [simp] Tryz.underlying4
@[simp] theorem size_5 : sizeV Tryz.prog 5 = some 1 := by kernel_rfl
@[simp] theorem bytes_5 : bytesV Tryz.prog 5 = some 1 := by kernel_rfl
@[simp] theorem zero_5 : zeroV Tryz.prog 5 = some (.int .u8 0) := by kernel_rfl
attribute [simp] Tryz.underlying5
attribute [simp] Tryz.underlying9
@[simp] theorem agg_22 : isAggV Tryz.prog 22 = some false := by kernel_rfl
@[simp] theorem size_22 : sizeV Tryz.prog 22 = some 1 := by kernel_rfl
attribute [simp] Tryz.underlying22
@[simp] theorem agg_23 : isAggV Tryz.prog 23 = some false := by kernel_rfl
@[simp] theorem size_23 : sizeV Tryz.prog 23 = some 1 := by kernel_rfl
attribute [simp] Tryz.underlying23
@[simp] theorem agg_24 : isAggV Tryz.prog 24 = some false := by kernel_rfl
@[simp] theorem size_24 : sizeV Tryz.prog 24 = some 1 := by kernel_rfl
attribute [simp] Tryz.underlying24
@[simp] theorem agg_26 : isAggV Tryz.prog 26 = some true := by kernel_rfl
@[simp] theorem size_26 : sizeV Tryz.prog 26 = some 3 := by kernel_rfl
@[simp] theorem zero_26 : zeroV Tryz.prog 26 = some (.agg [.int .u64 0, .nilslice, .nilslice]) := by kernel_rfl
attribute [simp] Tryz.underlying26
@[simp] theorem agg_30 : isAggV Tryz.prog 30 = some false := by kernel_rfl
@[simp] theorem size_30 : sizeV Tryz.prog 30 = some 1 := by kernel_rfl
attribute [simp] Tryz.underlying30
@[simp] theorem agg_32 : isAggV Tryz.prog 32 = some true := by kernel_rfl
@[simp] theorem size_32 : sizeV Tryz.prog 32 = some 3 := by kernel_rfl
@[simp] theorem zero_32 : zeroV Tryz.prog 32 = some (.agg [.int .u8 0, .int .i64 0, .int .i64 0]) := by kernel_rfl
attribute [simp] Tryz.underlying32
attribute [simp] Tryz.underlying35
attribute [simp] Tryz.underlying36
@[simp] theorem agg_39 : isAggV Tryz.prog 39 = some false := by kernel_rfl
@[simp] theorem size_39 : sizeV Tryz.prog 39 = some 1 := by kernel_rfl
attribute [simp] Tryz.underlying39
@[simp] theorem agg_40 : isAggV Tryz.prog 40 = some false := by kernel_rfl
@[simp] theorem size_40 : sizeV Tryz.prog 40 = some 1 := by kernel_rfl
@[simp] theorem bytes_40 : bytesV Tryz.prog 40 = some 4 := by kernel_rfl
@[simp] theorem zero_40 : zeroV Tryz.prog 40 = some (.int .u32 0) := by kernel_rfl
attribute [simp] Tryz.underlying40
@[simp] theorem agg_41 : isAggV Tryz.prog 41 = some false := by kernel_rfl
@[simp] theorem size_41 : sizeV Tryz.prog 41 = some 1 := by kernel_rfl
attribute [simp] Tryz.underlying41
@[simp] theorem agg_42 : isAggV Tryz.prog 42 = some false := by kernel_rfl
@[simp] theorem size_42 : sizeV Tryz.prog 42 = some 1 := by kernel_rfl
attribute [simp] Tryz.underlying42
@[simp] theorem agg_43 : isAggV Tryz.prog 43 = some false := by kernel_rfl
@[simp] theorem size_43 : sizeV Tryz.prog 43 = some 1 := by kernel_rfl
attribute [simp] Tryz.underlying43
@[simp] theorem agg_44 : isAggV Tryz.prog 44 = some false := by kernel_rfl
@[simp] theorem size_44 : sizeV Tryz.prog 44 = some 1 := by kernel_rfl
attribute [simp] Tryz.underlying44
@[simp] theorem agg_45 : isAggV Tryz.prog 45 = some false := by kernel_rfl
@[simp] theorem size_45 : sizeV Tryz.prog 45 = some 1 := by kernel_rfl
attribute [simp] Tryz.underlying45
@[simp] theorem agg_47 : isAggV Tryz.prog 47 = some true := by kernel_rfl
@[simp] theorem size_47 : sizeV Tryz.prog 47 = some 4 := by kernel_rfl
@[simp] theorem bytes_47 : bytesV Tryz.prog 47 = some 40 := by kernel_rfl
@[simp] theorem zero_47 : zeroV Tryz.prog 47 = some (.agg [.int .u32 0, .int .u32 0, .nilslice, .int .u32 0]) := by kernel_rfl
attribute [simp] Tryz.underlying47
@[simp] theorem agg_49 : isAggV Tryz.prog 49 = some true := by kernel_rfl
@[simp] theorem size_49 : sizeV Tryz.prog 49 = some 11 := by kernel_rfl
@[simp] theorem zero_49 : zeroV Tryz.prog 49 = some (.agg [.int .u8 0, .int .u32 0, .int .u32 0, .int .u8 0, .int .i64 0, .int .i64 0, .nilslice, .int .u32 0, .int .u32 0, .nilslice, .int .u32 0]) := by kernel_rfl
attribute [simp] Tryz.underlying49
@[simp] theorem agg_51 : isAggV Tryz.prog 51 = some true := by kernel_rfl
@[simp] theorem size_51 : sizeV Tryz.prog 51 = some 16 := by kernel_rfl
@[simp] theorem bytes_51 : bytesV Tryz.prog 51 = some 160 := by kernel_rfl
@[simp] theorem zero_51 : zeroV Tryz.prog 51 = some (.agg [.int .u8 0, .int .u32 0, .nilslice, .int .i64 0, .nilslice, .int .u8 0, .int .u32 0, .int .u32 0, .int .u8 0, .int .i64 0, .int .i64 0, .nilslice, .int .u32 0, .int .u32 0, .nilslice, .int .u32 0]) := by kernel_rfl
attribute [simp] Tryz.underlying51
@[simp] theorem agg_52 : isAggV Tryz.prog 52 = some false := by kernel_rfl
@[simp] theorem size_52 : sizeV Tryz.prog 52 = some 1 := by kernel_rfl
attribute [simp] Tryz.underlying52
@[simp] theorem agg_54 : isAggV Tryz.prog 54 = some true := by kernel_rfl
@[simp] theorem size_54 : sizeV Tryz.prog 54 = some 2 := by kernel_rfl
@[simp] theorem bytes_54 : bytesV Tryz.prog 54 = some 32 := by kernel_rfl
@[simp] theorem zero_54 : zeroV Tryz.prog 54 = some (.agg [.int .u32 0, .nilslice]) := by kernel_rfl
attribute [simp] Tryz.underlying54
@[simp] theorem agg_55 : isAggV Tryz.prog 55 = some false := by kernel_rfl
@[simp] theorem size_55 : sizeV Tryz.prog 55 = some 1 := by kernel_rfl
attribute [simp] Tryz.underlying55
@[simp] theorem agg_57 : isAggV Tryz.prog 57 = some true := by kernel_rfl
@[simp] theorem size_57 : sizeV Tryz.prog 57 = some 2 := by kernel_rfl
@[simp] theorem bytes_57 : bytesV Tryz.prog 57 = some 32 := by kernel_rfl
@[simp] theorem zero_57 : zeroV Tryz.prog 57 = some (.agg [.int .u32 0, .nilslice]) := by kernel_rfl
attribute [simp] Tryz.underlying57
@[simp] theorem agg_67 : isAggV Tryz.prog 67 = some true := by kernel_rfl
@[simp] theorem size_67 : sizeV Tryz.prog 67 = some 2 := by kernel_rfl
@[simp] theorem bytes_67 : bytesV Tryz.prog 67 = some 16 := by kernel_rfl
@[simp] theorem zero_67 : zeroV Tryz.prog 67 = some (.agg [.int .u32 0, .int .i64 0]) := by kernel_rfl
attribute [simp] Tryz.underlying67
attribute [simp] Tryz.underlying70
attribute [simp] Tryz.underlying71
attribute [simp] Tryz.underlying74
attribute [simp] Tryz.underlying98
attribute [simp] Tryz.underlying100
attribute [simp] Tryz.underlying101
attribute [simp] Tryz.underlying130
@[simp] theorem agg_146 : isAggV Tryz.prog 146 = some false := by kernel_rfl
@[simp] theorem size_146 : sizeV Tryz.prog 146 = some 1 := by kernel_rfl
attribute [simp] Tryz.underlying146
@[simp] theorem zero_148 : zeroV Tryz.prog 148 = some (.agg [.nilmap]) := by kernel_rfl
attribute [simp] Tryz.underlying148
attribute [simp] Tryz.underlying149
attribute [simp] Tryz.underlying160
attribute [simp] Tryz.underlying242
end Go.Proofs.YtijfffbhhlmgmaaGreatDoor
end
section
namespace Go.Proofs.YtijfffbhhlmgmaaGreatDoor
open Go Go.Sim
set_option maxRecDepth 100000
set_option linter.unusedVariables false
set_option linter.unusedSimpArgs false
def modeT (f : Nat) : Sim.Mode :=
  match f with
  | 7 => .pure
  | 14 => .own
  | 15 => .own
  | 42 => .own
  | 43 => .heap
  | 64 => .heap
  | 95 => .heap
  | 145 => .heap
  | 84 => .heap
  | _ => .pure
def hintT (f r : Nat) : List Hint :=
  match f, r with
  | 5, 3 => [.forget 5, .forget 6, .forget 7, .forget 8, .forget 9, .forget 10, .forget 11, .forget 12, .forget 13, .forget 14, .forget 15, .forget 16, .forget 17, .forget 18, .forget 19, .forget 20, .forget 21, .forget 22, .forget 23, .forget 24, .forget 25, .forget 26, .forget 27, .forget 28, .forget 29, .forget 30, .forget 31, .forget 32, .forget 33, .forget 34, .forget 35, .forget 36, .forget 37, .forget 38, .forget 39, .forget 40, .forget 41, .forget 42, .forget 43, .forget 44, .forget 45, .forget 46, .forget 47, .forget 48, .forget 49, .forget 50, .forget 51, .forget 52, .forget 53, .forget 54, .forget 55, .forget 56, .forget 57, .forget 58, .forget 59, .forget 60, .forget 61, .forget 62, .forget 63, .forget 64, .forget 65, .forget 66, .forget 67, .forget 68, .forget 69, .forget 70, .forget 71, .forget 72, .forget 73, .forget 74, .forget 75, .forget 76, .forget 77, .forget 78, .forget 79, .forget 80, .forget 81, .forget 82, .forget 83, .forget 84, .forget 85, .forget 86, .forget 87, .forget 88, .forget 89, .forget 90, .forget 91, .forget 92, .forget 93, .forget 94, .forget 95, .forget 96, .forget 97, .forget 98, .forget 99, .forget 100, .forget 101, .forget 102, .forget 103, .forget 104, .forget 105, .forget 106, .forget 107, .forget 108, .forget 109, .forget 110, .forget 111, .forget 112, .forget 113, .forget 114, .forget 115]
  | 5, 8 => [.forget 7, .forget 46, .forget 47, .forget 48, .forget 49, .forget 50, .forget 51, .forget 52, .forget 53, .forget 54, .forget 55, .forget 56, .forget 57, .forget 58, .forget 59, .forget 60, .forget 61, .forget 62, .forget 63, .forget 64, .forget 65, .forget 66, .forget 67, .forget 68, .forget 69, .forget 70, .forget 71, .forget 72, .forget 73, .forget 74, .forget 75, .forget 76, .forget 77, .forget 78, .forget 79, .forget 80, .forget 81, .forget 82, .forget 83, .forget 84, .forget 85, .forget 86, .forget 87, .forget 88, .forget 89, .forget 90, .forget 91, .forget 92, .forget 93]
  | 5, 12 => [.forget 66, .forget 67, .forget 68, .forget 69, .forget 70, .forget 71, .forget 72, .forget 73, .forget 74, .forget 75, .forget 76, .forget 77, .forget 78, .forget 79, .forget 80, .forget 81, .forget 82, .forget 83, .forget 84, .forget 85, .forget 86, .forget 87, .forget 88, .forget 89, .forget 90, .forget 91, .forget 92, .forget 93]
  | 5, 16 => [.forget 94, .forget 95, .forget 96, .forget 97, .forget 98, .forget 99, .forget 100, .forget 101, .forget 102, .forget 103, .forget 104, .forget 105, .forget 106, .forget 107, .forget 108, .forget 109, .forget 110, .forget 111, .forget 112, .forget 113, .forget 114, .forget 115]
  | 7, 4 => [.promoteBox 6 11 4, .promoteBox 3 2 16, .forget 5, .forget 6, .forget 7, .forget 8, .forget 18, .forget 19, .forget 20, .forget 21, .forget 22, .forget 23, .forget 24, .forget 25, .forget 26, .forget 27, .forget 28, .forget 29, .forget 30, .forget 31, .forget 32, .forget 33, .forget 34, .forget 35, .forget 36, .forget 37, .forget 38, .forget 39, .forget 40, .forget 41, .forget 42, .forget 43, .forget 44, .forget 45, .forget 46, .forget 47, .forget 48, .forget 49, .forget 50, .forget 51, .forget 52, .forget 53, .forget 54, .forget 55, .forget 56, .forget 57, .forget 58, .forget 59, .forget 60, .forget 61, .forget 62, .forget 63, .forget 64, .forget 65, .forget 66, .forget 67, .forget 68, .forget 69, .forget 70, .forget 71, .forget 72, .forget 73, .forget 74, .forget 75, .forget 76, .forget 77, .forget 78, .forget 79, .forget 80]
  | 7, 12 => [.promoteBox 6 11 4, .forget 8, .forget 41, .forget 42, .forget 43, .forget 44, .forget 45, .forget 46, .forget 47, .forget 48, .forget 49, .forget 50, .forget 51, .forget 52, .forget 53, .forget 54, .forget 55, .forget 56, .forget 57, .forget 58, .forget 59, .forget 60, .forget 61, .forget 62, .forget 63, .forget 64, .forget 65, .forget 66]
  | 8, 5 => [.forget 6, .forget 7, .forget 8, .forget 9, .forget 10, .forget 34, .forget 35, .forget 36, .forget 37, .forget 38, .forget 39, .forget 40, .forget 41, .forget 42, .forget 43, .forget 44, .forget 45, .forget 46, .forget 47, .forget 48, .forget 49, .forget 50, .forget 51, .forget 52, .forget 53, .forget 54, .forget 55, .forget 56, .forget 57, .forget 58, .forget 59, .forget 60, .forget 61, .forget 62, .forget 63, .forget 64, .forget 65, .forget 66, .forget 67, .forget 68, .forget 69, .forget 70, .forget 71, .forget 72, .forget 73, .forget 74, .forget 75, .forget 76, .forget 77, .forget 78, .forget 79, .forget 80, .forget 81, .forget 82, .forget 83, .forget 84, .forget 85, .forget 86, .forget 87, .forget 88, .forget 89, .forget 90, .forget 91, .forget 92, .forget 93, .forget 94, .forget 95, .forget 96, .forget 97]
  | 15, 3 => [.promote 7 1, .promoteBox 5 1 2, .promote 3 2, .forget 5, .forget 6, .forget 7, .forget 8, .forget 9, .forget 10, .forget 11, .forget 12, .forget 13, .forget 14, .forget 15, .forget 16, .forget 17, .forget 18, .forget 19, .forget 20, .forget 21, .forget 22, .forget 23, .forget 24, .forget 25, .forget 26, .forget 27, .forget 28, .forget 29, .forget 30, .forget 31, .forget 32, .forget 33, .forget 34, .forget 35, .forget 36, .forget 37, .forget 38, .forget 39, .forget 40, .forget 41, .forget 42, .forget 43, .forget 44, .forget 45, .forget 46, .forget 47, .forget 48, .forget 49, .forget 50, .forget 51, .forget 52, .forget 53, .forget 54, .forget 55, .forget 56, .forget 57, .forget 58, .forget 59, .forget 60]
  | 15, 7 => [.promote 7 1, .promoteBox 5 1 2, .forget 7, .forget 20, .forget 21, .forget 22, .forget 23, .forget 24, .forget 25, .forget 26, .forget 27, .forget 28, .forget 29, .forget 30, .forget 31, .forget 32, .forget 33, .forget 34, .forget 35, .forget 36, .forget 37, .forget 38, .forget 39, .forget 40, .forget 41, .forget 42, .forget 43, .forget 44, .forget 45, .forget 46, .forget 47, .forget 48, .forget 49, .forget 50, .forget 51, .forget 52, .forget 53, .forget 54, .forget 55, .forget 56]
  | 16, 4 => [.forget 4, .forget 5, .forget 14, .forget 15, .forget 16, .forget 17, .forget 18, .forget 19, .forget 20, .forget 21, .forget 22, .forget 23, .forget 24, .forget 25]
  | 17, 4 => [.forget 4, .forget 5, .forget 14, .forget 15, .forget 16, .forget 17, .forget 18, .forget 19, .forget 20, .forget 21, .forget 22, .forget 23, .forget 24, .forget 25]
  | 18, 4 => [.forget 6, .forget 7, .forget 8, .forget 9, .forget 18, .forget 19, .forget 20, .forget 21, .forget 22, .forget 23, .forget 24, .forget 25, .forget 26, .forget 27, .forget 28, .forget 29, .forget 30, .forget 31]
  | 20, 8 => [.forget 4, .forget 5, .forget 6, .forget 54, .forget 55, .forget 56, .forget 57, .forget 58, .forget 59, .forget 60, .forget 61, .forget 62, .forget 63, .forget 64, .forget 65, .forget 66, .forget 67, .forget 68, .forget 69, .forget 70, .forget 71, .forget 72, .forget 73, .forget 74, .forget 75, .forget 76, .forget 77, .forget 78, .forget 79, .forget 80, .forget 81, .forget 82, .forget 83]
  | 24, 5 => [.forget 2, .forget 3, .forget 18, .forget 19, .forget 20, .forget 21, .forget 22, .forget 23, .forget 24, .forget 25, .forget 26, .forget 27, .forget 28, .forget 29, .forget 30, .forget 31, .forget 32, .forget 33, .forget 34, .forget 35, .forget 36, .forget 37, .forget 38]
  | 24, 13 => [.forget 2, .forget 3, .forget 8, .forget 9, .forget 47, .forget 48, .forget 49, .forget 50, .forget 51, .forget 52, .forget 53, .forget 54, .forget 55, .forget 56, .forget 57, .forget 58, .forget 59, .forget 60, .forget 61, .forget 62, .forget 63, .forget 64]
  | 25, 3 => [.promote 3 16, .forget 5, .forget 10, .forget 11, .forget 12, .forget 13, .forget 14, .forget 15, .forget 16, .forget 17, .forget 18]
  | 35, 4 => [.forget 6, .forget 7, .forget 8, .forget 9, .forget 18, .forget 19, .forget 20, .forget 21, .forget 22, .forget 23, .forget 24, .forget 25, .forget 26, .forget 27, .forget 28, .forget 29, .forget 30, .forget 31]
  | 42, 5 => [.forget 2, .forget 3, .forget 6, .forget 7, .forget 8, .forget 18, .forget 19, .forget 20, .forget 21, .forget 22, .forget 23, .forget 24, .forget 25, .forget 26, .forget 27, .forget 28, .forget 29, .forget 30, .forget 31, .forget 32, .forget 33, .forget 34, .forget 35, .forget 36, .forget 37, .forget 38, .forget 39, .forget 40, .forget 41, .forget 42, .forget 43, .forget 44, .forget 45, .forget 46, .forget 47, .forget 48, .forget 49, .forget 50, .forget 51, .forget 52, .forget 53, .forget 54, .forget 55]
  | 43, 8 => [.forget 4, .forget 6, .forget 56, .forget 57, .forget 58, .forget 59, .forget 60, .forget 61, .forget 62]
  | 56, 3 => [.promote 6 2, .promote 3 2, .forget 5, .forget 6, .forget 8, .forget 12, .forget 13, .forget 14, .forget 15, .forget 16, .forget 17, .forget 18, .forget 19, .forget 20, .forget 21, .forget 22, .forget 23, .forget 24, .forget 25, .forget 26, .forget 27, .forget 28, .forget 29, .forget 30, .forget 31, .forget 32, .forget 33, .forget 34, .forget 35, .forget 36, .forget 37, .forget 38, .forget 39]
  | 56, 7 => [.promote 6 2, .forget 8, .forget 19, .forget 20, .forget 21, .forget 22, .forget 23, .forget 24, .forget 25, .forget 26, .forget 27, .forget 28, .forget 29, .forget 30, .forget 31]
  | 57, 3 => [.promote 3 4, .forget 5, .forget 10, .forget 11, .forget 12, .forget 13, .forget 14, .forget 15, .forget 16, .forget 17, .forget 18]
  | 63, 4 => [.forget 2, .forget 4, .forget 13, .forget 14, .forget 15, .forget 16, .forget 17, .forget 18, .forget 19, .forget 20]
  | 64, 9 => [.forget 4, .forget 6, .forget 7, .forget 83, .forget 84, .forget 85, .forget 86, .forget 87, .forget 88, .forget 89, .forget 90, .forget 91, .forget 92, .forget 93, .forget 94, .forget 95, .forget 96, .forget 97, .forget 98, .forget 99, .forget 100, .forget 101, .forget 102]
  | _, _ => []
noncomputable def knownT (f : Nat) : Option (List V → Heap → Option (V × Heap)) :=
  match f with
  | 45 => some (cloneCL 8796093022208 2)
  | 58 => some (cloneCL 35184372088832 1)
  | 70 => some (cloneCL 140737488355328 1)
  | 6 => some (Kr.trueV)
  | _ => none
noncomputable def E : Env := { P := Tryz.prog, mode := modeT, hint := hintT, known := knownT, eqTypes := [32, 67, 130], fns := fun f => Nat.blt f 382, frame := fun f => Nat.beq f 6 || Nat.beq f 45 || Nat.beq f 58 || Nat.beq f 70 }
@[simp] theorem E_P : E.P = Tryz.prog := rfl
attribute [simp] Tryz.results4
theorem pu_4 {lent : Bool} {args : List V} {r : V} (hr : evK E (om E) 4 [] (Tryz.f4.body.getD .skip) (endK Tryz.prog Tryz.f4.results.toList (pureFin lent)) (args ++ pois (67 - args.length)) [[]] = some r) : pureV E (om E) 4 lent args = some r := pureV_of (dyn := []) rfl (by rw [E_P]; exact Tryz.func4) (by unfold Tryz.f4; rfl) (by kernel_rfl) (by rw [Tryz.ntmps4]; exact hr)
attribute [simp] Tryz.results5
theorem pu_5 {lent : Bool} {args : List V} {r : V} (hr : evK E (om E) 5 [] (Tryz.f5.body.getD .skip) (endK Tryz.prog Tryz.f5.results.toList (pureFin lent)) (args ++ pois (118 - args.length)) [[]] = some r) : pureV E (om E) 5 lent args = some r := pureV_of (dyn := []) rfl (by rw [E_P]; exact Tryz.func5) (by unfold Tryz.f5; rfl) (by kernel_rfl) (by rw [Tryz.ntmps5]; exact hr)
@[simp] theorem call_5 (args : List V) (h : Heap) : callV E (om E) 5 args h = (viewArgs h args).bind fun a => (pureV E (om E) 5 (!V.flatL args) a).map fun r => (r, h) := callV_pure rfl rfl args h
@[simp] theorem hint_5_0 : E.hint 5 3 = [.forget 5, .forget 6, .forget 7, .forget 8, .forget 9, .forget 10, .forget 11, .forget 12, .forget 13, .forget 14, .forget 15, .forget 16, .forget 17, .forget 18, .forget 19, .forget 20, .forget 21, .forget 22, .forget 23, .forget 24, .forget 25, .forget 26, .forget 27, .forget 28, .forget 29, .forget 30, .forget 31, .forget 32, .forget 33, .forget 34, .forget 35, .forget 36, .forget 37, .forget 38, .forget 39, .forget 40, .forget 41, .forget 42, .forget 43, .forget 44, .forget 45, .forget 46, .forget 47, .forget 48, .forget 49, .forget 50, .forget 51, .forget 52, .forget 53, .forget 54, .forget 55, .forget 56, .forget 57, .forget 58, .forget 59, .forget 60, .forget 61, .forget 62, .forget 63, .forget 64, .forget 65, .forget 66, .forget 67, .forget 68, .forget 69, .forget 70, .forget 71, .forget 72, .forget 73, .forget 74, .forget 75, .forget 76, .forget 77, .forget 78, .forget 79, .forget 80, .forget 81, .forget 82, .forget 83, .forget 84, .forget 85, .forget 86, .forget 87, .forget 88, .forget 89, .forget 90, .forget 91, .forget 92, .forget 93, .forget 94, .forget 95, .forget 96, .forget 97, .forget 98, .forget 99, .forget 100, .forget 101, .forget 102, .forget 103, .forget 104, .forget 105, .forget 106, .forget 107, .forget 108, .forget 109, .forget 110, .forget 111, .forget 112, .forget 113, .forget 114, .forget 115] := rfl
@[simp] theorem hint_5_1 : E.hint 5 8 = [.forget 7, .forget 46, .forget 47, .forget 48, .forget 49, .forget 50, .forget 51, .forget 52, .forget 53, .forget 54, .forget 55, .forget 56, .forget 57, .forget 58, .forget 59, .forget 60, .forget 61, .forget 62, .forget 63, .forget 64, .forget 65, .forget 66, .forget 67, .forget 68, .forget 69, .forget 70, .forget 71, .forget 72, .forget 73, .forget 74, .forget 75, .forget 76, .forget 77, .forget 78, .forget 79, .forget 80, .forget 81, .forget 82, .forget 83, .forget 84, .forget 85, .forget 86, .forget 87, .forget 88, .forget 89, .forget 90, .forget 91, .forget 92, .forget 93] := rfl
@[simp] theorem hint_5_2 : E.hint 5 12 = [.forget 66, .forget 67, .forget 68, .forget 69, .forget 70, .forget 71, .forget 72, .forget 73, .forget 74, .forget 75, .forget 76, .forget 77, .forget 78, .forget 79, .forget 80, .forget 81, .forget 82, .forget 83, .forget 84, .forget 85, .forget 86, .forget 87, .forget 88, .forget 89, .forget 90, .forget 91, .forget 92, .forget 93] := rfl
@[simp] theorem hint_5_3 : E.hint 5 16 = [.forget 94, .forget 95, .forget 96, .forget 97, .forget 98, .forget 99, .forget 100, .forget 101, .forget 102, .forget 103, .forget 104, .forget 105, .forget 106, .forget 107, .forget 108, .forget 109, .forget 110, .forget 111, .forget 112, .forget 113, .forget 114, .forget 115] := rfl

@[simp] theorem call_6 (args : List V) (h : Heap) : callV E (om E) 6 args h = (Kr.trueV) args h := callV_known rfl args h
attribute [simp] Tryz.results7
@[simp] theorem call_7 (args : List V) (h : Heap) : callV E (om E) 7 args h = (viewArgs h args).bind fun a => (pureV E (om E) 7 (!V.flatL args) a).map fun r => (r, h) := callV_pure rfl rfl args h
@[simp] theorem hint_7_0 : E.hint 7 4 = [.promoteBox 6 11 4, .promoteBox 3 2 16, .forget 5, .forget 6, .forget 7, .forget 8, .forget 18, .forget 19, .forget 20, .forget 21, .forget 22, .forget 23, .forget 24, .forget 25, .forget 26, .forget 27, .forget 28, .forget 29, .forget 30, .forget 31, .forget 32, .forget 33, .forget 34, .forget 35, .forget 36, .forget 37, .forget 38, .forget 39, .forget 40, .forget 41, .forget 42, .forget 43, .forget 44, .forget 45, .forget 46, .forget 47, .forget 48, .forget 49, .forget 50, .forget 51, .forget 52, .forget 53, .forget 54, .forget 55, .forget 56, .forget 57, .forget 58, .forget 59, .forget 60, .forget 61, .forget 62, .forget 63, .forget 64, .forget 65, .forget 66, .forget 67, .forget 68, .forget 69, .forget 70, .forget 71, .forget 72, .forget 73, .forget 74, .forget 75, .forget 76, .forget 77, .forget 78, .forget 79, .forget 80] := rfl
@[simp] theorem hint_7_1 : E.hint 7 12 = [.promoteBox 6 11 4, .forget 8, .forget 41, .forget 42, .forget 43, .forget 44, .forget 45, .forget 46, .forget 47, .forget 48, .forget 49, .forget 50, .forget 51, .forget 52, .forget 53, .forget 54, .forget 55, .forget 56, .forget 57, .forget 58, .forget 59, .forget 60, .forget 61, .forget 62, .forget 63, .forget 64, .forget 65, .forget 66] := rfl

theorem bo_7 {args : List V} {h : Heap} {r : V × Heap} (hr : evK E (om E) 7 [] (Tryz.f7.body.getD .skip) (endK Tryz.prog Tryz.f7.results.toList bodyFin) (args ++ pois (82 - args.length)) h = some r) : bodyV E (om E) 7 args h = some r := bodyV_of (dyn := []) rfl (by rw [E_P]; exact Tryz.func7) (by unfold Tryz.f7; rfl) (by kernel_rfl) (by rw [Tryz.ntmps7]; exact hr)
attribute [simp] Tryz.results8
theorem pu_8 {lent : Bool} {args : List V} {r : V} (hr : evK E (om E) 8 [7] (Tryz.f8.body.getD .skip) (endK Tryz.prog Tryz.f8.results.toList (pureFin lent)) (args ++ pois (108 - args.length)) [[]] = some r) : pureV E (om E) 8 lent args = some r := pureV_of (dyn := [7]) rfl (by rw [E_P]; exact Tryz.func8) (by unfold Tryz.f8; rfl) (by kernel_rfl) (by rw [Tryz.ntmps8]; exact hr)
@[simp] theorem call_8 (args : List V) (h : Heap) : callV E (om E) 8 args h = (viewArgs h args).bind fun a => (pureV E (om E) 8 (!V.flatL args) a).map fun r => (r, h) := callV_pure rfl rfl args h
@[simp] theorem hint_8_0 : E.hint 8 5 = [.forget 6, .forget 7, .forget 8, .forget 9, .forget 10, .forget 34, .forget 35, .forget 36, .forget 37, .forget 38, .forget 39, .forget 40, .forget 41, .forget 42, .forget 43, .forget 44, .forget 45, .forget 46, .forget 47, .forget 48, .forget 49, .forget 50, .forget 51, .forget 52, .forget 53, .forget 54, .forget 55, .forget 56, .forget 57, .forget 58, .forget 59, .forget 60, .forget 61, .forget 62, .forget 63, .forget 64, .forget 65, .forget 66, .forget 67, .forget 68, .forget 69, .forget 70, .forget 71, .forget 72, .forget 73, .forget 74, .forget 75, .forget 76, .forget 77, .forget 78, .forget 79, .forget 80, .forget 81, .forget 82, .forget 83, .forget 84, .forget 85, .forget 86, .forget 87, .forget 88, .forget 89, .forget 90, .forget 91, .forget 92, .forget 93, .forget 94, .forget 95, .forget 96, .forget 97] := rfl

attribute [simp] Tryz.results9
attribute [simp] Tryz.results10
attribute [simp] Tryz.results11
theorem pu_11 {lent : Bool} {args : List V} {r : V} (hr : evK E (om E) 11 [] (Tryz.f11.body.getD .skip) (endK Tryz.prog Tryz.f11.results.toList (pureFin lent)) (args ++ pois (34 - args.length)) [[]] = some r) : pureV E (om E) 11 lent args = some r := pureV_of (dyn := []) rfl (by rw [E_P]; exact Tryz.func11) (by unfold Tryz.f11; rfl) (by kernel_rfl) (by rw [Tryz.ntmps11]; exact hr)
@[simp] theorem call_11 (args : List V) (h : Heap) : callV E (om E) 11 args h = (viewArgs h args).bind fun a => (pureV E (om E) 11 (!V.flatL args) a).map fun r => (r, h) := callV_pure rfl rfl args h

attribute [simp] Tryz.results14
theorem bo_14 {args : List V} {h : Heap} {r : V × Heap} (hr : evK E (om E) 14 [] (Tryz.f14.body.getD .skip) (endK Tryz.prog Tryz.f14.results.toList bodyFin) (args ++ pois (7 - args.length)) h = some r) : bodyV E (om E) 14 args h = some r := bodyV_of (dyn := []) rfl (by rw [E_P]; exact Tryz.func14) (by unfold Tryz.f14; rfl) (by kernel_rfl) (by rw [Tryz.ntmps14]; exact hr)
theorem call_14 (args : List V) (h : Heap) : callV E (om E) 14 args h = (viewArgs h args).bind fun args' => (bodyV E (om E) 14 args' [[]]).bind fun x => if !V.flatL args && !V.own x.2 x.1 then some (V.out h.top.length (V.strip x.1), h.setTop (h.top ++ (x.2.top.map stripBlk).map (outBlk h.top.length))) else some (V.out h.top.length x.1, h.setTop (h.top ++ x.2.top.map (outBlk h.top.length))) := callV_own rfl rfl args h

attribute [simp] Tryz.results15
theorem bo_15 {args : List V} {h : Heap} {r : V × Heap} (hr : evK E (om E) 15 [] (Tryz.f15.body.getD .skip) (endK Tryz.prog Tryz.f15.results.toList bodyFin) (args ++ pois (62 - args.length)) h = some r) : bodyV E (om E) 15 args h = some r := bodyV_of (dyn := []) rfl (by rw [E_P]; exact Tryz.func15) (by unfold Tryz.f15; rfl) (by kernel_rfl) (by rw [Tryz.ntmps15]; exact hr)
theorem call_15 (args : List V) (h : Heap) : callV E (om E) 15 args h = (viewArgs h args).bind fun args' => (bodyV E (om E) 15 args' [[]]).bind fun x => if !V.flatL args && !V.own x.2 x.1 then some (V.out h.top.length (V.strip x.1), h.setTop (h.top ++ (x.2.top.map stripBlk).map (outBlk h.top.length))) else some (V.out h.top.length x.1, h.setTop (h.top ++ x.2.top.map (outBlk h.top.length))) := callV_own rfl rfl args h
@[simp] theorem hint_15_0 : E.hint 15 3 = [.promote 7 1, .promoteBox 5 1 2, .promote 3 2, .forget 5, .forget 6, .forget 7, .forget 8, .forget 9, .forget 10, .forget 11, .forget 12, .forget 13, .forget 14, .forget 15, .forget 16, .forget 17, .forget 18, .forget 19, .forget 20, .forget 21, .forget 22, .forget 23, .forget 24, .forget 25, .forget 26, .forget 27, .forget 28, .forget 29, .forget 30, .forget 31, .forget 32, .forget 33, .forget 34, .forget 35, .forget 36, .forget 37, .forget 38, .forget 39, .forget 40, .forget 41, .forget 42, .forget 43, .forget 44, .forget 45, .forget 46, .forget 47, .forget 48, .forget 49, .forget 50, .forget 51, .forget 52, .forget 53, .forget 54, .forget 55, .forget 56, .forget 57, .forget 58, .forget 59, .forget 60] := rfl
@[simp] theorem hint_15_1 : E.hint 15 7 = [.promote 7 1, .promoteBox 5 1 2, .forget 7, .forget 20, .forget 21, .forget 22, .forget 23, .forget 24, .forget 25, .forget 26, .forget 27, .forget 28, .forget 29, .forget 30, .forget 31, .forget 32, .forget 33, .forget 34, .forget 35, .forget 36, .forget 37, .forget 38, .forget 39, .forget 40, .forget 41, .forget 42, .forget 43, .forget 44, .forget 45, .forget 46, .forget 47, .forget 48, .forget 49, .forget 50, .forget 51, .forget 52, .forget 53, .forget 54, .forget 55, .forget 56] := rfl

attribute [simp] Tryz.results16
theorem pu_16 {lent : Bool} {args : List V} {r : V} (hr : evK E (om E) 16 [] (Tryz.f16.body.getD .skip) (endK Tryz.prog Tryz.f16.results.toList (pureFin lent)) (args ++ pois (26 - args.length)) [[]] = some r) : pureV E (om E) 16 lent args = some r := pureV_of (dyn := []) rfl (by rw [E_P]; exact Tryz.func16) (by unfold Tryz.f16; rfl) (by kernel_rfl) (by rw [Tryz.ntmps16]; exact hr)
@[simp] theorem call_16 (args : List V) (h : Heap) : callV E (om E) 16 args h = (viewArgs h args).bind fun a => (pureV E (om E) 16 (!V.flatL args) a).map fun r => (r, h) := callV_pure rfl rfl args h
@[simp] theorem hint_16_0 : E.hint 16 4 = [.forget 4, .forget 5, .forget 14, .forget 15, .forget 16, .forget 17, .forget 18, .forget 19, .forget 20, .forget 21, .forget 22, .forget 23, .forget 24, .forget 25] := rfl

attribute [simp] Tryz.results17
theorem pu_17 {lent : Bool} {args : List V} {r : V} (hr : evK E (om E) 17 [] (Tryz.f17.body.getD .skip) (endK Tryz.prog Tryz.f17.results.toList (pureFin lent)) (args ++ pois (26 - args.length)) [[]] = some r) : pureV E (om E) 17 lent args = some r := pureV_of (dyn := []) rfl (by rw [E_P]; exact Tryz.func17) (by unfold Tryz.f17; rfl) (by kernel_rfl) (by rw [Tryz.ntmps17]; exact hr)
@[simp] theorem call_17 (args : List V) (h : Heap) : callV E (om E) 17 args h = (viewArgs h args).bind fun a => (pureV E (om E) 17 (!V.flatL args) a).map fun r => (r, h) := callV_pure rfl rfl args h
@[simp] theorem hint_17_0 : E.hint 17 4 = [.forget 4, .forget 5, .forget 14, .forget 15, .forget 16, .forget 17, .forget 18, .forget 19, .forget 20, .forget 21, .forget 22, .forget 23, .forget 24, .forget 25] := rfl

attribute [simp] Tryz.results18
theorem pu_18 {lent : Bool} {args : List V} {r : V} (hr : evK E (om E) 18 [] (Tryz.f18.body.getD .skip) (endK Tryz.prog Tryz.f18.results.toList (pureFin lent)) (args ++ pois (32 - args.length)) [[]] = some r) : pureV E (om E) 18 lent args = some r := pureV_of (dyn := []) rfl (by rw [E_P]; exact Tryz.func18) (by unfold Tryz.f18; rfl) (by kernel_rfl) (by rw [Tryz.ntmps18]; exact hr)
@[simp] theorem call_18 (args : List V) (h : Heap) : callV E (om E) 18 args h = (viewArgs h args).bind fun a => (pureV E (om E) 18 (!V.flatL args) a).map fun r => (r, h) := callV_pure rfl rfl args h
@[simp] theorem hint_18_0 : E.hint 18 4 = [.forget 6, .forget 7, .forget 8, .forget 9, .forget 18, .forget 19, .forget 20, .forget 21, .forget 22, .forget 23, .forget 24, .forget 25, .forget 26, .forget 27, .forget 28, .forget 29, .forget 30, .forget 31] := rfl

attribute [simp] Tryz.results19
theorem pu_19 {lent : Bool} {args : List V} {r : V} (hr : evK E (om E) 19 [] (Tryz.f19.body.getD .skip) (endK Tryz.prog Tryz.f19.results.toList (pureFin lent)) (args ++ pois (17 - args.length)) [[]] = some r) : pureV E (om E) 19 lent args = some r := pureV_of (dyn := []) rfl (by rw [E_P]; exact Tryz.func19) (by unfold Tryz.f19; rfl) (by kernel_rfl) (by rw [Tryz.ntmps19]; exact hr)
@[simp] theorem call_19 (args : List V) (h : Heap) : callV E (om E) 19 args h = (viewArgs h args).bind fun a => (pureV E (om E) 19 (!V.flatL args) a).map fun r => (r, h) := callV_pure rfl rfl args h

attribute [simp] Tryz.results20
theorem pu_20 {lent : Bool} {args : List V} {r : V} (hr : evK E (om E) 20 [] (Tryz.f20.body.getD .skip) (endK Tryz.prog Tryz.f20.results.toList (pureFin lent)) (args ++ pois (90 - args.length)) [[]] = some r) : pureV E (om E) 20 lent args = some r := pureV_of (dyn := []) rfl (by rw [E_P]; exact Tryz.func20) (by unfold Tryz.f20; rfl) (by kernel_rfl) (by rw [Tryz.ntmps20]; exact hr)
@[simp] theorem call_20 (args : List V) (h : Heap) : callV E (om E) 20 args h = (viewArgs h args).bind fun a => (pureV E (om E) 20 (!V.flatL args) a).map fun r => (r, h) := callV_pure rfl rfl args h
@[simp] theorem hint_20_0 : E.hint 20 8 = [.forget 4, .forget 5, .forget 6, .forget 54, .forget 55, .forget 56, .forget 57, .forget 58, .forget 59, .forget 60, .forget 61, .forget 62, .forget 63, .forget 64, .forget 65, .forget 66, .forget 67, .forget 68, .forget 69, .forget 70, .forget 71, .forget 72, .forget 73, .forget 74, .forget 75, .forget 76, .forget 77, .forget 78, .forget 79, .forget 80, .forget 81, .forget 82, .forget 83] := rfl

attribute [simp] Tryz.results21
attribute [simp] Tryz.results22
attribute [simp] Tryz.results23
attribute [simp] Tryz.results24
theorem pu_24 {lent : Bool} {args : List V} {r : V} (hr : evK E (om E) 24 [] (Tryz.f24.body.getD .skip) (endK Tryz.prog Tryz.f24.results.toList (pureFin lent)) (args ++ pois (65 - args.length)) [[]] = some r) : pureV E (om E) 24 lent args = some r := pureV_of (dyn := []) rfl (by rw [E_P]; exact Tryz.func24) (by unfold Tryz.f24; rfl) (by kernel_rfl) (by rw [Tryz.ntmps24]; exact hr)
@[simp] theorem call_24 (args : List V) (h : Heap) : callV E (om E) 24 args h = (viewArgs h args).bind fun a => (pureV E (om E) 24 (!V.flatL args) a).map fun r => (r, h) := callV_pure rfl rfl args h
@[simp] theorem hint_24_0 : E.hint 24 5 = [.forget 2, .forget 3, .forget 18, .forget 19, .forget 20, .forget 21, .forget 22, .forget 23, .forget 24, .forget 25, .forget 26, .forget 27, .forget 28, .forget 29, .forget 30, .forget 31, .forget 32, .forget 33, .forget 34, .forget 35, .forget 36, .forget 37, .forget 38] := rfl
@[simp] theorem hint_24_1 : E.hint 24 13 = [.forget 2, .forget 3, .forget 8, .forget 9, .forget 47, .forget 48, .forget 49, .forget 50, .forget 51, .forget 52, .forget 53, .forget 54, .forget 55, .forget 56, .forget 57, .forget 58, .forget 59, .forget 60, .forget 61, .forget 62, .forget 63, .forget 64] := rfl

attribute [simp] Tryz.results25
theorem pu_25 {lent : Bool} {args : List V} {r : V} (hr : evK E (om E) 25 [7] (Tryz.f25.body.getD .skip) (endK Tryz.prog Tryz.f25.results.toList (pureFin lent)) (args ++ pois (26 - args.length)) [[]] = some r) : pureV E (om E) 25 lent args = some r := pureV_of (dyn := [7]) rfl (by rw [E_P]; exact Tryz.func25) (by unfold Tryz.f25; rfl) (by kernel_rfl) (by rw [Tryz.ntmps25]; exact hr)
@[simp] theorem call_25 (args : List V) (h : Heap) : callV E (om E) 25 args h = (viewArgs h args).bind fun a => (pureV E (om E) 25 (!V.flatL args) a).map fun r => (r, h) := callV_pure rfl rfl args h
@[simp] theorem hint_25_0 : E.hint 25 3 = [.promote 3 16, .forget 5, .forget 10, .forget 11, .forget 12, .forget 13, .forget 14, .forget 15, .forget 16, .forget 17, .forget 18] := rfl

attribute [simp] Tryz.results35
theorem pu_35 {lent : Bool} {args : List V} {r : V} (hr : evK E (om E) 35 [] (Tryz.f35.body.getD .skip) (endK Tryz.prog Tryz.f35.results.toList (pureFin lent)) (args ++ pois (32 - args.length)) [[]] = some r) : pureV E (om E) 35 lent args = some r := pureV_of (dyn := []) rfl (by rw [E_P]; exact Tryz.func35) (by unfold Tryz.f35; rfl) (by kernel_rfl) (by rw [Tryz.ntmps35]; exact hr)
@[simp] theorem call_35 (args : List V) (h : Heap) : callV E (om E) 35 args h = (viewArgs h args).bind fun a => (pureV E (om E) 35 (!V.flatL args) a).map fun r => (r, h) := callV_pure rfl rfl args h
@[simp] theorem hint_35_0 : E.hint 35 4 = [.forget 6, .forget 7, .forget 8, .forget 9, .forget 18, .forget 19, .forget 20, .forget 21, .forget 22, .forget 23, .forget 24, .forget 25, .forget 26, .forget 27, .forget 28, .forget 29, .forget 30, .forget 31] := rfl

attribute [simp] Tryz.results36
theorem pu_36 {lent : Bool} {args : List V} {r : V} (hr : evK E (om E) 36 [] (Tryz.f36.body.getD .skip) (endK Tryz.prog Tryz.f36.results.toList (pureFin lent)) (args ++ pois (17 - args.length)) [[]] = some r) : pureV E (om E) 36 lent args = some r := pureV_of (dyn := []) rfl (by rw [E_P]; exact Tryz.func36) (by unfold Tryz.f36; rfl) (by kernel_rfl) (by rw [Tryz.ntmps36]; exact hr)
@[simp] theorem call_36 (args : List V) (h : Heap) : callV E (om E) 36 args h = (viewArgs h args).bind fun a => (pureV E (om E) 36 (!V.flatL args) a).map fun r => (r, h) := callV_pure rfl rfl args h

attribute [simp] Tryz.results37
theorem pu_37 {lent : Bool} {args : List V} {r : V} (hr : evK E (om E) 37 [] (Tryz.f37.body.getD .skip) (endK Tryz.prog Tryz.f37.results.toList (pureFin lent)) (args ++ pois (10 - args.length)) [[]] = some r) : pureV E (om E) 37 lent args = some r := pureV_of (dyn := []) rfl (by rw [E_P]; exact Tryz.func37) (by unfold Tryz.f37; rfl) (by kernel_rfl) (by rw [Tryz.ntmps37]; exact hr)
@[simp] theorem call_37 (args : List V) (h : Heap) : callV E (om E) 37 args h = (viewArgs h args).bind fun a => (pureV E (om E) 37 (!V.flatL args) a).map fun r => (r, h) := callV_pure rfl rfl args h

attribute [simp] Tryz.results38
theorem pu_38 {lent : Bool} {args : List V} {r : V} (hr : evK E (om E) 38 [] (Tryz.f38.body.getD .skip) (endK Tryz.prog Tryz.f38.results.toList (pureFin lent)) (args ++ pois (31 - args.length)) [[]] = some r) : pureV E (om E) 38 lent args = some r := pureV_of (dyn := []) rfl (by rw [E_P]; exact Tryz.func38) (by unfold Tryz.f38; rfl) (by kernel_rfl) (by rw [Tryz.ntmps38]; exact hr)
@[simp] theorem call_38 (args : List V) (h : Heap) : callV E (om E) 38 args h = (viewArgs h args).bind fun a => (pureV E (om E) 38 (!V.flatL args) a).map fun r => (r, h) := callV_pure rfl rfl args h

attribute [simp] Tryz.results39
attribute [simp] Tryz.results40
attribute [simp] Tryz.results41
attribute [simp] Tryz.results42
theorem bo_42 {args : List V} {h : Heap} {r : V × Heap} (hr : evK E (om E) 42 [] (Tryz.f42.body.getD .skip) (endK Tryz.prog Tryz.f42.results.toList bodyFin) (args ++ pois (57 - args.length)) h = some r) : bodyV E (om E) 42 args h = some r := bodyV_of (dyn := []) rfl (by rw [E_P]; exact Tryz.func42) (by unfold Tryz.f42; rfl) (by kernel_rfl) (by rw [Tryz.ntmps42]; exact hr)
theorem call_42 (args : List V) (h : Heap) : callV E (om E) 42 args h = (viewArgs h args).bind fun args' => (bodyV E (om E) 42 args' [[]]).bind fun x => if !V.flatL args && !V.own x.2 x.1 then some (V.out h.top.length (V.strip x.1), h.setTop (h.top ++ (x.2.top.map stripBlk).map (outBlk h.top.length))) else some (V.out h.top.length x.1, h.setTop (h.top ++ x.2.top.map (outBlk h.top.length))) := callV_own rfl rfl args h
@[simp] theorem hint_42_0 : E.hint 42 5 = [.forget 2, .forget 3, .forget 6, .forget 7, .forget 8, .forget 18, .forget 19, .forget 20, .forget 21, .forget 22, .forget 23, .forget 24, .forget 25, .forget 26, .forget 27, .forget 28, .forget 29, .forget 30, .forget 31, .forget 32, .forget 33, .forget 34, .forget 35, .forget 36, .forget 37, .forget 38, .forget 39, .forget 40, .forget 41, .forget 42, .forget 43, .forget 44, .forget 45, .forget 46, .forget 47, .forget 48, .forget 49, .forget 50, .forget 51, .forget 52, .forget 53, .forget 54, .forget 55] := rfl

attribute [simp] Tryz.results43
theorem he_43 {args : List V} {h : Heap} {r : V × Heap} (hr : evK E (om E) 43 [] (Tryz.f43.body.getD .skip) (endK Tryz.prog Tryz.f43.results.toList heapFin) (V.upL 1 args ++ pois (66 - (V.upL 1 args).length)) ([] :: h) = some r) : callV E (om E) 43 args h = some r := heap_of (dyn := []) rfl rfl rfl (by rw [E_P]; exact Tryz.func43) (by unfold Tryz.f43; rfl) (by kernel_rfl) (by rw [Tryz.ntmps43]; exact hr)
@[simp] theorem hint_43_0 : E.hint 43 8 = [.forget 4, .forget 6, .forget 56, .forget 57, .forget 58, .forget 59, .forget 60, .forget 61, .forget 62] := rfl

attribute [simp] Tryz.results44
theorem pu_44 {lent : Bool} {args : List V} {r : V} (hr : evK E (om E) 44 [1] (Tryz.f44.body.getD .skip) (endK Tryz.prog Tryz.f44.results.toList (pureFin lent)) (args ++ pois (16 - args.length)) [[]] = some r) : pureV E (om E) 44 lent args = some r := pureV_of (dyn := [1]) rfl (by rw [E_P]; exact Tryz.func44) (by unfold Tryz.f44; rfl) (by kernel_rfl) (by rw [Tryz.ntmps44]; exact hr)
@[simp] theorem call_44 (args : List V) (h : Heap) : callV E (om E) 44 args h = (viewArgs h args).bind fun a => (pureV E (om E) 44 (!V.flatL args) a).map fun r => (r, h) := callV_pure rfl rfl args h

attribute [simp] Tryz.results45
@[simp] theorem call_45 (args : List V) (h : Heap) : callV E (om E) 45 args h = cloneCL 8796093022208 2 args h := callV_known rfl args h

attribute [simp] Tryz.results56
theorem pu_56 {lent : Bool} {args : List V} {r : V} (hr : evK E (om E) 56 [9] (Tryz.f56.body.getD .skip) (endK Tryz.prog Tryz.f56.results.toList (pureFin lent)) (args ++ pois (41 - args.length)) [[]] = some r) : pureV E (om E) 56 lent args = some r := pureV_of (dyn := [9]) rfl (by rw [E_P]; exact Tryz.func56) (by unfold Tryz.f56; rfl) (by kernel_rfl) (by rw [Tryz.ntmps56]; exact hr)
@[simp] theorem call_56 (args : List V) (h : Heap) : callV E (om E) 56 args h = (viewArgs h args).bind fun a => (pureV E (om E) 56 (!V.flatL args) a).map fun r => (r, h) := callV_pure rfl rfl args h
@[simp] theorem hint_56_0 : E.hint 56 3 = [.promote 6 2, .promote 3 2, .forget 5, .forget 6, .forget 8, .forget 12, .forget 13, .forget 14, .forget 15, .forget 16, .forget 17, .forget 18, .forget 19, .forget 20, .forget 21, .forget 22, .forget 23, .forget 24, .forget 25, .forget 26, .forget 27, .forget 28, .forget 29, .forget 30, .forget 31, .forget 32, .forget 33, .forget 34, .forget 35, .forget 36, .forget 37, .forget 38, .forget 39] := rfl
@[simp] theorem hint_56_1 : E.hint 56 7 = [.promote 6 2, .forget 8, .forget 19, .forget 20, .forget 21, .forget 22, .forget 23, .forget 24, .forget 25, .forget 26, .forget 27, .forget 28, .forget 29, .forget 30, .forget 31] := rfl

attribute [simp] Tryz.results57
theorem pu_57 {lent : Bool} {args : List V} {r : V} (hr : evK E (om E) 57 [] (Tryz.f57.body.getD .skip) (endK Tryz.prog Tryz.f57.results.toList (pureFin lent)) (args ++ pois (26 - args.length)) [[]] = some r) : pureV E (om E) 57 lent args = some r := pureV_of (dyn := []) rfl (by rw [E_P]; exact Tryz.func57) (by unfold Tryz.f57; rfl) (by kernel_rfl) (by rw [Tryz.ntmps57]; exact hr)
@[simp] theorem call_57 (args : List V) (h : Heap) : callV E (om E) 57 args h = (viewArgs h args).bind fun a => (pureV E (om E) 57 (!V.flatL args) a).map fun r => (r, h) := callV_pure rfl rfl args h
@[simp] theorem hint_57_0 : E.hint 57 3 = [.promote 3 4, .forget 5, .forget 10, .forget 11, .forget 12, .forget 13, .forget 14, .forget 15, .forget 16, .forget 17, .forget 18] := rfl

attribute [simp] Tryz.results58
@[simp] theorem call_58 (args : List V) (h : Heap) : callV E (om E) 58 args h = cloneCL 35184372088832 1 args h := callV_known rfl args h

attribute [simp] Tryz.results62
theorem pu_62 {lent : Bool} {args : List V} {r : V} (hr : evK E (om E) 62 [] (Tryz.f62.body.getD .skip) (endK Tryz.prog Tryz.f62.results.toList (pureFin lent)) (args ++ pois (42 - args.length)) [[]] = some r) : pureV E (om E) 62 lent args = some r := pureV_of (dyn := []) rfl (by rw [E_P]; exact Tryz.func62) (by unfold Tryz.f62; rfl) (by kernel_rfl) (by rw [Tryz.ntmps62]; exact hr)
@[simp] theorem call_62 (args : List V) (h : Heap) : callV E (om E) 62 args h = (viewArgs h args).bind fun a => (pureV E (om E) 62 (!V.flatL args) a).map fun r => (r, h) := callV_pure rfl rfl args h

attribute [simp] Tryz.results63
theorem pu_63 {lent : Bool} {args : List V} {r : V} (hr : evK E (om E) 63 [] (Tryz.f63.body.getD .skip) (endK Tryz.prog Tryz.f63.results.toList (pureFin lent)) (args ++ pois (21 - args.length)) [[]] = some r) : pureV E (om E) 63 lent args = some r := pureV_of (dyn := []) rfl (by rw [E_P]; exact Tryz.func63) (by unfold Tryz.f63; rfl) (by kernel_rfl) (by rw [Tryz.ntmps63]; exact hr)
@[simp] theorem call_63 (args : List V) (h : Heap) : callV E (om E) 63 args h = (viewArgs h args).bind fun a => (pureV E (om E) 63 (!V.flatL args) a).map fun r => (r, h) := callV_pure rfl rfl args h
@[simp] theorem hint_63_0 : E.hint 63 4 = [.forget 2, .forget 4, .forget 13, .forget 14, .forget 15, .forget 16, .forget 17, .forget 18, .forget 19, .forget 20] := rfl

attribute [simp] Tryz.results64
theorem he_64 {args : List V} {h : Heap} {r : V × Heap} (hr : evK E (om E) 64 [] (Tryz.f64.body.getD .skip) (endK Tryz.prog Tryz.f64.results.toList heapFin) (V.upL 1 args ++ pois (127 - (V.upL 1 args).length)) ([] :: h) = some r) : callV E (om E) 64 args h = some r := heap_of (dyn := []) rfl rfl rfl (by rw [E_P]; exact Tryz.func64) (by unfold Tryz.f64; rfl) (by kernel_rfl) (by rw [Tryz.ntmps64]; exact hr)
@[simp] theorem hint_64_0 : E.hint 64 9 = [.forget 4, .forget 6, .forget 7, .forget 83, .forget 84, .forget 85, .forget 86, .forget 87, .forget 88, .forget 89, .forget 90, .forget 91, .forget 92, .forget 93, .forget 94, .forget 95, .forget 96, .forget 97, .forget 98, .forget 99, .forget 100, .forget 101, .forget 102] := rfl

attribute [simp] Tryz.results70
@[simp] theorem call_70 (args : List V) (h : Heap) : callV E (om E) 70 args h = cloneCL 140737488355328 1 args h := callV_known rfl args h

attribute [simp] Tryz.results84
theorem he_84 {args : List V} {h : Heap} {r : V × Heap} (hr : evK E (om E) 84 [] (Tryz.f84.body.getD .skip) (endK Tryz.prog Tryz.f84.results.toList heapFin) (V.upL 1 args ++ pois (12 - (V.upL 1 args).length)) ([] :: h) = some r) : callV E (om E) 84 args h = some r := heap_of (dyn := []) rfl rfl rfl (by rw [E_P]; exact Tryz.func84) (by unfold Tryz.f84; rfl) (by kernel_rfl) (by rw [Tryz.ntmps84]; exact hr)
attribute [simp] Tryz.results87
theorem pu_87 {lent : Bool} {args : List V} {r : V} (hr : evK E (om E) 87 [] (Tryz.f87.body.getD .skip) (endK Tryz.prog Tryz.f87.results.toList (pureFin lent)) (args ++ pois (8 - args.length)) [[]] = some r) : pureV E (om E) 87 lent args = some r := pureV_of (dyn := []) rfl (by rw [E_P]; exact Tryz.func87) (by unfold Tryz.f87; rfl) (by kernel_rfl) (by rw [Tryz.ntmps87]; exact hr)
@[simp] theorem call_87 (args : List V) (h : Heap) : callV E (om E) 87 args h = (viewArgs h args).bind fun a => (pureV E (om E) 87 (!V.flatL args) a).map fun r => (r, h) := callV_pure rfl rfl args h

attribute [simp] Tryz.results94
theorem pu_94 {lent : Bool} {args : List V} {r : V} (hr : evK E (om E) 94 [] (Tryz.f94.body.getD .skip) (endK Tryz.prog Tryz.f94.results.toList (pureFin lent)) (args ++ pois (22 - args.length)) [[]] = some r) : pureV E (om E) 94 lent args = some r := pureV_of (dyn := []) rfl (by rw [E_P]; exact Tryz.func94) (by unfold Tryz.f94; rfl) (by kernel_rfl) (by rw [Tryz.ntmps94]; exact hr)
@[simp] theorem call_94 (args : List V) (h : Heap) : callV E (om E) 94 args h = (viewArgs h args).bind fun a => (pureV E (om E) 94 (!V.flatL args) a).map fun r => (r, h) := callV_pure rfl rfl args h

attribute [simp] Tryz.results95
theorem he_95 {args : List V} {h : Heap} {r : V × Heap} (hr : evK E (om E) 95 [] (Tryz.f95.body.getD .skip) (endK Tryz.prog Tryz.f95.results.toList heapFin) (V.upL 1 args ++ pois (22 - (V.upL 1 args).length)) ([] :: h) = some r) : callV E (om E) 95 args h = some r := heap_of (dyn := []) rfl rfl rfl (by rw [E_P]; exact Tryz.func95) (by unfold Tryz.f95; rfl) (by kernel_rfl) (by rw [Tryz.ntmps95]; exact hr)
attribute [simp] Tryz.results145
theorem he_145 {args : List V} {h : Heap} {r : V × Heap} (hr : evK E (om E) 145 [] (Tryz.f145.body.getD .skip) (endK Tryz.prog Tryz.f145.results.toList heapFin) (V.upL 1 args ++ pois (22 - (V.upL 1 args).length)) ([] :: h) = some r) : callV E (om E) 145 args h = some r := heap_of (dyn := []) rfl rfl rfl (by rw [E_P]; exact Tryz.func145) (by unfold Tryz.f145; rfl) (by kernel_rfl) (by rw [Tryz.ntmps145]; exact hr)
end Go.Proofs.YtijfffbhhlmgmaaGreatDoor
end
