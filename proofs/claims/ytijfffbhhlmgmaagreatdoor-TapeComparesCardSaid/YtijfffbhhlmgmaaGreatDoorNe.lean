/-
 Facts of the types. Printed by program.
 The machine's settings over this seat's program. Printed by program.
-/
import Derived.Test.YtijfffbhhlmgmaaGreatDoorProg
import Derived.Test.YtijfffbhhlmgmaaGreatDoorMe
import Derived.KernelRfl
import Derived.Test.YtijfffbhhlmgmaaGreatDoorMh
section
namespace Go.Proofs.YtijfffbhhlmgmaaGreatDoor
open Go Go.Sim
set_option maxRecDepth 100000
set_option linter.unusedVariables false
set_option linter.unusedSimpArgs false
@[simp] theorem agg_0 : isAggV Tryz.prog 0 = some false := by kernel_rfl
@[simp] theorem size_0 : sizeV Tryz.prog 0 = some 1 := by kernel_rfl
@[simp] theorem bytes_0 : bytesV Tryz.prog 0 = some 0 := by kernel_rfl
attribute [simp] Tryz.underlying0
@[simp] theorem agg_3 : isAggV Tryz.prog 3 = some false := by kernel_rfl
@[simp] theorem size_3 : sizeV Tryz.prog 3 = some 1 := by kernel_rfl
@[simp] theorem bytes_3 : bytesV Tryz.prog 3 = some 8 := by kernel_rfl
@[simp] theorem zero_3 : zeroV Tryz.prog 3 = some (.int .i64 0) := by kernel_rfl
attribute [simp] Tryz.underlying3
@[simp] theorem agg_4 : isAggV Tryz.prog 4 = some false := by kernel_rfl
@[simp] theorem size_4 : sizeV Tryz.prog 4 = some 1 := by kernel_rfl
@[simp] theorem bytes_4 : bytesV Tryz.prog 4 = some 1 := by kernel_rfl
@[simp] theorem zero_4 : zeroV Tryz.prog 4 = some (.bool false) := by kernel_rfl
attribute [simp] Tryz.underlying4
@[simp] theorem agg_5 : isAggV Tryz.prog 5 = some false := by kernel_rfl
@[simp] theorem size_5 : sizeV Tryz.prog 5 = some 1 := by kernel_rfl
@[simp] theorem bytes_5 : bytesV Tryz.prog 5 = some 1 := by kernel_rfl
@[simp] theorem zero_5 : zeroV Tryz.prog 5 = some (.int .u8 0) := by kernel_rfl
attribute [simp] Tryz.underlying5
@[simp] theorem agg_9 : isAggV Tryz.prog 9 = some false := by kernel_rfl
@[simp] theorem size_9 : sizeV Tryz.prog 9 = some 1 := by kernel_rfl
@[simp] theorem bytes_9 : bytesV Tryz.prog 9 = some 16 := by kernel_rfl
@[simp] theorem zero_9 : zeroV Tryz.prog 9 = some (.str []) := by kernel_rfl
attribute [simp] Tryz.underlying9
@[simp] theorem agg_22 : isAggV Tryz.prog 22 = some false := by kernel_rfl
@[simp] theorem size_22 : sizeV Tryz.prog 22 = some 1 := by kernel_rfl
@[simp] theorem bytes_22 : bytesV Tryz.prog 22 = some 8 := by kernel_rfl
@[simp] theorem zero_22 : zeroV Tryz.prog 22 = some (.int .u64 0) := by kernel_rfl
attribute [simp] Tryz.underlying22
@[simp] theorem agg_23 : isAggV Tryz.prog 23 = some false := by kernel_rfl
@[simp] theorem size_23 : sizeV Tryz.prog 23 = some 1 := by kernel_rfl
@[simp] theorem bytes_23 : bytesV Tryz.prog 23 = some 24 := by kernel_rfl
@[simp] theorem zero_23 : zeroV Tryz.prog 23 = some (.nilslice) := by kernel_rfl
attribute [simp] Tryz.underlying23
@[simp] theorem agg_24 : isAggV Tryz.prog 24 = some false := by kernel_rfl
@[simp] theorem size_24 : sizeV Tryz.prog 24 = some 1 := by kernel_rfl
@[simp] theorem bytes_24 : bytesV Tryz.prog 24 = some 24 := by kernel_rfl
@[simp] theorem zero_24 : zeroV Tryz.prog 24 = some (.nilslice) := by kernel_rfl
attribute [simp] Tryz.underlying24
@[simp] theorem agg_26 : isAggV Tryz.prog 26 = some true := by kernel_rfl
@[simp] theorem size_26 : sizeV Tryz.prog 26 = some 3 := by kernel_rfl
@[simp] theorem bytes_26 : bytesV Tryz.prog 26 = some 56 := by kernel_rfl
@[simp] theorem zero_26 : zeroV Tryz.prog 26 = some (.agg [.int .u64 0, .nilslice, .nilslice]) := by kernel_rfl
attribute [simp] Tryz.underlying26
@[simp] theorem agg_30 : isAggV Tryz.prog 30 = some false := by kernel_rfl
@[simp] theorem size_30 : sizeV Tryz.prog 30 = some 1 := by kernel_rfl
@[simp] theorem bytes_30 : bytesV Tryz.prog 30 = some 1 := by kernel_rfl
@[simp] theorem zero_30 : zeroV Tryz.prog 30 = some (.int .u8 0) := by kernel_rfl
attribute [simp] Tryz.underlying30
@[simp] theorem agg_32 : isAggV Tryz.prog 32 = some true := by kernel_rfl
@[simp] theorem size_32 : sizeV Tryz.prog 32 = some 3 := by kernel_rfl
@[simp] theorem bytes_32 : bytesV Tryz.prog 32 = some 24 := by kernel_rfl
@[simp] theorem zero_32 : zeroV Tryz.prog 32 = some (.agg [.int .u8 0, .int .i64 0, .int .i64 0]) := by kernel_rfl
attribute [simp] Tryz.underlying32
@[simp] theorem agg_39 : isAggV Tryz.prog 39 = some false := by kernel_rfl
@[simp] theorem size_39 : sizeV Tryz.prog 39 = some 1 := by kernel_rfl
@[simp] theorem bytes_39 : bytesV Tryz.prog 39 = some 1 := by kernel_rfl
@[simp] theorem zero_39 : zeroV Tryz.prog 39 = some (.int .u8 0) := by kernel_rfl
attribute [simp] Tryz.underlying39
@[simp] theorem agg_40 : isAggV Tryz.prog 40 = some false := by kernel_rfl
@[simp] theorem size_40 : sizeV Tryz.prog 40 = some 1 := by kernel_rfl
@[simp] theorem bytes_40 : bytesV Tryz.prog 40 = some 4 := by kernel_rfl
@[simp] theorem zero_40 : zeroV Tryz.prog 40 = some (.int .u32 0) := by kernel_rfl
attribute [simp] Tryz.underlying40
@[simp] theorem agg_41 : isAggV Tryz.prog 41 = some false := by kernel_rfl
@[simp] theorem size_41 : sizeV Tryz.prog 41 = some 1 := by kernel_rfl
@[simp] theorem bytes_41 : bytesV Tryz.prog 41 = some 24 := by kernel_rfl
@[simp] theorem zero_41 : zeroV Tryz.prog 41 = some (.nilslice) := by kernel_rfl
attribute [simp] Tryz.underlying41
@[simp] theorem agg_42 : isAggV Tryz.prog 42 = some false := by kernel_rfl
@[simp] theorem size_42 : sizeV Tryz.prog 42 = some 1 := by kernel_rfl
@[simp] theorem bytes_42 : bytesV Tryz.prog 42 = some 24 := by kernel_rfl
@[simp] theorem zero_42 : zeroV Tryz.prog 42 = some (.nilslice) := by kernel_rfl
attribute [simp] Tryz.underlying42
@[simp] theorem agg_43 : isAggV Tryz.prog 43 = some false := by kernel_rfl
@[simp] theorem size_43 : sizeV Tryz.prog 43 = some 1 := by kernel_rfl
@[simp] theorem bytes_43 : bytesV Tryz.prog 43 = some 1 := by kernel_rfl
@[simp] theorem zero_43 : zeroV Tryz.prog 43 = some (.int .u8 0) := by kernel_rfl
attribute [simp] Tryz.underlying43
@[simp] theorem agg_44 : isAggV Tryz.prog 44 = some false := by kernel_rfl
@[simp] theorem size_44 : sizeV Tryz.prog 44 = some 1 := by kernel_rfl
@[simp] theorem bytes_44 : bytesV Tryz.prog 44 = some 1 := by kernel_rfl
@[simp] theorem zero_44 : zeroV Tryz.prog 44 = some (.int .u8 0) := by kernel_rfl
attribute [simp] Tryz.underlying44
@[simp] theorem agg_45 : isAggV Tryz.prog 45 = some false := by kernel_rfl
@[simp] theorem size_45 : sizeV Tryz.prog 45 = some 1 := by kernel_rfl
@[simp] theorem bytes_45 : bytesV Tryz.prog 45 = some 24 := by kernel_rfl
@[simp] theorem zero_45 : zeroV Tryz.prog 45 = some (.nilslice) := by kernel_rfl
attribute [simp] Tryz.underlying45
@[simp] theorem agg_47 : isAggV Tryz.prog 47 = some true := by kernel_rfl
@[simp] theorem size_47 : sizeV Tryz.prog 47 = some 4 := by kernel_rfl
@[simp] theorem bytes_47 : bytesV Tryz.prog 47 = some 40 := by kernel_rfl
@[simp] theorem zero_47 : zeroV Tryz.prog 47 = some (.agg [.int .u32 0, .int .u32 0, .nilslice, .int .u32 0]) := by kernel_rfl
attribute [simp] Tryz.underlying47
@[simp] theorem agg_49 : isAggV Tryz.prog 49 = some true := by kernel_rfl
@[simp] theorem size_49 : sizeV Tryz.prog 49 = some 11 := by kernel_rfl
@[simp] theorem bytes_49 : bytesV Tryz.prog 49 = some 96 := by kernel_rfl
@[simp] theorem zero_49 : zeroV Tryz.prog 49 = some (.agg [.int .u8 0, .int .u32 0, .int .u32 0, .int .u8 0, .int .i64 0, .int .i64 0, .nilslice, .int .u32 0, .int .u32 0, .nilslice, .int .u32 0]) := by kernel_rfl
attribute [simp] Tryz.underlying49
@[simp] theorem agg_51 : isAggV Tryz.prog 51 = some true := by kernel_rfl
@[simp] theorem size_51 : sizeV Tryz.prog 51 = some 16 := by kernel_rfl
@[simp] theorem bytes_51 : bytesV Tryz.prog 51 = some 160 := by kernel_rfl
@[simp] theorem zero_51 : zeroV Tryz.prog 51 = some (.agg [.int .u8 0, .int .u32 0, .nilslice, .int .i64 0, .nilslice, .int .u8 0, .int .u32 0, .int .u32 0, .int .u8 0, .int .i64 0, .int .i64 0, .nilslice, .int .u32 0, .int .u32 0, .nilslice, .int .u32 0]) := by kernel_rfl
attribute [simp] Tryz.underlying51
@[simp] theorem agg_52 : isAggV Tryz.prog 52 = some false := by kernel_rfl
@[simp] theorem size_52 : sizeV Tryz.prog 52 = some 1 := by kernel_rfl
@[simp] theorem bytes_52 : bytesV Tryz.prog 52 = some 24 := by kernel_rfl
@[simp] theorem zero_52 : zeroV Tryz.prog 52 = some (.nilslice) := by kernel_rfl
attribute [simp] Tryz.underlying52
@[simp] theorem agg_54 : isAggV Tryz.prog 54 = some true := by kernel_rfl
@[simp] theorem size_54 : sizeV Tryz.prog 54 = some 2 := by kernel_rfl
@[simp] theorem bytes_54 : bytesV Tryz.prog 54 = some 32 := by kernel_rfl
@[simp] theorem zero_54 : zeroV Tryz.prog 54 = some (.agg [.int .u32 0, .nilslice]) := by kernel_rfl
attribute [simp] Tryz.underlying54
@[simp] theorem agg_55 : isAggV Tryz.prog 55 = some false := by kernel_rfl
@[simp] theorem size_55 : sizeV Tryz.prog 55 = some 1 := by kernel_rfl
@[simp] theorem bytes_55 : bytesV Tryz.prog 55 = some 24 := by kernel_rfl
@[simp] theorem zero_55 : zeroV Tryz.prog 55 = some (.nilslice) := by kernel_rfl
attribute [simp] Tryz.underlying55
@[simp] theorem agg_57 : isAggV Tryz.prog 57 = some true := by kernel_rfl
@[simp] theorem size_57 : sizeV Tryz.prog 57 = some 2 := by kernel_rfl
@[simp] theorem bytes_57 : bytesV Tryz.prog 57 = some 32 := by kernel_rfl
@[simp] theorem zero_57 : zeroV Tryz.prog 57 = some (.agg [.int .u32 0, .nilslice]) := by kernel_rfl
attribute [simp] Tryz.underlying57
@[simp] theorem agg_67 : isAggV Tryz.prog 67 = some true := by kernel_rfl
@[simp] theorem size_67 : sizeV Tryz.prog 67 = some 2 := by kernel_rfl
@[simp] theorem bytes_67 : bytesV Tryz.prog 67 = some 16 := by kernel_rfl
@[simp] theorem zero_67 : zeroV Tryz.prog 67 = some (.agg [.int .u32 0, .int .i64 0]) := by kernel_rfl
attribute [simp] Tryz.underlying67
@[simp] theorem agg_70 : isAggV Tryz.prog 70 = some false := by kernel_rfl
@[simp] theorem size_70 : sizeV Tryz.prog 70 = some 1 := by kernel_rfl
@[simp] theorem bytes_70 : bytesV Tryz.prog 70 = some 8 := by kernel_rfl
attribute [simp] Tryz.underlying70
@[simp] theorem agg_71 : isAggV Tryz.prog 71 = some false := by kernel_rfl
@[simp] theorem size_71 : sizeV Tryz.prog 71 = some 1 := by kernel_rfl
@[simp] theorem bytes_71 : bytesV Tryz.prog 71 = some 0 := by kernel_rfl
attribute [simp] Tryz.underlying71
@[simp] theorem agg_98 : isAggV Tryz.prog 98 = some false := by kernel_rfl
@[simp] theorem size_98 : sizeV Tryz.prog 98 = some 1 := by kernel_rfl
@[simp] theorem bytes_98 : bytesV Tryz.prog 98 = some 8 := by kernel_rfl
attribute [simp] Tryz.underlying98
end Go.Proofs.YtijfffbhhlmgmaaGreatDoor
end
section
namespace Go.Proofs.YtijfffbhhlmgmaaGreatDoor
open Go Go.Sim
set_option maxRecDepth 100000
set_option linter.unusedVariables false
set_option linter.unusedSimpArgs false
def modeT (f : Nat) : Sim.Mode :=
 match f with
 | 7 => .own
 | 14 => .own
 | 15 => .own
 | _ => .pure
def fgs (l : List Nat) : List Hint := l.map .forget
def hintT (f r : Nat) : List Hint :=
 match f, r with
 | 5, 3 => fgs [5, 6, 7, 8, 9, 10, 11, 12, 13, 14, 15, 16, 17, 18, 19, 20, 21, 22, 23, 24, 25, 26, 27, 28, 29, 30, 31, 32, 33, 34, 35, 36, 37, 38, 39, 40, 41, 42, 43, 44, 45, 46, 47, 48, 49, 50, 51, 52, 53, 54, 55, 56, 57, 58, 59, 60, 61, 62, 63, 64, 65, 66, 67, 68, 69, 70, 71, 72, 73, 74, 75, 76, 77, 78, 79, 80, 81, 82, 83, 84, 85, 86, 87, 88, 89, 90, 91, 92, 93, 94, 95, 96, 97, 98, 99, 100, 101, 102, 103, 104, 105, 106, 107, 108, 109, 110, 111, 112, 113, 114, 115]
 | 5, 8 => fgs [7, 46, 47, 48, 49, 50, 51, 52, 53, 54, 55, 56, 57, 58, 59, 60, 61, 62, 63, 64, 65, 66, 67, 68, 69, 70, 71, 72, 73, 74, 75, 76, 77, 78, 79, 80, 81, 82, 83, 84, 85, 86, 87, 88, 89, 90, 91, 92, 93]
 | 5, 12 => fgs [66, 67, 68, 69, 70, 71, 72, 73, 74, 75, 76, 77, 78, 79, 80, 81, 82, 83, 84, 85, 86, 87, 88, 89, 90, 91, 92, 93]
 | 5, 16 => fgs [94, 95, 96, 97, 98, 99, 100, 101, 102, 103, 104, 105, 106, 107, 108, 109, 110, 111, 112, 113, 114, 115]
 | 7, 4 => .promoteBox 6 11 4 :: .promoteBox 3 2 16 :: fgs [5, 6, 7, 8, 18, 19, 20, 21, 22, 23, 24, 25, 26, 27, 28, 29, 30, 31, 32, 33, 34, 35, 36, 37, 38, 39, 40, 41, 42, 43, 44, 45, 46, 47, 48, 49, 50, 51, 52, 53, 54, 55, 56, 57, 58, 59, 60, 61, 62, 63, 64, 65, 66, 67, 68, 69, 70, 71, 72, 73, 74, 75, 76, 77, 78, 79, 80]
 | 7, 12 => .promoteBox 6 11 4 :: fgs [8, 41, 42, 43, 44, 45, 46, 47, 48, 49, 50, 51, 52, 53, 54, 55, 56, 57, 58, 59, 60, 61, 62, 63, 64, 65, 66]
 | 8, 5 => fgs [6, 7, 8, 9, 10, 34, 35, 36, 37, 38, 39, 40, 41, 42, 43, 44, 45, 46, 47, 48, 49, 50, 51, 52, 53, 54, 55, 56, 57, 58, 59, 60, 61, 62, 63, 64, 65, 66, 67, 68, 69, 70, 71, 72, 73, 74, 75, 76, 77, 78, 79, 80, 81, 82, 83, 84, 85, 86, 87, 88, 89, 90, 91, 92, 93, 94, 95, 96, 97]
 | 9, 4 => fgs [6, 7, 22, 23, 24, 25, 26, 27, 28, 29, 30, 31, 32, 33, 34, 35, 36, 37, 38, 39, 40, 41, 42, 43, 44, 45, 46, 47, 48, 49, 50, 51, 52, 53, 54, 55, 56, 57, 58, 59, 60, 61, 62, 63, 64, 65, 66, 67, 68, 69, 70, 71]
 | 15, 3 => .promote 7 1 :: .promoteBox 5 1 2 :: .promote 3 2 :: fgs [5, 6, 7, 8, 9, 10, 11, 12, 13, 14, 15, 16, 17, 18, 19, 20, 21, 22, 23, 24, 25, 26, 27, 28, 29, 30, 31, 32, 33, 34, 35, 36, 37, 38, 39, 40, 41, 42, 43, 44, 45, 46, 47, 48, 49, 50, 51, 52, 53, 54, 55, 56, 57, 58, 59, 60]
 | 15, 7 => .promote 7 1 :: .promoteBox 5 1 2 :: fgs [7, 20, 21, 22, 23, 24, 25, 26, 27, 28, 29, 30, 31, 32, 33, 34, 35, 36, 37, 38, 39, 40, 41, 42, 43, 44, 45, 46, 47, 48, 49, 50, 51, 52, 53, 54, 55, 56]
 | 16, 4 => fgs [4, 5, 14, 15, 16, 17, 18, 19, 20, 21, 22, 23, 24, 25]
 | 17, 4 => fgs [4, 5, 14, 15, 16, 17, 18, 19, 20, 21, 22, 23, 24, 25]
 | 18, 4 => fgs [6, 7, 8, 9, 18, 19, 20, 21, 22, 23, 24, 25, 26, 27, 28, 29, 30, 31]
 | 20, 8 => fgs [4, 5, 6, 54, 55, 56, 57, 58, 59, 60, 61, 62, 63, 64, 65, 66, 67, 68, 69, 70, 71, 72, 73, 74, 75, 76, 77, 78, 79, 80, 81, 82, 83]
 | 21, 4 => fgs [4, 11, 12, 13, 14, 15, 16, 17, 18, 19, 20, 21, 22, 23, 24, 25, 26, 27, 28, 29, 30, 31, 32, 33, 34, 35, 36, 37, 38, 39, 40]
 | 22, 4 => fgs [4, 42, 43, 44, 45, 46, 47, 48, 49, 50, 51, 52, 53, 54, 55, 56, 57, 58, 59, 60]
 | 23, 8 => fgs [43, 44, 45, 46, 47, 48, 49, 50, 51, 52, 53, 54, 55, 56, 57, 58, 59, 60, 61, 62, 63, 64, 65, 66, 67, 68, 69]
 | 35, 4 => fgs [6, 7, 8, 9, 18, 19, 20, 21, 22, 23, 24, 25, 26, 27, 28, 29, 30, 31]
 | 39, 4 => fgs [4, 11, 12, 13, 14, 15, 16, 17, 18, 19, 20, 21, 22, 23, 24, 25]
 | 40, 4 => fgs [4, 6, 7, 8, 23, 24, 25, 26, 27, 28, 29, 30, 31, 32, 33, 34, 35, 36, 37, 38, 39, 40, 41, 42, 43, 44, 45, 46, 47, 48, 49, 50, 51, 52, 53, 54, 55, 56, 57, 58, 59, 60, 61, 62, 63, 64, 65, 66, 67, 68, 69, 70, 71]
 | 40, 11 => fgs [4, 54, 55, 56, 57, 58, 59, 60, 61, 62, 63, 64, 65, 66, 67, 68, 69, 70, 71]
 | _, _ => []
noncomputable def knownT (f : Nat) : Option (List V → Heap → Option (V × Heap)) :=
 match f with
 | 6 => some (Kr.trueV)
 | _ => none
noncomputable def E : Env := { P := Tryz.prog, mode := modeT, hint := hintT, known := knownT, eqTypes := [32, 67, 130], fns := fun f => Nat.blt f 382, frame := fun f => Nat.beq f 6 }
@[simp] theorem E_P : E.P = Tryz.prog := rfl
/-! 3: playpen/playpenlaw27.TapeCompares -/
attribute [simp] Tryz.results3
theorem pu_3 {lent : Bool} {args : List V} {r : V} (hr : evK E (om E) 3 [6] (Tryz.f3.body.getD .skip) (endK Tryz.prog Tryz.f3.results.toList (pureFin lent)) (args ++ pois (47 - args.length)) [[]] = some r) : pureV E (om E) 3 lent args = some r := pureV_of (dyn := [6]) rfl (by rw [E_P]; exact Tryz.func3) (by unfold Tryz.f3; rfl) (by kernel_rfl) (by rw [Tryz.ntmps3]; exact hr)
@[simp] theorem call_3 (args : List V) (h : Heap) : callV E (om E) 3 args h = (viewArgs h args).bind fun a => (pureV E (om E) 3 (!V.flatL args) a).map fun r => (r, h) := callV_pure rfl rfl args h

/-! 5: playpen/playpenlaw27.heavy -/
attribute [simp] Tryz.results5
theorem pu_5 {lent : Bool} {args : List V} {r : V} (hr : evK E (om E) 5 [] (Tryz.f5.body.getD .skip) (endK Tryz.prog Tryz.f5.results.toList (pureFin lent)) (args ++ pois (118 - args.length)) [[]] = some r) : pureV E (om E) 5 lent args = some r := pureV_of (dyn := []) rfl (by rw [E_P]; exact Tryz.func5) (by unfold Tryz.f5; rfl) (by kernel_rfl) (by rw [Tryz.ntmps5]; exact hr)
@[simp] theorem call_5 (args : List V) (h : Heap) : callV E (om E) 5 args h = (viewArgs h args).bind fun a => (pureV E (om E) 5 (!V.flatL args) a).map fun r => (r, h) := callV_pure rfl rfl args h
@[simp] theorem hint_5_0 : E.hint 5 3 = [.forget 5, .forget 6, .forget 7, .forget 8, .forget 9, .forget 10, .forget 11, .forget 12, .forget 13, .forget 14, .forget 15, .forget 16, .forget 17, .forget 18, .forget 19, .forget 20, .forget 21, .forget 22, .forget 23, .forget 24, .forget 25, .forget 26, .forget 27, .forget 28, .forget 29, .forget 30, .forget 31, .forget 32, .forget 33, .forget 34, .forget 35, .forget 36, .forget 37, .forget 38, .forget 39, .forget 40, .forget 41, .forget 42, .forget 43, .forget 44, .forget 45, .forget 46, .forget 47, .forget 48, .forget 49, .forget 50, .forget 51, .forget 52, .forget 53, .forget 54, .forget 55, .forget 56, .forget 57, .forget 58, .forget 59, .forget 60, .forget 61, .forget 62, .forget 63, .forget 64, .forget 65, .forget 66, .forget 67, .forget 68, .forget 69, .forget 70, .forget 71, .forget 72, .forget 73, .forget 74, .forget 75, .forget 76, .forget 77, .forget 78, .forget 79, .forget 80, .forget 81, .forget 82, .forget 83, .forget 84, .forget 85, .forget 86, .forget 87, .forget 88, .forget 89, .forget 90, .forget 91, .forget 92, .forget 93, .forget 94, .forget 95, .forget 96, .forget 97, .forget 98, .forget 99, .forget 100, .forget 101, .forget 102, .forget 103, .forget 104, .forget 105, .forget 106, .forget 107, .forget 108, .forget 109, .forget 110, .forget 111, .forget 112, .forget 113, .forget 114, .forget 115] := rfl
@[simp] theorem hint_5_1 : E.hint 5 8 = [.forget 7, .forget 46, .forget 47, .forget 48, .forget 49, .forget 50, .forget 51, .forget 52, .forget 53, .forget 54, .forget 55, .forget 56, .forget 57, .forget 58, .forget 59, .forget 60, .forget 61, .forget 62, .forget 63, .forget 64, .forget 65, .forget 66, .forget 67, .forget 68, .forget 69, .forget 70, .forget 71, .forget 72, .forget 73, .forget 74, .forget 75, .forget 76, .forget 77, .forget 78, .forget 79, .forget 80, .forget 81, .forget 82, .forget 83, .forget 84, .forget 85, .forget 86, .forget 87, .forget 88, .forget 89, .forget 90, .forget 91, .forget 92, .forget 93] := rfl
@[simp] theorem hint_5_2 : E.hint 5 12 = [.forget 66, .forget 67, .forget 68, .forget 69, .forget 70, .forget 71, .forget 72, .forget 73, .forget 74, .forget 75, .forget 76, .forget 77, .forget 78, .forget 79, .forget 80, .forget 81, .forget 82, .forget 83, .forget 84, .forget 85, .forget 86, .forget 87, .forget 88, .forget 89, .forget 90, .forget 91, .forget 92, .forget 93] := rfl
@[simp] theorem hint_5_3 : E.hint 5 16 = [.forget 94, .forget 95, .forget 96, .forget 97, .forget 98, .forget 99, .forget 100, .forget 101, .forget 102, .forget 103, .forget 104, .forget 105, .forget 106, .forget 107, .forget 108, .forget 109, .forget 110, .forget 111, .forget 112, .forget 113, .forget 114, .forget 115] := rfl

@[simp] theorem call_6 (args : List V) (h : Heap) : callV E (om E) 6 args h = (Kr.trueV) args h := callV_known rfl args h
/-! 7: playpen/playpenlaw27.copied -/
attribute [simp] Tryz.results7
theorem bo_7 {args : List V} {h : Heap} {r : V × Heap} (hr : evK E (om E) 7 [] (Tryz.f7.body.getD .skip) (endK Tryz.prog Tryz.f7.results.toList bodyFin) (args ++ pois (82 - args.length)) h = some r) : bodyV E (om E) 7 args h = some r := bodyV_of (dyn := []) rfl (by rw [E_P]; exact Tryz.func7) (by unfold Tryz.f7; rfl) (by kernel_rfl) (by rw [Tryz.ntmps7]; exact hr)
theorem call_7 (args : List V) (h : Heap) : callV E (om E) 7 args h = (viewArgs h args).bind fun args' => (bodyV E (om E) 7 args' [[]]).bind fun x => if !V.flatL args && !V.own x.2 x.1 then some (V.out h.top.length (V.strip x.1), h.setTop (h.top ++ (x.2.top.map stripBlk).map (outBlk h.top.length))) else some (V.out h.top.length x.1, h.setTop (h.top ++ x.2.top.map (outBlk h.top.length))) := callV_own rfl rfl args h
@[simp] theorem hint_7_0 : E.hint 7 4 = [.promoteBox 6 11 4, .promoteBox 3 2 16, .forget 5, .forget 6, .forget 7, .forget 8, .forget 18, .forget 19, .forget 20, .forget 21, .forget 22, .forget 23, .forget 24, .forget 25, .forget 26, .forget 27, .forget 28, .forget 29, .forget 30, .forget 31, .forget 32, .forget 33, .forget 34, .forget 35, .forget 36, .forget 37, .forget 38, .forget 39, .forget 40, .forget 41, .forget 42, .forget 43, .forget 44, .forget 45, .forget 46, .forget 47, .forget 48, .forget 49, .forget 50, .forget 51, .forget 52, .forget 53, .forget 54, .forget 55, .forget 56, .forget 57, .forget 58, .forget 59, .forget 60, .forget 61, .forget 62, .forget 63, .forget 64, .forget 65, .forget 66, .forget 67, .forget 68, .forget 69, .forget 70, .forget 71, .forget 72, .forget 73, .forget 74, .forget 75, .forget 76, .forget 77, .forget 78, .forget 79, .forget 80] := rfl
@[simp] theorem hint_7_1 : E.hint 7 12 = [.promoteBox 6 11 4, .forget 8, .forget 41, .forget 42, .forget 43, .forget 44, .forget 45, .forget 46, .forget 47, .forget 48, .forget 49, .forget 50, .forget 51, .forget 52, .forget 53, .forget 54, .forget 55, .forget 56, .forget 57, .forget 58, .forget 59, .forget 60, .forget 61, .forget 62, .forget 63, .forget 64, .forget 65, .forget 66] := rfl

/-! 8: playpen/tape.Compare -/
attribute [simp] Tryz.results8
theorem pu_8 {lent : Bool} {args : List V} {r : V} (hr : evK E (om E) 8 [7] (Tryz.f8.body.getD .skip) (endK Tryz.prog Tryz.f8.results.toList (pureFin lent)) (args ++ pois (108 - args.length)) [[]] = some r) : pureV E (om E) 8 lent args = some r := pureV_of (dyn := [7]) rfl (by rw [E_P]; exact Tryz.func8) (by unfold Tryz.f8; rfl) (by kernel_rfl) (by rw [Tryz.ntmps8]; exact hr)
@[simp] theorem call_8 (args : List V) (h : Heap) : callV E (om E) 8 args h = (viewArgs h args).bind fun a => (pureV E (om E) 8 (!V.flatL args) a).map fun r => (r, h) := callV_pure rfl rfl args h
@[simp] theorem hint_8_0 : E.hint 8 5 = [.forget 6, .forget 7, .forget 8, .forget 9, .forget 10, .forget 34, .forget 35, .forget 36, .forget 37, .forget 38, .forget 39, .forget 40, .forget 41, .forget 42, .forget 43, .forget 44, .forget 45, .forget 46, .forget 47, .forget 48, .forget 49, .forget 50, .forget 51, .forget 52, .forget 53, .forget 54, .forget 55, .forget 56, .forget 57, .forget 58, .forget 59, .forget 60, .forget 61, .forget 62, .forget 63, .forget 64, .forget 65, .forget 66, .forget 67, .forget 68, .forget 69, .forget 70, .forget 71, .forget 72, .forget 73, .forget 74, .forget 75, .forget 76, .forget 77, .forget 78, .forget 79, .forget 80, .forget 81, .forget 82, .forget 83, .forget 84, .forget 85, .forget 86, .forget 87, .forget 88, .forget 89, .forget 90, .forget 91, .forget 92, .forget 93, .forget 94, .forget 95, .forget 96, .forget 97] := rfl

/-! 9: playpen/playpenref27.Compare -/
attribute [simp] Tryz.results9
theorem pu_9 {lent : Bool} {args : List V} {r : V} (hr : evK E (om E) 9 [] (Tryz.f9.body.getD .skip) (endK Tryz.prog Tryz.f9.results.toList (pureFin lent)) (args ++ pois (82 - args.length)) [[]] = some r) : pureV E (om E) 9 lent args = some r := pureV_of (dyn := []) rfl (by rw [E_P]; exact Tryz.func9) (by unfold Tryz.f9; rfl) (by kernel_rfl) (by rw [Tryz.ntmps9]; exact hr)
@[simp] theorem call_9 (args : List V) (h : Heap) : callV E (om E) 9 args h = (viewArgs h args).bind fun a => (pureV E (om E) 9 (!V.flatL args) a).map fun r => (r, h) := callV_pure rfl rfl args h
@[simp] theorem hint_9_0 : E.hint 9 4 = [.forget 6, .forget 7, .forget 22, .forget 23, .forget 24, .forget 25, .forget 26, .forget 27, .forget 28, .forget 29, .forget 30, .forget 31, .forget 32, .forget 33, .forget 34, .forget 35, .forget 36, .forget 37, .forget 38, .forget 39, .forget 40, .forget 41, .forget 42, .forget 43, .forget 44, .forget 45, .forget 46, .forget 47, .forget 48, .forget 49, .forget 50, .forget 51, .forget 52, .forget 53, .forget 54, .forget 55, .forget 56, .forget 57, .forget 58, .forget 59, .forget 60, .forget 61, .forget 62, .forget 63, .forget 64, .forget 65, .forget 66, .forget 67, .forget 68, .forget 69, .forget 70, .forget 71] := rfl

/-! 10: playpen/playpenlaw27.same -/
attribute [simp] Tryz.results10
theorem pu_10 {lent : Bool} {args : List V} {r : V} (hr : evK E (om E) 10 [] (Tryz.f10.body.getD .skip) (endK Tryz.prog Tryz.f10.results.toList (pureFin lent)) (args ++ pois (10 - args.length)) [[]] = some r) : pureV E (om E) 10 lent args = some r := pureV_of (dyn := []) rfl (by rw [E_P]; exact Tryz.func10) (by unfold Tryz.f10; rfl) (by kernel_rfl) (by rw [Tryz.ntmps10]; exact hr)
@[simp] theorem call_10 (args : List V) (h : Heap) : callV E (om E) 10 args h = (viewArgs h args).bind fun a => (pureV E (om E) 10 (!V.flatL args) a).map fun r => (r, h) := callV_pure rfl rfl args h

/-! 14: playpen/playpenlaw27.words -/
attribute [simp] Tryz.results14
theorem bo_14 {args : List V} {h : Heap} {r : V × Heap} (hr : evK E (om E) 14 [] (Tryz.f14.body.getD .skip) (endK Tryz.prog Tryz.f14.results.toList bodyFin) (args ++ pois (7 - args.length)) h = some r) : bodyV E (om E) 14 args h = some r := bodyV_of (dyn := []) rfl (by rw [E_P]; exact Tryz.func14) (by unfold Tryz.f14; rfl) (by kernel_rfl) (by rw [Tryz.ntmps14]; exact hr)
theorem call_14 (args : List V) (h : Heap) : callV E (om E) 14 args h = (viewArgs h args).bind fun args' => (bodyV E (om E) 14 args' [[]]).bind fun x => if !V.flatL args && !V.own x.2 x.1 then some (V.out h.top.length (V.strip x.1), h.setTop (h.top ++ (x.2.top.map stripBlk).map (outBlk h.top.length))) else some (V.out h.top.length x.1, h.setTop (h.top ++ x.2.top.map (outBlk h.top.length))) := callV_own rfl rfl args h

/-! 15: playpen/playpenlaw27.replies -/
attribute [simp] Tryz.results15
theorem bo_15 {args : List V} {h : Heap} {r : V × Heap} (hr : evK E (om E) 15 [] (Tryz.f15.body.getD .skip) (endK Tryz.prog Tryz.f15.results.toList bodyFin) (args ++ pois (62 - args.length)) h = some r) : bodyV E (om E) 15 args h = some r := bodyV_of (dyn := []) rfl (by rw [E_P]; exact Tryz.func15) (by unfold Tryz.f15; rfl) (by kernel_rfl) (by rw [Tryz.ntmps15]; exact hr)
theorem call_15 (args : List V) (h : Heap) : callV E (om E) 15 args h = (viewArgs h args).bind fun args' => (bodyV E (om E) 15 args' [[]]).bind fun x => if !V.flatL args && !V.own x.2 x.1 then some (V.out h.top.length (V.strip x.1), h.setTop (h.top ++ (x.2.top.map stripBlk).map (outBlk h.top.length))) else some (V.out h.top.length x.1, h.setTop (h.top ++ x.2.top.map (outBlk h.top.length))) := callV_own rfl rfl args h
@[simp] theorem hint_15_0 : E.hint 15 3 = [.promote 7 1, .promoteBox 5 1 2, .promote 3 2, .forget 5, .forget 6, .forget 7, .forget 8, .forget 9, .forget 10, .forget 11, .forget 12, .forget 13, .forget 14, .forget 15, .forget 16, .forget 17, .forget 18, .forget 19, .forget 20, .forget 21, .forget 22, .forget 23, .forget 24, .forget 25, .forget 26, .forget 27, .forget 28, .forget 29, .forget 30, .forget 31, .forget 32, .forget 33, .forget 34, .forget 35, .forget 36, .forget 37, .forget 38, .forget 39, .forget 40, .forget 41, .forget 42, .forget 43, .forget 44, .forget 45, .forget 46, .forget 47, .forget 48, .forget 49, .forget 50, .forget 51, .forget 52, .forget 53, .forget 54, .forget 55, .forget 56, .forget 57, .forget 58, .forget 59, .forget 60] := rfl
@[simp] theorem hint_15_1 : E.hint 15 7 = [.promote 7 1, .promoteBox 5 1 2, .forget 7, .forget 20, .forget 21, .forget 22, .forget 23, .forget 24, .forget 25, .forget 26, .forget 27, .forget 28, .forget 29, .forget 30, .forget 31, .forget 32, .forget 33, .forget 34, .forget 35, .forget 36, .forget 37, .forget 38, .forget 39, .forget 40, .forget 41, .forget 42, .forget 43, .forget 44, .forget 45, .forget 46, .forget 47, .forget 48, .forget 49, .forget 50, .forget 51, .forget 52, .forget 53, .forget 54, .forget 55, .forget 56] := rfl

/-! 16: slices.Equal[[]playpen/api.Grant,playpen/api.Grant] -/
attribute [simp] Tryz.results16
theorem pu_16 {lent : Bool} {args : List V} {r : V} (hr : evK E (om E) 16 [] (Tryz.f16.body.getD .skip) (endK Tryz.prog Tryz.f16.results.toList (pureFin lent)) (args ++ pois (26 - args.length)) [[]] = some r) : pureV E (om E) 16 lent args = some r := pureV_of (dyn := []) rfl (by rw [E_P]; exact Tryz.func16) (by unfold Tryz.f16; rfl) (by kernel_rfl) (by rw [Tryz.ntmps16]; exact hr)
@[simp] theorem call_16 (args : List V) (h : Heap) : callV E (om E) 16 args h = (viewArgs h args).bind fun a => (pureV E (om E) 16 (!V.flatL args) a).map fun r => (r, h) := callV_pure rfl rfl args h
@[simp] theorem hint_16_0 : E.hint 16 4 = [.forget 4, .forget 5, .forget 14, .forget 15, .forget 16, .forget 17, .forget 18, .forget 19, .forget 20, .forget 21, .forget 22, .forget 23, .forget 24, .forget 25] := rfl

/-! 17: slices.Equal[[]uint32,uint32] -/
attribute [simp] Tryz.results17
theorem pu_17 {lent : Bool} {args : List V} {r : V} (hr : evK E (om E) 17 [] (Tryz.f17.body.getD .skip) (endK Tryz.prog Tryz.f17.results.toList (pureFin lent)) (args ++ pois (26 - args.length)) [[]] = some r) : pureV E (om E) 17 lent args = some r := pureV_of (dyn := []) rfl (by rw [E_P]; exact Tryz.func17) (by unfold Tryz.f17; rfl) (by kernel_rfl) (by rw [Tryz.ntmps17]; exact hr)
@[simp] theorem call_17 (args : List V) (h : Heap) : callV E (om E) 17 args h = (viewArgs h args).bind fun a => (pureV E (om E) 17 (!V.flatL args) a).map fun r => (r, h) := callV_pure rfl rfl args h
@[simp] theorem hint_17_0 : E.hint 17 4 = [.forget 4, .forget 5, .forget 14, .forget 15, .forget 16, .forget 17, .forget 18, .forget 19, .forget 20, .forget 21, .forget 22, .forget 23, .forget 24, .forget 25] := rfl

/-! 18: slices.EqualFunc[[]playpen/api.Reply,[]playpen/api.Reply,playpen/api.Reply,playpen/api.Reply] -/
attribute [simp] Tryz.results18
theorem pu_18 {lent : Bool} {args : List V} {r : V} (hr : evK E (om E) 18 [] (Tryz.f18.body.getD .skip) (endK Tryz.prog Tryz.f18.results.toList (pureFin lent)) (args ++ pois (32 - args.length)) [[]] = some r) : pureV E (om E) 18 lent args = some r := pureV_of (dyn := []) rfl (by rw [E_P]; exact Tryz.func18) (by unfold Tryz.f18; rfl) (by kernel_rfl) (by rw [Tryz.ntmps18]; exact hr)
@[simp] theorem call_18 (args : List V) (h : Heap) : callV E (om E) 18 args h = (viewArgs h args).bind fun a => (pureV E (om E) 18 (!V.flatL args) a).map fun r => (r, h) := callV_pure rfl rfl args h
@[simp] theorem hint_18_0 : E.hint 18 4 = [.forget 6, .forget 7, .forget 8, .forget 9, .forget 18, .forget 19, .forget 20, .forget 21, .forget 22, .forget 23, .forget 24, .forget 25, .forget 26, .forget 27, .forget 28, .forget 29, .forget 30, .forget 31] := rfl

/-! 19: playpen/tape.sameReply -/
attribute [simp] Tryz.results19
theorem pu_19 {lent : Bool} {args : List V} {r : V} (hr : evK E (om E) 19 [] (Tryz.f19.body.getD .skip) (endK Tryz.prog Tryz.f19.results.toList (pureFin lent)) (args ++ pois (17 - args.length)) [[]] = some r) : pureV E (om E) 19 lent args = some r := pureV_of (dyn := []) rfl (by rw [E_P]; exact Tryz.func19) (by unfold Tryz.f19; rfl) (by kernel_rfl) (by rw [Tryz.ntmps19]; exact hr)
@[simp] theorem call_19 (args : List V) (h : Heap) : callV E (om E) 19 args h = (viewArgs h args).bind fun a => (pureV E (om E) 19 (!V.flatL args) a).map fun r => (r, h) := callV_pure rfl rfl args h

/-! 20: playpen/tape.results -/
attribute [simp] Tryz.results20
theorem pu_20 {lent : Bool} {args : List V} {r : V} (hr : evK E (om E) 20 [] (Tryz.f20.body.getD .skip) (endK Tryz.prog Tryz.f20.results.toList (pureFin lent)) (args ++ pois (90 - args.length)) [[]] = some r) : pureV E (om E) 20 lent args = some r := pureV_of (dyn := []) rfl (by rw [E_P]; exact Tryz.func20) (by unfold Tryz.f20; rfl) (by kernel_rfl) (by rw [Tryz.ntmps20]; exact hr)
@[simp] theorem call_20 (args : List V) (h : Heap) : callV E (om E) 20 args h = (viewArgs h args).bind fun a => (pureV E (om E) 20 (!V.flatL args) a).map fun r => (r, h) := callV_pure rfl rfl args h
@[simp] theorem hint_20_0 : E.hint 20 8 = [.forget 4, .forget 5, .forget 6, .forget 54, .forget 55, .forget 56, .forget 57, .forget 58, .forget 59, .forget 60, .forget 61, .forget 62, .forget 63, .forget 64, .forget 65, .forget 66, .forget 67, .forget 68, .forget 69, .forget 70, .forget 71, .forget 72, .forget 73, .forget 74, .forget 75, .forget 76, .forget 77, .forget 78, .forget 79, .forget 80, .forget 81, .forget 82, .forget 83] := rfl

/-! 21: playpen/playpenref27.sameGrants -/
attribute [simp] Tryz.results21
theorem pu_21 {lent : Bool} {args : List V} {r : V} (hr : evK E (om E) 21 [] (Tryz.f21.body.getD .skip) (endK Tryz.prog Tryz.f21.results.toList (pureFin lent)) (args ++ pois (41 - args.length)) [[]] = some r) : pureV E (om E) 21 lent args = some r := pureV_of (dyn := []) rfl (by rw [E_P]; exact Tryz.func21) (by unfold Tryz.f21; rfl) (by kernel_rfl) (by rw [Tryz.ntmps21]; exact hr)
@[simp] theorem call_21 (args : List V) (h : Heap) : callV E (om E) 21 args h = (viewArgs h args).bind fun a => (pureV E (om E) 21 (!V.flatL args) a).map fun r => (r, h) := callV_pure rfl rfl args h
@[simp] theorem hint_21_0 : E.hint 21 4 = [.forget 4, .forget 11, .forget 12, .forget 13, .forget 14, .forget 15, .forget 16, .forget 17, .forget 18, .forget 19, .forget 20, .forget 21, .forget 22, .forget 23, .forget 24, .forget 25, .forget 26, .forget 27, .forget 28, .forget 29, .forget 30, .forget 31, .forget 32, .forget 33, .forget 34, .forget 35, .forget 36, .forget 37, .forget 38, .forget 39, .forget 40] := rfl

/-! 22: playpen/playpenref27.sameCall -/
attribute [simp] Tryz.results22
theorem pu_22 {lent : Bool} {args : List V} {r : V} (hr : evK E (om E) 22 [] (Tryz.f22.body.getD .skip) (endK Tryz.prog Tryz.f22.results.toList (pureFin lent)) (args ++ pois (61 - args.length)) [[]] = some r) : pureV E (om E) 22 lent args = some r := pureV_of (dyn := []) rfl (by rw [E_P]; exact Tryz.func22) (by unfold Tryz.f22; rfl) (by kernel_rfl) (by rw [Tryz.ntmps22]; exact hr)
@[simp] theorem call_22 (args : List V) (h : Heap) : callV E (om E) 22 args h = (viewArgs h args).bind fun a => (pureV E (om E) 22 (!V.flatL args) a).map fun r => (r, h) := callV_pure rfl rfl args h
@[simp] theorem hint_22_0 : E.hint 22 4 = [.forget 4, .forget 42, .forget 43, .forget 44, .forget 45, .forget 46, .forget 47, .forget 48, .forget 49, .forget 50, .forget 51, .forget 52, .forget 53, .forget 54, .forget 55, .forget 56, .forget 57, .forget 58, .forget 59, .forget 60] := rfl

/-! 23: playpen/playpenref27.Results -/
attribute [simp] Tryz.results23
theorem pu_23 {lent : Bool} {args : List V} {r : V} (hr : evK E (om E) 23 [] (Tryz.f23.body.getD .skip) (endK Tryz.prog Tryz.f23.results.toList (pureFin lent)) (args ++ pois (89 - args.length)) [[]] = some r) : pureV E (om E) 23 lent args = some r := pureV_of (dyn := []) rfl (by rw [E_P]; exact Tryz.func23) (by unfold Tryz.f23; rfl) (by kernel_rfl) (by rw [Tryz.ntmps23]; exact hr)
@[simp] theorem call_23 (args : List V) (h : Heap) : callV E (om E) 23 args h = (viewArgs h args).bind fun a => (pureV E (om E) 23 (!V.flatL args) a).map fun r => (r, h) := callV_pure rfl rfl args h
@[simp] theorem hint_23_0 : E.hint 23 8 = [.forget 43, .forget 44, .forget 45, .forget 46, .forget 47, .forget 48, .forget 49, .forget 50, .forget 51, .forget 52, .forget 53, .forget 54, .forget 55, .forget 56, .forget 57, .forget 58, .forget 59, .forget 60, .forget 61, .forget 62, .forget 63, .forget 64, .forget 65, .forget 66, .forget 67, .forget 68, .forget 69] := rfl

/-! 35: slices.EqualFunc[[]playpen/api.Write,[]playpen/api.Write,playpen/api.Write,playpen/api.Write] -/
attribute [simp] Tryz.results35
theorem pu_35 {lent : Bool} {args : List V} {r : V} (hr : evK E (om E) 35 [] (Tryz.f35.body.getD .skip) (endK Tryz.prog Tryz.f35.results.toList (pureFin lent)) (args ++ pois (32 - args.length)) [[]] = some r) : pureV E (om E) 35 lent args = some r := pureV_of (dyn := []) rfl (by rw [E_P]; exact Tryz.func35) (by unfold Tryz.f35; rfl) (by kernel_rfl) (by rw [Tryz.ntmps35]; exact hr)
@[simp] theorem call_35 (args : List V) (h : Heap) : callV E (om E) 35 args h = (viewArgs h args).bind fun a => (pureV E (om E) 35 (!V.flatL args) a).map fun r => (r, h) := callV_pure rfl rfl args h
@[simp] theorem hint_35_0 : E.hint 35 4 = [.forget 6, .forget 7, .forget 8, .forget 9, .forget 18, .forget 19, .forget 20, .forget 21, .forget 22, .forget 23, .forget 24, .forget 25, .forget 26, .forget 27, .forget 28, .forget 29, .forget 30, .forget 31] := rfl

/-! 36: playpen/tape.sameReply$1 -/
attribute [simp] Tryz.results36
theorem pu_36 {lent : Bool} {args : List V} {r : V} (hr : evK E (om E) 36 [] (Tryz.f36.body.getD .skip) (endK Tryz.prog Tryz.f36.results.toList (pureFin lent)) (args ++ pois (17 - args.length)) [[]] = some r) : pureV E (om E) 36 lent args = some r := pureV_of (dyn := []) rfl (by rw [E_P]; exact Tryz.func36) (by unfold Tryz.f36; rfl) (by kernel_rfl) (by rw [Tryz.ntmps36]; exact hr)
@[simp] theorem call_36 (args : List V) (h : Heap) : callV E (om E) 36 args h = (viewArgs h args).bind fun a => (pureV E (om E) 36 (!V.flatL args) a).map fun r => (r, h) := callV_pure rfl rfl args h

/-! 37: bytes.Equal -/
attribute [simp] Tryz.results37
theorem pu_37 {lent : Bool} {args : List V} {r : V} (hr : evK E (om E) 37 [] (Tryz.f37.body.getD .skip) (endK Tryz.prog Tryz.f37.results.toList (pureFin lent)) (args ++ pois (10 - args.length)) [[]] = some r) : pureV E (om E) 37 lent args = some r := pureV_of (dyn := []) rfl (by rw [E_P]; exact Tryz.func37) (by unfold Tryz.f37; rfl) (by kernel_rfl) (by rw [Tryz.ntmps37]; exact hr)
@[simp] theorem call_37 (args : List V) (h : Heap) : callV E (om E) 37 args h = (viewArgs h args).bind fun a => (pureV E (om E) 37 (!V.flatL args) a).map fun r => (r, h) := callV_pure rfl rfl args h

/-! 38: playpen/tape.sameEvent -/
attribute [simp] Tryz.results38
theorem pu_38 {lent : Bool} {args : List V} {r : V} (hr : evK E (om E) 38 [] (Tryz.f38.body.getD .skip) (endK Tryz.prog Tryz.f38.results.toList (pureFin lent)) (args ++ pois (31 - args.length)) [[]] = some r) : pureV E (om E) 38 lent args = some r := pureV_of (dyn := []) rfl (by rw [E_P]; exact Tryz.func38) (by unfold Tryz.f38; rfl) (by kernel_rfl) (by rw [Tryz.ntmps38]; exact hr)
@[simp] theorem call_38 (args : List V) (h : Heap) : callV E (om E) 38 args h = (viewArgs h args).bind fun a => (pureV E (om E) 38 (!V.flatL args) a).map fun r => (r, h) := callV_pure rfl rfl args h

/-! 39: playpen/playpenref27.sameWords -/
attribute [simp] Tryz.results39
theorem pu_39 {lent : Bool} {args : List V} {r : V} (hr : evK E (om E) 39 [] (Tryz.f39.body.getD .skip) (endK Tryz.prog Tryz.f39.results.toList (pureFin lent)) (args ++ pois (26 - args.length)) [[]] = some r) : pureV E (om E) 39 lent args = some r := pureV_of (dyn := []) rfl (by rw [E_P]; exact Tryz.func39) (by unfold Tryz.f39; rfl) (by kernel_rfl) (by rw [Tryz.ntmps39]; exact hr)
@[simp] theorem call_39 (args : List V) (h : Heap) : callV E (om E) 39 args h = (viewArgs h args).bind fun a => (pureV E (om E) 39 (!V.flatL args) a).map fun r => (r, h) := callV_pure rfl rfl args h
@[simp] theorem hint_39_0 : E.hint 39 4 = [.forget 4, .forget 11, .forget 12, .forget 13, .forget 14, .forget 15, .forget 16, .forget 17, .forget 18, .forget 19, .forget 20, .forget 21, .forget 22, .forget 23, .forget 24, .forget 25] := rfl

/-! 40: playpen/playpenref27.sameReply -/
attribute [simp] Tryz.results40
theorem pu_40 {lent : Bool} {args : List V} {r : V} (hr : evK E (om E) 40 [] (Tryz.f40.body.getD .skip) (endK Tryz.prog Tryz.f40.results.toList (pureFin lent)) (args ++ pois (72 - args.length)) [[]] = some r) : pureV E (om E) 40 lent args = some r := pureV_of (dyn := []) rfl (by rw [E_P]; exact Tryz.func40) (by unfold Tryz.f40; rfl) (by kernel_rfl) (by rw [Tryz.ntmps40]; exact hr)
@[simp] theorem call_40 (args : List V) (h : Heap) : callV E (om E) 40 args h = (viewArgs h args).bind fun a => (pureV E (om E) 40 (!V.flatL args) a).map fun r => (r, h) := callV_pure rfl rfl args h
@[simp] theorem hint_40_0 : E.hint 40 4 = [.forget 4, .forget 6, .forget 7, .forget 8, .forget 23, .forget 24, .forget 25, .forget 26, .forget 27, .forget 28, .forget 29, .forget 30, .forget 31, .forget 32, .forget 33, .forget 34, .forget 35, .forget 36, .forget 37, .forget 38, .forget 39, .forget 40, .forget 41, .forget 42, .forget 43, .forget 44, .forget 45, .forget 46, .forget 47, .forget 48, .forget 49, .forget 50, .forget 51, .forget 52, .forget 53, .forget 54, .forget 55, .forget 56, .forget 57, .forget 58, .forget 59, .forget 60, .forget 61, .forget 62, .forget 63, .forget 64, .forget 65, .forget 66, .forget 67, .forget 68, .forget 69, .forget 70, .forget 71] := rfl
@[simp] theorem hint_40_1 : E.hint 40 11 = [.forget 4, .forget 54, .forget 55, .forget 56, .forget 57, .forget 58, .forget 59, .forget 60, .forget 61, .forget 62, .forget 63, .forget 64, .forget 65, .forget 66, .forget 67, .forget 68, .forget 69, .forget 70, .forget 71] := rfl

/-! 41: playpen/playpenref27.sameEvent -/
attribute [simp] Tryz.results41
theorem pu_41 {lent : Bool} {args : List V} {r : V} (hr : evK E (om E) 41 [] (Tryz.f41.body.getD .skip) (endK Tryz.prog Tryz.f41.results.toList (pureFin lent)) (args ++ pois (31 - args.length)) [[]] = some r) : pureV E (om E) 41 lent args = some r := pureV_of (dyn := []) rfl (by rw [E_P]; exact Tryz.func41) (by unfold Tryz.f41; rfl) (by kernel_rfl) (by rw [Tryz.ntmps41]; exact hr)
@[simp] theorem call_41 (args : List V) (h : Heap) : callV E (om E) 41 args h = (viewArgs h args).bind fun a => (pureV E (om E) 41 (!V.flatL args) a).map fun r => (r, h) := callV_pure rfl rfl args h

end Go.Proofs.YtijfffbhhlmgmaaGreatDoor
end
