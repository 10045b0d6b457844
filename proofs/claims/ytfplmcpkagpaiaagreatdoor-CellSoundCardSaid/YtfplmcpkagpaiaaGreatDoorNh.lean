/-
 The machine's settings over this seat's program. Printed by program.
-/
import Derived.Test.YtfplmcpkagpaiaaGreatDoorNe
import Derived.Test.YtfplmcpkagpaiaaGreatDoorNf
import Derived.Test.YtfplmcpkagpaiaaGreatDoorMe
set_option maxRecDepth 100000
set_option linter.unusedSimpArgs false
set_option linter.unusedVariables false
section
namespace Go.Proofs.YtfplmcpkagpaiaaGreatDoor
open Go Go.Sim
def modeT (f : Nat) : Sim.Mode :=
 match f with
 | 83 => .heap
 | 84 => .heap
 | 53 => .own
 | 82 => .live
 | 85 => .own
 | 57 => .own
 | 104 => .heap
 | 81 => .heap
 | 106 => .heap
 | 109 => .heap
 | 124 => .heap
 | 127 => .heap
 | 175 => .heap
 | 173 => .heap
 | 174 => .heap
 | 125 => .heap
 | 79 => .own
 | 105 => .pure
 | 172 => .pure
 | 47 => .live
 | 49 => .inl
 | 52 => .own
 | 18 => .own
 | 130 => .heap
 | 128 => .heap
 | 131 => .heap
 | 129 => .heap
 | 30 => .live
 | 66 => .heap
 | 59 => .own
 | 60 => .heap
 | 61 => .heap
 | 70 => .heap
 | 22 => .own
 | 16 => .inl
 | 33 => .live
 | 28 => .inl
 | _ => .pure
def fgs (l : List Nat) : List Hint := l.map .forget
def hintT (f r : Nat) : List Hint :=
 match f, r with
 | 4, 12 => fgs [2, 96, 97, 98, 99, 100, 101, 102, 103, 104, 105, 106, 107, 108, 109, 110, 111, 112, 113, 114, 115, 116, 117, 118, 119, 120, 121, 122, 123]
 | 4, 18 => fgs [2, 15, 16, 17, 18, 19, 124, 125, 126, 127, 128, 129, 130, 131, 132, 133, 134, 135, 136, 137, 138, 139, 140, 141, 142, 143, 144, 145, 146, 147, 148, 149, 150, 151, 152, 153, 154, 155, 156, 157, 158, 159, 160, 161, 162, 163, 164, 165, 166, 167, 168, 169, 170, 171, 172, 173, 174, 175, 176, 177, 178, 179, 180, 181, 182, 183, 184, 185, 186, 187, 188]
 | 4, 24 => fgs [2, 17, 18, 19, 155, 156, 157, 158, 159, 160, 161, 162, 163, 164, 165, 166, 167, 168, 169, 170, 171, 172, 173, 174, 175, 176, 177, 178, 179, 180, 181, 182, 183]
 | 7, 8 => fgs [13, 14, 15, 16, 17, 18, 37, 38, 39, 40, 41, 42, 43, 44, 45, 46, 47, 48, 49, 50, 51, 52, 53, 54, 55, 56, 57, 58, 59, 60, 61, 62, 63, 64, 65, 66, 67, 68, 69, 70, 71, 72, 73, 74, 75, 76, 77, 78, 79, 80, 81, 82, 83, 84, 85, 86, 87, 88, 89, 90, 91, 92, 93, 94, 95, 96, 97, 98]
 | 7, 16 => fgs [71, 72, 73, 74, 75, 76, 77, 78, 79]
 | 11, 7 => .promote 6 2 :: .promoteBox 7 0 7 :: fgs [8, 9, 10, 11, 28, 29, 30, 31, 32, 33, 34, 35, 36, 37, 38, 39, 40, 41, 42, 43, 44, 45, 46, 47, 48, 50, 51, 52, 53, 54, 55, 56, 57]
 | 11, 13 => [.promoteBox 7 0 7]
 | 11, 18 => fgs [12, 68, 69, 70, 71, 72, 73, 74, 75, 76, 77, 78, 79, 80, 81, 82, 83]
 | 12, 6 => [.promoteBox 6 0 1]
 | 13, 2 => fgs [4, 5, 6, 7, 8, 9, 14, 15, 16, 17, 18, 19, 20, 21, 22, 23, 24, 25, 26, 27, 28, 29, 30, 31, 32, 33, 34, 35, 36, 37, 38, 39, 40, 41, 42]
 | 14, 2 => fgs [6, 8, 9, 11, 12, 13, 14, 15, 16, 17, 18, 19, 20, 21, 22, 23, 24, 25, 26, 27, 28, 29, 30, 31, 32, 33, 34, 35, 36, 37, 38, 39, 40, 41, 42, 43, 44, 45, 46, 47, 48, 49, 50, 51, 52, 53, 54, 55, 56, 57, 58, 59, 60, 61, 62, 63]
 | 14, 10 => fgs [6, 64, 65, 66, 67, 68, 69, 70, 71, 72, 73, 74, 75, 76, 77, 78]
 | 15, 4 => fgs [2, 4, 5, 15, 16, 17, 18, 19, 20, 21, 22, 23]
 | 15, 17 => fgs [2, 6, 51, 52, 53, 54, 55, 56, 57, 58]
 | 17, 8 => fgs [6, 7, 8, 13, 14, 15, 45, 46, 47, 48, 49, 50, 51, 52, 53, 54, 55, 56, 57, 58, 59, 60, 61, 62, 63, 64, 65, 66, 67, 68, 69, 70]
 | 17, 18 => fgs [6, 7, 8, 18, 19, 84, 85, 86, 87, 88, 89, 90, 91, 92, 93, 94]
 | 19, 5 => fgs [11, 12, 13, 14, 15, 16, 17, 18, 19, 20, 21, 22, 23]
 | 20, 9 => fgs [10, 40, 41, 42, 43, 44, 45, 46, 47, 48, 49, 50, 51, 52, 53, 54, 55, 56, 57, 58, 59]
 | 20, 16 => .promote 12 1 :: fgs [14, 71, 72, 73, 74, 75, 76, 77, 78, 79, 80]
 | 20, 25 => .promote 16 1 :: fgs [18, 102, 103, 104, 105, 106, 107, 108, 109, 110, 111, 112, 113]
 | 20, 31 => .promote 16 1 :: fgs [20, 125, 126, 127, 128, 129, 130, 131]
 | 21, 3 => fgs [6, 10, 11, 12, 13, 14, 15, 16, 17, 18, 19, 20, 21, 22]
 | 22, 8 => fgs [8, 32, 33, 34, 35, 36, 37, 38]
 | 22, 13 => fgs [9, 10, 11, 12, 43, 44, 45, 46, 47, 48, 49, 50, 51, 52, 53, 54, 55, 56, 57, 58, 59, 60, 61, 62, 63, 64, 65, 66, 67, 68, 69, 70, 71, 72, 73, 74, 75]
 | 26, 7 => fgs [6, 7, 9, 33, 34, 35, 36, 37, 38, 39, 40, 41, 42, 43, 44, 45, 46, 47, 48]
 | 26, 13 => fgs [6, 7, 10, 11, 53, 54, 55, 56, 57, 58, 59, 60, 61, 62, 63, 64]
 | 31, 3 => fgs [6, 14, 15, 16, 17, 18, 19]
 | 31, 8 => fgs [7, 8, 23, 24, 25, 26, 27, 28, 29, 30, 31, 32, 33, 34]
 | 46, 5 => .promote 5 1 :: fgs [2, 3, 4, 6, 7, 8, 15, 16, 17, 18, 19, 20, 21, 22, 23, 24, 25, 26, 27, 28, 29, 30, 31, 32, 33, 34, 35, 36, 37, 38, 39, 40]
 | 47, 3 => .promoteBox 3 0 4 :: .promoteBox 3 1 1 :: fgs [4, 5, 6, 12, 13, 14, 15, 16, 17, 18, 19, 20, 21, 22, 23, 24, 25, 26, 27, 28, 29, 30, 31, 32, 33, 34, 35, 36, 37, 38, 39, 40, 41, 42, 43, 44, 45, 46, 47, 48, 49, 50, 51, 52, 53, 54, 55, 56, 57, 58, 59]
 | 49, 2 => .promoteAll 0 2 1 :: fgs [4, 5, 6, 7, 11, 12, 13, 14, 15, 16, 17, 18, 19, 20, 21, 22, 23, 24, 25, 26, 27, 28, 29, 30, 31, 32, 33, 34, 35, 36, 37, 38, 39, 40, 41, 42, 43, 44, 45, 46, 47, 48, 49, 50, 51, 52, 53, 54, 55, 56, 57, 58, 59, 60, 61, 62, 63, 64, 65, 66, 67, 68, 69, 70, 71, 72, 73, 74, 75, 76, 77, 78, 79, 80, 81, 82, 83]
 | 52, 4 => [.promoteBox 7 0 1]
 | 53, 3 => fgs [5, 12, 13, 14, 15, 16, 17, 18, 19, 20, 21, 22]
 | 53, 11 => .promote 6 1 :: fgs [8, 28, 29, 30, 31, 32, 33, 34]
 | 54, 3 => .promote 3 1 :: fgs [5, 9, 10, 11, 12, 13, 14, 15]
 | 55, 3 => .promote 3 1 :: fgs [5, 9, 10, 11, 12, 13, 14, 15]
 | 56, 4 => .promote 7 2 :: fgs [4, 5, 9, 15, 16, 17, 18, 19, 20, 21, 22, 23, 24, 25, 26, 27, 28, 29, 30, 31]
 | 66, 1 => fgs [6, 7, 9, 10, 11, 12, 13, 14, 15, 16, 17, 18, 19, 20, 21, 22, 23, 24, 25, 26, 27, 28, 29, 30]
 | 67, 8 => fgs [11, 12, 29, 30, 31, 32, 33, 34, 35, 36, 37, 38, 39, 40, 41, 42, 43, 44, 45, 46, 47, 48, 49]
 | 70, 1 => fgs [3, 4, 8, 9, 10, 11, 12, 13, 14, 15, 16, 17, 18, 19, 20, 21, 22, 23, 24, 25, 26, 27]
 | 70, 3 => fgs [12, 13, 14, 15, 16, 17, 18, 19, 20, 21, 22, 23, 24, 25, 26]
 | 79, 8 => fgs [34, 35, 36, 37, 38, 39, 40, 41, 42, 43, 44, 45, 46]
 | 81, 4 => fgs [13, 14, 15, 17, 24, 25, 26, 27, 28, 29, 30, 31, 32, 33, 34, 35, 36, 37, 38, 39, 40, 41, 42, 43, 44, 45, 46, 47, 48, 49, 50, 51, 52, 53, 54, 55, 56, 57, 58, 59, 60, 61, 62, 63, 64, 65, 66, 67, 68, 69, 70, 71, 72, 73, 74, 75, 76, 77, 78, 79, 80, 81, 82, 83, 84, 85, 86, 87, 88, 89, 90, 91, 92, 93, 94, 95, 96, 97, 98, 99, 100, 101, 102, 103]
 | 81, 16 => fgs [17, 72, 73, 74, 75, 76, 77, 78, 79, 80, 81, 82, 83, 84, 85, 86, 87, 88, 89, 90, 91, 92, 93, 94, 95, 96, 97, 98, 99, 100, 101, 102, 103]
 | 83, 2 => .promote 0 1 :: fgs [5, 8, 9, 10, 11, 12, 13, 14, 15, 16, 17, 18, 19]
 | 84, 2 => .promote 0 1 :: fgs [5, 8, 9, 10, 11, 12, 13, 14, 15, 16, 17, 18, 19]
 | 100, 5 => fgs [6, 7, 8, 28, 29, 30, 31, 32, 33, 34, 35, 36, 37, 38, 39, 40, 41, 42, 43, 44, 45, 46, 47, 48, 49, 50, 51, 52, 53, 54, 55, 56, 57, 58, 59, 60, 61, 62]
 | 104, 2 => fgs [3, 4, 13, 14, 15, 16, 17, 18, 19, 20, 21, 22]
 | 110, 3 => fgs [5, 6, 7, 8, 9, 10, 11, 12]
 | 111, 3 => fgs [5, 6, 7, 8, 9, 10, 11, 12]
 | 116, 9 => fgs [12, 37, 38, 39, 40, 41, 42, 43, 44, 45, 46, 47, 48, 49, 50, 51, 52, 53, 54, 55, 56, 57, 58, 59, 60, 61, 62, 63, 64, 65, 66, 67, 68, 69, 70, 71, 72, 73, 74, 75, 76, 77, 78, 79, 80, 81, 82, 83, 84, 85, 86, 87, 88, 89, 90, 91, 92, 93, 94]
 | 117, 2 => fgs [6, 7, 8, 9, 10, 11, 12, 13, 14, 15, 16, 17, 18, 19, 20, 21, 22, 23, 24, 25, 26, 27, 28, 29, 30, 31, 32, 33, 34, 35]
 | 124, 2 => fgs [8, 9, 10, 12, 13, 14, 15, 16, 17, 18, 19, 20, 21, 22, 23, 24, 25, 26, 27, 28, 29, 30, 31, 32, 33, 34, 35, 36, 37, 38, 39, 40, 41, 42, 43, 44]
 | 125, 4 => fgs [2, 4, 5, 10, 11, 12, 13, 14, 15, 16, 17, 18, 19, 20, 21, 22, 23, 24, 25, 26, 27, 28, 29, 30, 31, 32, 33, 34, 35, 36, 37, 38, 39, 40, 41, 42, 43, 44, 45, 46, 47, 48, 49, 50, 51, 52, 53, 54, 55, 56, 57, 58, 59]
 | 125, 9 => fgs [29, 30, 31, 32, 33, 34, 35, 36, 37, 38, 39, 40, 41, 42, 43, 44, 45, 46, 47, 48, 49, 50, 51, 52, 53]
 | 127, 0 => fgs [4, 5, 6, 7, 8, 9, 10, 11, 12, 13, 14, 15, 16, 17, 18, 19, 20, 21, 22]
 | _, _ => []
noncomputable def knownT (f : Nat) : Option (List V → Heap → Option (V × Heap)) :=
 match f with
 | 42 => some (cloneWL 17592186044416 2)
 | 43 => some (cloneWL 35184372088832 1)
 | 44 => some (cloneWL 140737488355328 1)
 | 45 => some (cloneWL 5864062014805 2)
 | 69 => some (cloneWL 17592186044416 1)
 | 113 => some (cloneWL 140737488355328 1)
 | 143 => some (knUU fun a b => .int .u32 (arithF .add a b))
 | 144 => some (knUU fun a b => .int .u32 (arithF .sub a b))
 | 145 => some (knUU fun a b => .int .u32 (arithF .mul a b))
 | 146 => some (knUU fun a b => .int .u32 (arithF .quo a b))
 | 136 => some (knUU fun a b => .int .u8 (standF a b))
 | 141 => some (knU fun a => .int .i32 (towardF a))
 | 140 => some (knI fun a => .int .u32 (ofF a))
 | 133 => some (knOUU fun o a b => .tuple [.int .u32 (binW o a b), .int .i64 (binE o b)])
 | 71 => some (Kr.tzV)
 | _ => none
noncomputable def E : Env := { P := Tryz.prog, mode := modeT, hint := hintT, known := knownT, eqTypes := [44, 48], fns := fun f => Nat.blt f 181, frame := fun f => Nat.beq f 71 }
@[simp] theorem E_P : E.P = Tryz.prog := rfl
abbrev PU (f : Nat) (d : List Nat) (fn : Func) (k : Nat) : Prop := ∀ {lent : Bool} {args : List V} {r : V}, evK E (om E) f d (fn.body.getD .skip) (endK Tryz.prog fn.results.toList (pureFin lent)) (args ++ pois (k - args.length)) [[]] = some r → pureV E (om E) f lent args = some r
abbrev BO (f : Nat) (d : List Nat) (fn : Func) (k : Nat) : Prop := ∀ {args : List V} {h : Heap} {r : V × Heap}, evK E (om E) f d (fn.body.getD .skip) (endK Tryz.prog fn.results.toList bodyFin) (args ++ pois (k - args.length)) h = some r → bodyV E (om E) f args h = some r
abbrev CP (f : Nat) : Prop := ∀ (args : List V) (h : Heap), callV E (om E) f args h = (viewArgs h args).bind fun a => (pureV E (om E) f (!V.flatL args) a).map fun r => (r, h)
attribute [simp] Tryz.results2
attribute [simp] Tryz.results3
attribute [simp] Tryz.results4
theorem pu_4 : PU 4 [] Tryz.f4 213 := fun hr => pureV_of (dyn := []) rfl (by rw [E_P]; exact Tryz.func4) (by unfold Tryz.f4; rfl) (by kernel_rfl) (by rw [Tryz.ntmps4]; exact hr)
@[simp] theorem hint_4_0 : E.hint 4 12 = [.forget 2, .forget 96, .forget 97, .forget 98, .forget 99, .forget 100, .forget 101, .forget 102, .forget 103, .forget 104, .forget 105, .forget 106, .forget 107, .forget 108, .forget 109, .forget 110, .forget 111, .forget 112, .forget 113, .forget 114, .forget 115, .forget 116, .forget 117, .forget 118, .forget 119, .forget 120, .forget 121, .forget 122, .forget 123] := rfl
@[simp] theorem hint_4_1 : E.hint 4 18 = [.forget 2, .forget 15, .forget 16, .forget 17, .forget 18, .forget 19, .forget 124, .forget 125, .forget 126, .forget 127, .forget 128, .forget 129, .forget 130, .forget 131, .forget 132, .forget 133, .forget 134, .forget 135, .forget 136, .forget 137, .forget 138, .forget 139, .forget 140, .forget 141, .forget 142, .forget 143, .forget 144, .forget 145, .forget 146, .forget 147, .forget 148, .forget 149, .forget 150, .forget 151, .forget 152, .forget 153, .forget 154, .forget 155, .forget 156, .forget 157, .forget 158, .forget 159, .forget 160, .forget 161, .forget 162, .forget 163, .forget 164, .forget 165, .forget 166, .forget 167, .forget 168, .forget 169, .forget 170, .forget 171, .forget 172, .forget 173, .forget 174, .forget 175, .forget 176, .forget 177, .forget 178, .forget 179, .forget 180, .forget 181, .forget 182, .forget 183, .forget 184, .forget 185, .forget 186, .forget 187, .forget 188] := rfl
@[simp] theorem hint_4_2 : E.hint 4 24 = [.forget 2, .forget 17, .forget 18, .forget 19, .forget 155, .forget 156, .forget 157, .forget 158, .forget 159, .forget 160, .forget 161, .forget 162, .forget 163, .forget 164, .forget 165, .forget 166, .forget 167, .forget 168, .forget 169, .forget 170, .forget 171, .forget 172, .forget 173, .forget 174, .forget 175, .forget 176, .forget 177, .forget 178, .forget 179, .forget 180, .forget 181, .forget 182, .forget 183] := rfl
attribute [simp] Tryz.results5
theorem pu_5 : PU 5 [] Tryz.f5 60 := fun hr => pureV_of (dyn := []) rfl (by rw [E_P]; exact Tryz.func5) (by unfold Tryz.f5; rfl) (by kernel_rfl) (by rw [Tryz.ntmps5]; exact hr)
@[simp] theorem call_5 : CP 5 := callV_pure rfl rfl
attribute [simp] Tryz.results6
theorem pu_6 : PU 6 [] Tryz.f6 87 := fun hr => pureV_of (dyn := []) rfl (by rw [E_P]; exact Tryz.func6) (by unfold Tryz.f6; rfl) (by kernel_rfl) (by rw [Tryz.ntmps6]; exact hr)
@[simp] theorem call_6 : CP 6 := callV_pure rfl rfl
attribute [simp] Tryz.results7
theorem pu_7 : PU 7 [] Tryz.f7 112 := fun hr => pureV_of (dyn := []) rfl (by rw [E_P]; exact Tryz.func7) (by unfold Tryz.f7; rfl) (by kernel_rfl) (by rw [Tryz.ntmps7]; exact hr)
@[simp] theorem call_7 : CP 7 := callV_pure rfl rfl
@[simp] theorem hint_7_0 : E.hint 7 8 = [.forget 13, .forget 14, .forget 15, .forget 16, .forget 17, .forget 18, .forget 37, .forget 38, .forget 39, .forget 40, .forget 41, .forget 42, .forget 43, .forget 44, .forget 45, .forget 46, .forget 47, .forget 48, .forget 49, .forget 50, .forget 51, .forget 52, .forget 53, .forget 54, .forget 55, .forget 56, .forget 57, .forget 58, .forget 59, .forget 60, .forget 61, .forget 62, .forget 63, .forget 64, .forget 65, .forget 66, .forget 67, .forget 68, .forget 69, .forget 70, .forget 71, .forget 72, .forget 73, .forget 74, .forget 75, .forget 76, .forget 77, .forget 78, .forget 79, .forget 80, .forget 81, .forget 82, .forget 83, .forget 84, .forget 85, .forget 86, .forget 87, .forget 88, .forget 89, .forget 90, .forget 91, .forget 92, .forget 93, .forget 94, .forget 95, .forget 96, .forget 97, .forget 98] := rfl
@[simp] theorem hint_7_1 : E.hint 7 16 = [.forget 71, .forget 72, .forget 73, .forget 74, .forget 75, .forget 76, .forget 77, .forget 78, .forget 79] := rfl
attribute [simp] Tryz.results8
attribute [simp] Tryz.results9
attribute [simp] Tryz.results10
attribute [simp] Tryz.results11
theorem pu_11 : PU 11 [] Tryz.f11 85 := fun hr => pureV_of (dyn := []) rfl (by rw [E_P]; exact Tryz.func11) (by unfold Tryz.f11; rfl) (by kernel_rfl) (by rw [Tryz.ntmps11]; exact hr)
@[simp] theorem call_11 : CP 11 := callV_pure rfl rfl
@[simp] theorem hint_11_0 : E.hint 11 7 = [.promote 6 2, .promoteBox 7 0 7, .forget 8, .forget 9, .forget 10, .forget 11, .forget 28, .forget 29, .forget 30, .forget 31, .forget 32, .forget 33, .forget 34, .forget 35, .forget 36, .forget 37, .forget 38, .forget 39, .forget 40, .forget 41, .forget 42, .forget 43, .forget 44, .forget 45, .forget 46, .forget 47, .forget 48, .forget 50, .forget 51, .forget 52, .forget 53, .forget 54, .forget 55, .forget 56, .forget 57] := rfl
@[simp] theorem hint_11_1 : E.hint 11 13 = [.promoteBox 7 0 7] := rfl
@[simp] theorem hint_11_2 : E.hint 11 18 = [.forget 12, .forget 68, .forget 69, .forget 70, .forget 71, .forget 72, .forget 73, .forget 74, .forget 75, .forget 76, .forget 77, .forget 78, .forget 79, .forget 80, .forget 81, .forget 82, .forget 83] := rfl
attribute [simp] Tryz.results12
theorem pu_12 : PU 12 [] Tryz.f12 24 := fun hr => pureV_of (dyn := []) rfl (by rw [E_P]; exact Tryz.func12) (by unfold Tryz.f12; rfl) (by kernel_rfl) (by rw [Tryz.ntmps12]; exact hr)
@[simp] theorem call_12 : CP 12 := callV_pure rfl rfl
@[simp] theorem hint_12_0 : E.hint 12 6 = [.promoteBox 6 0 1] := rfl
attribute [simp] Tryz.results13
theorem pu_13 : PU 13 [] Tryz.f13 43 := fun hr => pureV_of (dyn := []) rfl (by rw [E_P]; exact Tryz.func13) (by unfold Tryz.f13; rfl) (by kernel_rfl) (by rw [Tryz.ntmps13]; exact hr)
@[simp] theorem call_13 : CP 13 := callV_pure rfl rfl
@[simp] theorem hint_13_0 : E.hint 13 2 = [.forget 4, .forget 5, .forget 6, .forget 7, .forget 8, .forget 9, .forget 14, .forget 15, .forget 16, .forget 17, .forget 18, .forget 19, .forget 20, .forget 21, .forget 22, .forget 23, .forget 24, .forget 25, .forget 26, .forget 27, .forget 28, .forget 29, .forget 30, .forget 31, .forget 32, .forget 33, .forget 34, .forget 35, .forget 36, .forget 37, .forget 38, .forget 39, .forget 40, .forget 41, .forget 42] := rfl
attribute [simp] Tryz.results14
theorem pu_14 : PU 14 [] Tryz.f14 79 := fun hr => pureV_of (dyn := []) rfl (by rw [E_P]; exact Tryz.func14) (by unfold Tryz.f14; rfl) (by kernel_rfl) (by rw [Tryz.ntmps14]; exact hr)
@[simp] theorem call_14 : CP 14 := callV_pure rfl rfl
@[simp] theorem hint_14_0 : E.hint 14 2 = [.forget 6, .forget 8, .forget 9, .forget 11, .forget 12, .forget 13, .forget 14, .forget 15, .forget 16, .forget 17, .forget 18, .forget 19, .forget 20, .forget 21, .forget 22, .forget 23, .forget 24, .forget 25, .forget 26, .forget 27, .forget 28, .forget 29, .forget 30, .forget 31, .forget 32, .forget 33, .forget 34, .forget 35, .forget 36, .forget 37, .forget 38, .forget 39, .forget 40, .forget 41, .forget 42, .forget 43, .forget 44, .forget 45, .forget 46, .forget 47, .forget 48, .forget 49, .forget 50, .forget 51, .forget 52, .forget 53, .forget 54, .forget 55, .forget 56, .forget 57, .forget 58, .forget 59, .forget 60, .forget 61, .forget 62, .forget 63] := rfl
@[simp] theorem hint_14_1 : E.hint 14 10 = [.forget 6, .forget 64, .forget 65, .forget 66, .forget 67, .forget 68, .forget 69, .forget 70, .forget 71, .forget 72, .forget 73, .forget 74, .forget 75, .forget 76, .forget 77, .forget 78] := rfl
attribute [simp] Tryz.results15
theorem pu_15 : PU 15 [] Tryz.f15 59 := fun hr => pureV_of (dyn := []) rfl (by rw [E_P]; exact Tryz.func15) (by unfold Tryz.f15; rfl) (by kernel_rfl) (by rw [Tryz.ntmps15]; exact hr)
@[simp] theorem call_15 : CP 15 := callV_pure rfl rfl
@[simp] theorem hint_15_0 : E.hint 15 4 = [.forget 2, .forget 4, .forget 5, .forget 15, .forget 16, .forget 17, .forget 18, .forget 19, .forget 20, .forget 21, .forget 22, .forget 23] := rfl
@[simp] theorem hint_15_1 : E.hint 15 17 = [.forget 2, .forget 6, .forget 51, .forget 52, .forget 53, .forget 54, .forget 55, .forget 56, .forget 57, .forget 58] := rfl
attribute [simp] Tryz.results16
theorem bo_16 : BO 16 [] Tryz.f16 20 := fun hr => bodyV_of (dyn := []) rfl (by rw [E_P]; exact Tryz.func16) (by unfold Tryz.f16; rfl) (by kernel_rfl) (by rw [Tryz.ntmps16]; exact hr)
theorem call_16 (args : List V) (h : Heap) : callV E (om E) 16 args h = bodyV E (om E) 16 args h := callV_inl rfl rfl args h
attribute [simp] Tryz.results17
theorem pu_17 : PU 17 [] Tryz.f17 96 := fun hr => pureV_of (dyn := []) rfl (by rw [E_P]; exact Tryz.func17) (by unfold Tryz.f17; rfl) (by kernel_rfl) (by rw [Tryz.ntmps17]; exact hr)
@[simp] theorem call_17 : CP 17 := callV_pure rfl rfl
@[simp] theorem hint_17_0 : E.hint 17 8 = [.forget 6, .forget 7, .forget 8, .forget 13, .forget 14, .forget 15, .forget 45, .forget 46, .forget 47, .forget 48, .forget 49, .forget 50, .forget 51, .forget 52, .forget 53, .forget 54, .forget 55, .forget 56, .forget 57, .forget 58, .forget 59, .forget 60, .forget 61, .forget 62, .forget 63, .forget 64, .forget 65, .forget 66, .forget 67, .forget 68, .forget 69, .forget 70] := rfl
@[simp] theorem hint_17_1 : E.hint 17 18 = [.forget 6, .forget 7, .forget 8, .forget 18, .forget 19, .forget 84, .forget 85, .forget 86, .forget 87, .forget 88, .forget 89, .forget 90, .forget 91, .forget 92, .forget 93, .forget 94] := rfl
attribute [simp] Tryz.results18
theorem bo_18 : BO 18 [] Tryz.f18 28 := fun hr => bodyV_of (dyn := []) rfl (by rw [E_P]; exact Tryz.func18) (by unfold Tryz.f18; rfl) (by kernel_rfl) (by rw [Tryz.ntmps18]; exact hr)
theorem call_18 (args : List V) (h : Heap) : callV E (om E) 18 args h = (viewArgs h args).bind fun args' => (bodyV E (om E) 18 args' [[]]).bind fun x => if !V.flatL args && !V.own x.2 x.1 then some (V.out h.top.length (V.strip x.1), h.setTop (h.top ++ (x.2.top.map stripBlk).map (outBlk h.top.length))) else some (V.out h.top.length x.1, h.setTop (h.top ++ x.2.top.map (outBlk h.top.length))) := callV_own rfl rfl args h
attribute [simp] Tryz.results19
theorem pu_19 : PU 19 [] Tryz.f19 25 := fun hr => pureV_of (dyn := []) rfl (by rw [E_P]; exact Tryz.func19) (by unfold Tryz.f19; rfl) (by kernel_rfl) (by rw [Tryz.ntmps19]; exact hr)
@[simp] theorem call_19 : CP 19 := callV_pure rfl rfl
@[simp] theorem hint_19_0 : E.hint 19 5 = [.forget 11, .forget 12, .forget 13, .forget 14, .forget 15, .forget 16, .forget 17, .forget 18, .forget 19, .forget 20, .forget 21, .forget 22, .forget 23] := rfl
attribute [simp] Tryz.results20
theorem pu_20 : PU 20 [] Tryz.f20 134 := fun hr => pureV_of (dyn := []) rfl (by rw [E_P]; exact Tryz.func20) (by unfold Tryz.f20; rfl) (by kernel_rfl) (by rw [Tryz.ntmps20]; exact hr)
@[simp] theorem call_20 : CP 20 := callV_pure rfl rfl
@[simp] theorem hint_20_0 : E.hint 20 9 = [.forget 10, .forget 40, .forget 41, .forget 42, .forget 43, .forget 44, .forget 45, .forget 46, .forget 47, .forget 48, .forget 49, .forget 50, .forget 51, .forget 52, .forget 53, .forget 54, .forget 55, .forget 56, .forget 57, .forget 58, .forget 59] := rfl
@[simp] theorem hint_20_1 : E.hint 20 16 = [.promote 12 1, .forget 14, .forget 71, .forget 72, .forget 73, .forget 74, .forget 75, .forget 76, .forget 77, .forget 78, .forget 79, .forget 80] := rfl
@[simp] theorem hint_20_2 : E.hint 20 25 = [.promote 16 1, .forget 18, .forget 102, .forget 103, .forget 104, .forget 105, .forget 106, .forget 107, .forget 108, .forget 109, .forget 110, .forget 111, .forget 112, .forget 113] := rfl
@[simp] theorem hint_20_3 : E.hint 20 31 = [.promote 16 1, .forget 20, .forget 125, .forget 126, .forget 127, .forget 128, .forget 129, .forget 130, .forget 131] := rfl
attribute [simp] Tryz.results21
theorem pu_21 : PU 21 [] Tryz.f21 27 := fun hr => pureV_of (dyn := []) rfl (by rw [E_P]; exact Tryz.func21) (by unfold Tryz.f21; rfl) (by kernel_rfl) (by rw [Tryz.ntmps21]; exact hr)
@[simp] theorem call_21 : CP 21 := callV_pure rfl rfl
@[simp] theorem hint_21_0 : E.hint 21 3 = [.forget 6, .forget 10, .forget 11, .forget 12, .forget 13, .forget 14, .forget 15, .forget 16, .forget 17, .forget 18, .forget 19, .forget 20, .forget 21, .forget 22] := rfl
attribute [simp] Tryz.results22
theorem bo_22 : BO 22 [] Tryz.f22 82 := fun hr => bodyV_of (dyn := []) rfl (by rw [E_P]; exact Tryz.func22) (by unfold Tryz.f22; rfl) (by kernel_rfl) (by rw [Tryz.ntmps22]; exact hr)
theorem call_22 (args : List V) (h : Heap) : callV E (om E) 22 args h = (viewArgs h args).bind fun args' => (bodyV E (om E) 22 args' [[]]).bind fun x => if !V.flatL args && !V.own x.2 x.1 then some (V.out h.top.length (V.strip x.1), h.setTop (h.top ++ (x.2.top.map stripBlk).map (outBlk h.top.length))) else some (V.out h.top.length x.1, h.setTop (h.top ++ x.2.top.map (outBlk h.top.length))) := callV_own rfl rfl args h
@[simp] theorem hint_22_0 : E.hint 22 8 = [.forget 8, .forget 32, .forget 33, .forget 34, .forget 35, .forget 36, .forget 37, .forget 38] := rfl
@[simp] theorem hint_22_1 : E.hint 22 13 = [.forget 9, .forget 10, .forget 11, .forget 12, .forget 43, .forget 44, .forget 45, .forget 46, .forget 47, .forget 48, .forget 49, .forget 50, .forget 51, .forget 52, .forget 53, .forget 54, .forget 55, .forget 56, .forget 57, .forget 58, .forget 59, .forget 60, .forget 61, .forget 62, .forget 63, .forget 64, .forget 65, .forget 66, .forget 67, .forget 68, .forget 69, .forget 70, .forget 71, .forget 72, .forget 73, .forget 74, .forget 75] := rfl
attribute [simp] Tryz.results23
theorem pu_23 : PU 23 [] Tryz.f23 9 := fun hr => pureV_of (dyn := []) rfl (by rw [E_P]; exact Tryz.func23) (by unfold Tryz.f23; rfl) (by kernel_rfl) (by rw [Tryz.ntmps23]; exact hr)
@[simp] theorem call_23 : CP 23 := callV_pure rfl rfl
attribute [simp] Tryz.results24
theorem pu_24 : PU 24 [] Tryz.f24 28 := fun hr => pureV_of (dyn := []) rfl (by rw [E_P]; exact Tryz.func24) (by unfold Tryz.f24; rfl) (by kernel_rfl) (by rw [Tryz.ntmps24]; exact hr)
@[simp] theorem call_24 : CP 24 := callV_pure rfl rfl
attribute [simp] Tryz.results25
theorem pu_25 : PU 25 [4] Tryz.f25 42 := fun hr => pureV_of (dyn := [4]) rfl (by rw [E_P]; exact Tryz.func25) (by unfold Tryz.f25; rfl) (by kernel_rfl) (by rw [Tryz.ntmps25]; exact hr)
@[simp] theorem call_25 : CP 25 := callV_pure rfl rfl
attribute [simp] Tryz.results26
theorem pu_26 : PU 26 [] Tryz.f26 65 := fun hr => pureV_of (dyn := []) rfl (by rw [E_P]; exact Tryz.func26) (by unfold Tryz.f26; rfl) (by kernel_rfl) (by rw [Tryz.ntmps26]; exact hr)
@[simp] theorem call_26 : CP 26 := callV_pure rfl rfl
@[simp] theorem hint_26_0 : E.hint 26 7 = [.forget 6, .forget 7, .forget 9, .forget 33, .forget 34, .forget 35, .forget 36, .forget 37, .forget 38, .forget 39, .forget 40, .forget 41, .forget 42, .forget 43, .forget 44, .forget 45, .forget 46, .forget 47, .forget 48] := rfl
@[simp] theorem hint_26_1 : E.hint 26 13 = [.forget 6, .forget 7, .forget 10, .forget 11, .forget 53, .forget 54, .forget 55, .forget 56, .forget 57, .forget 58, .forget 59, .forget 60, .forget 61, .forget 62, .forget 63, .forget 64] := rfl
attribute [simp] Tryz.results27
theorem pu_27 : PU 27 [] Tryz.f27 18 := fun hr => pureV_of (dyn := []) rfl (by rw [E_P]; exact Tryz.func27) (by unfold Tryz.f27; rfl) (by kernel_rfl) (by rw [Tryz.ntmps27]; exact hr)
@[simp] theorem call_27 : CP 27 := callV_pure rfl rfl
attribute [simp] Tryz.results28
attribute [simp] Tryz.results29
attribute [simp] Tryz.results30
theorem bo_30 : BO 30 [] Tryz.f30 11 := fun hr => bodyV_of (dyn := []) rfl (by rw [E_P]; exact Tryz.func30) (by unfold Tryz.f30; rfl) (by kernel_rfl) (by rw [Tryz.ntmps30]; exact hr)
theorem call_30 (args : List V) (h : Heap) : callV E (om E) 30 args h = (bodyV E (om E) 30 (V.upL 1 args) ([] :: h)).bind fun x => some (V.out (Heap.top x.2.tail).length x.1, Heap.setTop x.2.tail (Heap.top x.2.tail ++ x.2.top.map (outBlk (Heap.top x.2.tail).length))) := callV_live rfl rfl args h
attribute [simp] Tryz.results31
theorem pu_31 : PU 31 [] Tryz.f31 36 := fun hr => pureV_of (dyn := []) rfl (by rw [E_P]; exact Tryz.func31) (by unfold Tryz.f31; rfl) (by kernel_rfl) (by rw [Tryz.ntmps31]; exact hr)
@[simp] theorem call_31 : CP 31 := callV_pure rfl rfl
@[simp] theorem hint_31_0 : E.hint 31 3 = [.forget 6, .forget 14, .forget 15, .forget 16, .forget 17, .forget 18, .forget 19] := rfl
@[simp] theorem hint_31_1 : E.hint 31 8 = [.forget 7, .forget 8, .forget 23, .forget 24, .forget 25, .forget 26, .forget 27, .forget 28, .forget 29, .forget 30, .forget 31, .forget 32, .forget 33, .forget 34] := rfl
attribute [simp] Tryz.results32
theorem pu_32 : PU 32 [] Tryz.f32 26 := fun hr => pureV_of (dyn := []) rfl (by rw [E_P]; exact Tryz.func32) (by unfold Tryz.f32; rfl) (by kernel_rfl) (by rw [Tryz.ntmps32]; exact hr)
@[simp] theorem call_32 : CP 32 := callV_pure rfl rfl
attribute [simp] Tryz.results33
theorem bo_33 : BO 33 [] Tryz.f33 12 := fun hr => bodyV_of (dyn := []) rfl (by rw [E_P]; exact Tryz.func33) (by unfold Tryz.f33; rfl) (by kernel_rfl) (by rw [Tryz.ntmps33]; exact hr)
theorem call_33 (args : List V) (h : Heap) : callV E (om E) 33 args h = (bodyV E (om E) 33 (V.upL 1 args) ([] :: h)).bind fun x => some (V.out (Heap.top x.2.tail).length x.1, Heap.setTop x.2.tail (Heap.top x.2.tail ++ x.2.top.map (outBlk (Heap.top x.2.tail).length))) := callV_live rfl rfl args h
attribute [simp] Tryz.results34
theorem pu_34 : PU 34 [] Tryz.f34 16 := fun hr => pureV_of (dyn := []) rfl (by rw [E_P]; exact Tryz.func34) (by unfold Tryz.f34; rfl) (by kernel_rfl) (by rw [Tryz.ntmps34]; exact hr)
@[simp] theorem call_34 : CP 34 := callV_pure rfl rfl
attribute [simp] Tryz.results35
theorem pu_35 : PU 35 [] Tryz.f35 21 := fun hr => pureV_of (dyn := []) rfl (by rw [E_P]; exact Tryz.func35) (by unfold Tryz.f35; rfl) (by kernel_rfl) (by rw [Tryz.ntmps35]; exact hr)
@[simp] theorem call_35 : CP 35 := callV_pure rfl rfl
attribute [simp] Tryz.results36
theorem pu_36 : PU 36 [] Tryz.f36 12 := fun hr => pureV_of (dyn := []) rfl (by rw [E_P]; exact Tryz.func36) (by unfold Tryz.f36; rfl) (by kernel_rfl) (by rw [Tryz.ntmps36]; exact hr)
@[simp] theorem call_36 : CP 36 := callV_pure rfl rfl
attribute [simp] Tryz.results37
theorem pu_37 : PU 37 [] Tryz.f37 12 := fun hr => pureV_of (dyn := []) rfl (by rw [E_P]; exact Tryz.func37) (by unfold Tryz.f37; rfl) (by kernel_rfl) (by rw [Tryz.ntmps37]; exact hr)
@[simp] theorem call_37 : CP 37 := callV_pure rfl rfl
attribute [simp] Tryz.results38
theorem pu_38 : PU 38 [] Tryz.f38 20 := fun hr => pureV_of (dyn := []) rfl (by rw [E_P]; exact Tryz.func38) (by unfold Tryz.f38; rfl) (by kernel_rfl) (by rw [Tryz.ntmps38]; exact hr)
@[simp] theorem call_38 : CP 38 := callV_pure rfl rfl
attribute [simp] Tryz.results39
theorem pu_39 : PU 39 [] Tryz.f39 14 := fun hr => pureV_of (dyn := []) rfl (by rw [E_P]; exact Tryz.func39) (by unfold Tryz.f39; rfl) (by kernel_rfl) (by rw [Tryz.ntmps39]; exact hr)
@[simp] theorem call_39 : CP 39 := callV_pure rfl rfl
attribute [simp] Tryz.results40
theorem pu_40 : PU 40 [] Tryz.f40 15 := fun hr => pureV_of (dyn := []) rfl (by rw [E_P]; exact Tryz.func40) (by unfold Tryz.f40; rfl) (by kernel_rfl) (by rw [Tryz.ntmps40]; exact hr)
@[simp] theorem call_40 : CP 40 := callV_pure rfl rfl
attribute [simp] Tryz.results41
theorem pu_41 : PU 41 [] Tryz.f41 33 := fun hr => pureV_of (dyn := []) rfl (by rw [E_P]; exact Tryz.func41) (by unfold Tryz.f41; rfl) (by kernel_rfl) (by rw [Tryz.ntmps41]; exact hr)
@[simp] theorem call_41 : CP 41 := callV_pure rfl rfl
attribute [simp] Tryz.results42
@[simp] theorem call_42 (args : List V) (h : Heap) : callV E (om E) 42 args h = cloneWL 17592186044416 2 args h := callV_known rfl args h
attribute [simp] Tryz.results43
@[simp] theorem call_43 (args : List V) (h : Heap) : callV E (om E) 43 args h = cloneWL 35184372088832 1 args h := callV_known rfl args h
attribute [simp] Tryz.results44
@[simp] theorem call_44 (args : List V) (h : Heap) : callV E (om E) 44 args h = cloneWL 140737488355328 1 args h := callV_known rfl args h
attribute [simp] Tryz.results45
@[simp] theorem call_45 (args : List V) (h : Heap) : callV E (om E) 45 args h = cloneWL 5864062014805 2 args h := callV_known rfl args h
attribute [simp] Tryz.results46
theorem pu_46 : PU 46 [] Tryz.f46 42 := fun hr => pureV_of (dyn := []) rfl (by rw [E_P]; exact Tryz.func46) (by unfold Tryz.f46; rfl) (by kernel_rfl) (by rw [Tryz.ntmps46]; exact hr)
@[simp] theorem call_46 : CP 46 := callV_pure rfl rfl
@[simp] theorem hint_46_0 : E.hint 46 5 = [.promote 5 1, .forget 2, .forget 3, .forget 4, .forget 6, .forget 7, .forget 8, .forget 15, .forget 16, .forget 17, .forget 18, .forget 19, .forget 20, .forget 21, .forget 22, .forget 23, .forget 24, .forget 25, .forget 26, .forget 27, .forget 28, .forget 29, .forget 30, .forget 31, .forget 32, .forget 33, .forget 34, .forget 35, .forget 36, .forget 37, .forget 38, .forget 39, .forget 40] := rfl
attribute [simp] Tryz.results47
theorem bo_47 : BO 47 [] Tryz.f47 70 := fun hr => bodyV_of (dyn := []) rfl (by rw [E_P]; exact Tryz.func47) (by unfold Tryz.f47; rfl) (by kernel_rfl) (by rw [Tryz.ntmps47]; exact hr)
theorem call_47 (args : List V) (h : Heap) : callV E (om E) 47 args h = (bodyV E (om E) 47 (V.upL 1 args) ([] :: h)).bind fun x => some (V.out (Heap.top x.2.tail).length x.1, Heap.setTop x.2.tail (Heap.top x.2.tail ++ x.2.top.map (outBlk (Heap.top x.2.tail).length))) := callV_live rfl rfl args h
@[simp] theorem hint_47_0 : E.hint 47 3 = [.promoteBox 3 0 4, .promoteBox 3 1 1, .forget 4, .forget 5, .forget 6, .forget 12, .forget 13, .forget 14, .forget 15, .forget 16, .forget 17, .forget 18, .forget 19, .forget 20, .forget 21, .forget 22, .forget 23, .forget 24, .forget 25, .forget 26, .forget 27, .forget 28, .forget 29, .forget 30, .forget 31, .forget 32, .forget 33, .forget 34, .forget 35, .forget 36, .forget 37, .forget 38, .forget 39, .forget 40, .forget 41, .forget 42, .forget 43, .forget 44, .forget 45, .forget 46, .forget 47, .forget 48, .forget 49, .forget 50, .forget 51, .forget 52, .forget 53, .forget 54, .forget 55, .forget 56, .forget 57, .forget 58, .forget 59] := rfl
attribute [simp] Tryz.results48
theorem pu_48 : PU 48 [] Tryz.f48 71 := fun hr => pureV_of (dyn := []) rfl (by rw [E_P]; exact Tryz.func48) (by unfold Tryz.f48; rfl) (by kernel_rfl) (by rw [Tryz.ntmps48]; exact hr)
@[simp] theorem call_48 : CP 48 := callV_pure rfl rfl
attribute [simp] Tryz.results49
theorem bo_49 : BO 49 [6] Tryz.f49 84 := fun hr => bodyV_of (dyn := [6]) rfl (by rw [E_P]; exact Tryz.func49) (by unfold Tryz.f49; rfl) (by kernel_rfl) (by rw [Tryz.ntmps49]; exact hr)
theorem call_49 (args : List V) (h : Heap) : callV E (om E) 49 args h = bodyV E (om E) 49 args h := callV_inl rfl rfl args h
@[simp] theorem hint_49_0 : E.hint 49 2 = [.promoteAll 0 2 1, .forget 4, .forget 5, .forget 6, .forget 7, .forget 11, .forget 12, .forget 13, .forget 14, .forget 15, .forget 16, .forget 17, .forget 18, .forget 19, .forget 20, .forget 21, .forget 22, .forget 23, .forget 24, .forget 25, .forget 26, .forget 27, .forget 28, .forget 29, .forget 30, .forget 31, .forget 32, .forget 33, .forget 34, .forget 35, .forget 36, .forget 37, .forget 38, .forget 39, .forget 40, .forget 41, .forget 42, .forget 43, .forget 44, .forget 45, .forget 46, .forget 47, .forget 48, .forget 49, .forget 50, .forget 51, .forget 52, .forget 53, .forget 54, .forget 55, .forget 56, .forget 57, .forget 58, .forget 59, .forget 60, .forget 61, .forget 62, .forget 63, .forget 64, .forget 65, .forget 66, .forget 67, .forget 68, .forget 69, .forget 70, .forget 71, .forget 72, .forget 73, .forget 74, .forget 75, .forget 76, .forget 77, .forget 78, .forget 79, .forget 80, .forget 81, .forget 82, .forget 83] := rfl
attribute [simp] Tryz.results50
theorem pu_50 : PU 50 [] Tryz.f50 22 := fun hr => pureV_of (dyn := []) rfl (by rw [E_P]; exact Tryz.func50) (by unfold Tryz.f50; rfl) (by kernel_rfl) (by rw [Tryz.ntmps50]; exact hr)
@[simp] theorem call_50 : CP 50 := callV_pure rfl rfl
attribute [simp] Tryz.results51
theorem pu_51 : PU 51 [] Tryz.f51 28 := fun hr => pureV_of (dyn := []) rfl (by rw [E_P]; exact Tryz.func51) (by unfold Tryz.f51; rfl) (by kernel_rfl) (by rw [Tryz.ntmps51]; exact hr)
@[simp] theorem call_51 : CP 51 := callV_pure rfl rfl
attribute [simp] Tryz.results52
theorem bo_52 : BO 52 [9] Tryz.f52 47 := fun hr => bodyV_of (dyn := [9]) rfl (by rw [E_P]; exact Tryz.func52) (by unfold Tryz.f52; rfl) (by kernel_rfl) (by rw [Tryz.ntmps52]; exact hr)
theorem call_52 (args : List V) (h : Heap) : callV E (om E) 52 args h = (viewArgs h args).bind fun args' => (bodyV E (om E) 52 args' [[]]).bind fun x => if !V.flatL args && !V.own x.2 x.1 then some (V.out h.top.length (V.strip x.1), h.setTop (h.top ++ (x.2.top.map stripBlk).map (outBlk h.top.length))) else some (V.out h.top.length x.1, h.setTop (h.top ++ x.2.top.map (outBlk h.top.length))) := callV_own rfl rfl args h
@[simp] theorem hint_52_0 : E.hint 52 4 = [.promoteBox 7 0 1] := rfl
attribute [simp] Tryz.results53
theorem bo_53 : BO 53 [] Tryz.f53 36 := fun hr => bodyV_of (dyn := []) rfl (by rw [E_P]; exact Tryz.func53) (by unfold Tryz.f53; rfl) (by kernel_rfl) (by rw [Tryz.ntmps53]; exact hr)
theorem call_53 (args : List V) (h : Heap) : callV E (om E) 53 args h = (viewArgs h args).bind fun args' => (bodyV E (om E) 53 args' [[]]).bind fun x => if !V.flatL args && !V.own x.2 x.1 then some (V.out h.top.length (V.strip x.1), h.setTop (h.top ++ (x.2.top.map stripBlk).map (outBlk h.top.length))) else some (V.out h.top.length x.1, h.setTop (h.top ++ x.2.top.map (outBlk h.top.length))) := callV_own rfl rfl args h
@[simp] theorem hint_53_0 : E.hint 53 3 = [.forget 5, .forget 12, .forget 13, .forget 14, .forget 15, .forget 16, .forget 17, .forget 18, .forget 19, .forget 20, .forget 21, .forget 22] := rfl
@[simp] theorem hint_53_1 : E.hint 53 11 = [.promote 6 1, .forget 8, .forget 28, .forget 29, .forget 30, .forget 31, .forget 32, .forget 33, .forget 34] := rfl
attribute [simp] Tryz.results54
theorem pu_54 : PU 54 [] Tryz.f54 17 := fun hr => pureV_of (dyn := []) rfl (by rw [E_P]; exact Tryz.func54) (by unfold Tryz.f54; rfl) (by kernel_rfl) (by rw [Tryz.ntmps54]; exact hr)
@[simp] theorem call_54 : CP 54 := callV_pure rfl rfl
@[simp] theorem hint_54_0 : E.hint 54 3 = [.promote 3 1, .forget 5, .forget 9, .forget 10, .forget 11, .forget 12, .forget 13, .forget 14, .forget 15] := rfl
attribute [simp] Tryz.results55
theorem pu_55 : PU 55 [] Tryz.f55 17 := fun hr => pureV_of (dyn := []) rfl (by rw [E_P]; exact Tryz.func55) (by unfold Tryz.f55; rfl) (by kernel_rfl) (by rw [Tryz.ntmps55]; exact hr)
@[simp] theorem call_55 : CP 55 := callV_pure rfl rfl
@[simp] theorem hint_55_0 : E.hint 55 3 = [.promote 3 1, .forget 5, .forget 9, .forget 10, .forget 11, .forget 12, .forget 13, .forget 14, .forget 15] := rfl
attribute [simp] Tryz.results56
theorem pu_56 : PU 56 [] Tryz.f56 33 := fun hr => pureV_of (dyn := []) rfl (by rw [E_P]; exact Tryz.func56) (by unfold Tryz.f56; rfl) (by kernel_rfl) (by rw [Tryz.ntmps56]; exact hr)
@[simp] theorem call_56 : CP 56 := callV_pure rfl rfl
@[simp] theorem hint_56_0 : E.hint 56 4 = [.promote 7 2, .forget 4, .forget 5, .forget 9, .forget 15, .forget 16, .forget 17, .forget 18, .forget 19, .forget 20, .forget 21, .forget 22, .forget 23, .forget 24, .forget 25, .forget 26, .forget 27, .forget 28, .forget 29, .forget 30, .forget 31] := rfl
attribute [simp] Tryz.results57
theorem bo_57 : BO 57 [] Tryz.f57 18 := fun hr => bodyV_of (dyn := []) rfl (by rw [E_P]; exact Tryz.func57) (by unfold Tryz.f57; rfl) (by kernel_rfl) (by rw [Tryz.ntmps57]; exact hr)
theorem call_57 (args : List V) (h : Heap) : callV E (om E) 57 args h = (viewArgs h args).bind fun args' => (bodyV E (om E) 57 args' [[]]).bind fun x => if !V.flatL args && !V.own x.2 x.1 then some (V.out h.top.length (V.strip x.1), h.setTop (h.top ++ (x.2.top.map stripBlk).map (outBlk h.top.length))) else some (V.out h.top.length x.1, h.setTop (h.top ++ x.2.top.map (outBlk h.top.length))) := callV_own rfl rfl args h
attribute [simp] Tryz.results58
theorem pu_58 : PU 58 [] Tryz.f58 10 := fun hr => pureV_of (dyn := []) rfl (by rw [E_P]; exact Tryz.func58) (by unfold Tryz.f58; rfl) (by kernel_rfl) (by rw [Tryz.ntmps58]; exact hr)
@[simp] theorem call_58 : CP 58 := callV_pure rfl rfl
attribute [simp] Tryz.results59
theorem bo_59 : BO 59 [] Tryz.f59 17 := fun hr => bodyV_of (dyn := []) rfl (by rw [E_P]; exact Tryz.func59) (by unfold Tryz.f59; rfl) (by kernel_rfl) (by rw [Tryz.ntmps59]; exact hr)
theorem call_59 (args : List V) (h : Heap) : callV E (om E) 59 args h = (viewArgs h args).bind fun args' => (bodyV E (om E) 59 args' [[]]).bind fun x => if !V.flatL args && !V.own x.2 x.1 then some (V.out h.top.length (V.strip x.1), h.setTop (h.top ++ (x.2.top.map stripBlk).map (outBlk h.top.length))) else some (V.out h.top.length x.1, h.setTop (h.top ++ x.2.top.map (outBlk h.top.length))) := callV_own rfl rfl args h
attribute [simp] Tryz.results60
theorem he_60 {args : List V} {h : Heap} {r : V × Heap} (hr : evK E (om E) 60 [] (Tryz.f60.body.getD .skip) (endK Tryz.prog Tryz.f60.results.toList heapFin) (V.upL 1 args ++ pois (39 - (V.upL 1 args).length)) ([] :: h) = some r) : callV E (om E) 60 args h = some r := heap_of (dyn := []) rfl rfl rfl (by rw [E_P]; exact Tryz.func60) (by unfold Tryz.f60; rfl) (by kernel_rfl) (by rw [Tryz.ntmps60]; exact hr)
attribute [simp] Tryz.results61
theorem he_61 {args : List V} {h : Heap} {r : V × Heap} (hr : evK E (om E) 61 [] (Tryz.f61.body.getD .skip) (endK Tryz.prog Tryz.f61.results.toList heapFin) (V.upL 1 args ++ pois (39 - (V.upL 1 args).length)) ([] :: h) = some r) : callV E (om E) 61 args h = some r := heap_of (dyn := []) rfl rfl rfl (by rw [E_P]; exact Tryz.func61) (by unfold Tryz.f61; rfl) (by kernel_rfl) (by rw [Tryz.ntmps61]; exact hr)
attribute [simp] Tryz.results62
theorem pu_62 : PU 62 [] Tryz.f62 29 := fun hr => pureV_of (dyn := []) rfl (by rw [E_P]; exact Tryz.func62) (by unfold Tryz.f62; rfl) (by kernel_rfl) (by rw [Tryz.ntmps62]; exact hr)
@[simp] theorem call_62 : CP 62 := callV_pure rfl rfl
attribute [simp] Tryz.results63
theorem pu_63 : PU 63 [] Tryz.f63 17 := fun hr => pureV_of (dyn := []) rfl (by rw [E_P]; exact Tryz.func63) (by unfold Tryz.f63; rfl) (by kernel_rfl) (by rw [Tryz.ntmps63]; exact hr)
@[simp] theorem call_63 : CP 63 := callV_pure rfl rfl
attribute [simp] Tryz.results64
@[simp] theorem call_64 : CP 64 := callV_pure rfl rfl
attribute [simp] Tryz.results65
attribute [simp] Tryz.results66
theorem he_66 {args : List V} {h : Heap} {r : V × Heap} (hr : evK E (om E) 66 [] (Tryz.f66.body.getD .skip) (endK Tryz.prog Tryz.f66.results.toList heapFin) (V.upL 1 args ++ pois (31 - (V.upL 1 args).length)) ([] :: h) = some r) : callV E (om E) 66 args h = some r := heap_of (dyn := []) rfl rfl rfl (by rw [E_P]; exact Tryz.func66) (by unfold Tryz.f66; rfl) (by kernel_rfl) (by rw [Tryz.ntmps66]; exact hr)
@[simp] theorem hint_66_0 : E.hint 66 1 = [.forget 6, .forget 7, .forget 9, .forget 10, .forget 11, .forget 12, .forget 13, .forget 14, .forget 15, .forget 16, .forget 17, .forget 18, .forget 19, .forget 20, .forget 21, .forget 22, .forget 23, .forget 24, .forget 25, .forget 26, .forget 27, .forget 28, .forget 29, .forget 30] := rfl
attribute [simp] Tryz.results67
theorem pu_67 : PU 67 [] Tryz.f67 51 := fun hr => pureV_of (dyn := []) rfl (by rw [E_P]; exact Tryz.func67) (by unfold Tryz.f67; rfl) (by kernel_rfl) (by rw [Tryz.ntmps67]; exact hr)
@[simp] theorem call_67 : CP 67 := callV_pure rfl rfl
@[simp] theorem hint_67_0 : E.hint 67 8 = [.forget 11, .forget 12, .forget 29, .forget 30, .forget 31, .forget 32, .forget 33, .forget 34, .forget 35, .forget 36, .forget 37, .forget 38, .forget 39, .forget 40, .forget 41, .forget 42, .forget 43, .forget 44, .forget 45, .forget 46, .forget 47, .forget 48, .forget 49] := rfl
attribute [simp] Tryz.results68
theorem pu_68 : PU 68 [] Tryz.f68 35 := fun hr => pureV_of (dyn := []) rfl (by rw [E_P]; exact Tryz.func68) (by unfold Tryz.f68; rfl) (by kernel_rfl) (by rw [Tryz.ntmps68]; exact hr)
@[simp] theorem call_68 : CP 68 := callV_pure rfl rfl
attribute [simp] Tryz.results69
@[simp] theorem call_69 (args : List V) (h : Heap) : callV E (om E) 69 args h = cloneWL 17592186044416 1 args h := callV_known rfl args h
attribute [simp] Tryz.results70
theorem he_70 {args : List V} {h : Heap} {r : V × Heap} (hr : evK E (om E) 70 [] (Tryz.f70.body.getD .skip) (endK Tryz.prog Tryz.f70.results.toList heapFin) (V.upL 1 args ++ pois (28 - (V.upL 1 args).length)) ([] :: h) = some r) : callV E (om E) 70 args h = some r := heap_of (dyn := []) rfl rfl rfl (by rw [E_P]; exact Tryz.func70) (by unfold Tryz.f70; rfl) (by kernel_rfl) (by rw [Tryz.ntmps70]; exact hr)
@[simp] theorem hint_70_0 : E.hint 70 1 = [.forget 3, .forget 4, .forget 8, .forget 9, .forget 10, .forget 11, .forget 12, .forget 13, .forget 14, .forget 15, .forget 16, .forget 17, .forget 18, .forget 19, .forget 20, .forget 21, .forget 22, .forget 23, .forget 24, .forget 25, .forget 26, .forget 27] := rfl
@[simp] theorem hint_70_1 : E.hint 70 3 = [.forget 12, .forget 13, .forget 14, .forget 15, .forget 16, .forget 17, .forget 18, .forget 19, .forget 20, .forget 21, .forget 22, .forget 23, .forget 24, .forget 25, .forget 26] := rfl
@[simp] theorem call_71 (args : List V) (h : Heap) : callV E (om E) 71 args h = (Kr.tzV) args h := callV_known rfl args h
attribute [simp] Tryz.results72
attribute [simp] Tryz.results73
theorem pu_73 : PU 73 [] Tryz.f73 24 := fun hr => pureV_of (dyn := []) rfl (by rw [E_P]; exact Tryz.func73) (by unfold Tryz.f73; rfl) (by kernel_rfl) (by rw [Tryz.ntmps73]; exact hr)
@[simp] theorem call_73 : CP 73 := callV_pure rfl rfl
attribute [simp] Tryz.results74
theorem pu_74 : PU 74 [] Tryz.f74 9 := fun hr => pureV_of (dyn := []) rfl (by rw [E_P]; exact Tryz.func74) (by unfold Tryz.f74; rfl) (by kernel_rfl) (by rw [Tryz.ntmps74]; exact hr)
@[simp] theorem call_74 : CP 74 := callV_pure rfl rfl
attribute [simp] Tryz.results75
theorem pu_75 : PU 75 [] Tryz.f75 17 := fun hr => pureV_of (dyn := []) rfl (by rw [E_P]; exact Tryz.func75) (by unfold Tryz.f75; rfl) (by kernel_rfl) (by rw [Tryz.ntmps75]; exact hr)
@[simp] theorem call_75 : CP 75 := callV_pure rfl rfl
attribute [simp] Tryz.results76
theorem pu_76 : PU 76 [] Tryz.f76 15 := fun hr => pureV_of (dyn := []) rfl (by rw [E_P]; exact Tryz.func76) (by unfold Tryz.f76; rfl) (by kernel_rfl) (by rw [Tryz.ntmps76]; exact hr)
@[simp] theorem call_76 : CP 76 := callV_pure rfl rfl
attribute [simp] Tryz.results77
theorem pu_77 : PU 77 [] Tryz.f77 29 := fun hr => pureV_of (dyn := []) rfl (by rw [E_P]; exact Tryz.func77) (by unfold Tryz.f77; rfl) (by kernel_rfl) (by rw [Tryz.ntmps77]; exact hr)
@[simp] theorem call_77 : CP 77 := callV_pure rfl rfl
attribute [simp] Tryz.results78
theorem pu_78 : PU 78 [] Tryz.f78 24 := fun hr => pureV_of (dyn := []) rfl (by rw [E_P]; exact Tryz.func78) (by unfold Tryz.f78; rfl) (by kernel_rfl) (by rw [Tryz.ntmps78]; exact hr)
@[simp] theorem call_78 : CP 78 := callV_pure rfl rfl
attribute [simp] Tryz.results79
theorem bo_79 : BO 79 [] Tryz.f79 48 := fun hr => bodyV_of (dyn := []) rfl (by rw [E_P]; exact Tryz.func79) (by unfold Tryz.f79; rfl) (by kernel_rfl) (by rw [Tryz.ntmps79]; exact hr)
theorem call_79 (args : List V) (h : Heap) : callV E (om E) 79 args h = (viewArgs h args).bind fun args' => (bodyV E (om E) 79 args' [[]]).bind fun x => if !V.flatL args && !V.own x.2 x.1 then some (V.out h.top.length (V.strip x.1), h.setTop (h.top ++ (x.2.top.map stripBlk).map (outBlk h.top.length))) else some (V.out h.top.length x.1, h.setTop (h.top ++ x.2.top.map (outBlk h.top.length))) := callV_own rfl rfl args h
@[simp] theorem hint_79_0 : E.hint 79 8 = [.forget 34, .forget 35, .forget 36, .forget 37, .forget 38, .forget 39, .forget 40, .forget 41, .forget 42, .forget 43, .forget 44, .forget 45, .forget 46] := rfl
attribute [simp] Tryz.results80
theorem pu_80 : PU 80 [] Tryz.f80 4 := fun hr => pureV_of (dyn := []) rfl (by rw [E_P]; exact Tryz.func80) (by unfold Tryz.f80; rfl) (by kernel_rfl) (by rw [Tryz.ntmps80]; exact hr)
@[simp] theorem call_80 : CP 80 := callV_pure rfl rfl
attribute [simp] Tryz.results81
theorem bo_81 : BO 81 [6] Tryz.f81 109 := fun hr => bodyV_of (dyn := [6]) rfl (by rw [E_P]; exact Tryz.func81) (by unfold Tryz.f81; rfl) (by kernel_rfl) (by rw [Tryz.ntmps81]; exact hr)
theorem call_81 (args : List V) (h : Heap) : callV E (om E) 81 args h = (bodyV E (om E) 81 (V.upL 1 args) ([] :: h)).bind fun x => (V.freeze [x.2.top] x.1).bind fun r' => some (r', x.2.tail) := callV_heap rfl rfl args h
@[simp] theorem hint_81_0 : E.hint 81 4 = [.forget 13, .forget 14, .forget 15, .forget 17, .forget 24, .forget 25, .forget 26, .forget 27, .forget 28, .forget 29, .forget 30, .forget 31, .forget 32, .forget 33, .forget 34, .forget 35, .forget 36, .forget 37, .forget 38, .forget 39, .forget 40, .forget 41, .forget 42, .forget 43, .forget 44, .forget 45, .forget 46, .forget 47, .forget 48, .forget 49, .forget 50, .forget 51, .forget 52, .forget 53, .forget 54, .forget 55, .forget 56, .forget 57, .forget 58, .forget 59, .forget 60, .forget 61, .forget 62, .forget 63, .forget 64, .forget 65, .forget 66, .forget 67, .forget 68, .forget 69, .forget 70, .forget 71, .forget 72, .forget 73, .forget 74, .forget 75, .forget 76, .forget 77, .forget 78, .forget 79, .forget 80, .forget 81, .forget 82, .forget 83, .forget 84, .forget 85, .forget 86, .forget 87, .forget 88, .forget 89, .forget 90, .forget 91, .forget 92, .forget 93, .forget 94, .forget 95, .forget 96, .forget 97, .forget 98, .forget 99, .forget 100, .forget 101, .forget 102, .forget 103] := rfl
@[simp] theorem hint_81_1 : E.hint 81 16 = [.forget 17, .forget 72, .forget 73, .forget 74, .forget 75, .forget 76, .forget 77, .forget 78, .forget 79, .forget 80, .forget 81, .forget 82, .forget 83, .forget 84, .forget 85, .forget 86, .forget 87, .forget 88, .forget 89, .forget 90, .forget 91, .forget 92, .forget 93, .forget 94, .forget 95, .forget 96, .forget 97, .forget 98, .forget 99, .forget 100, .forget 101, .forget 102, .forget 103] := rfl
attribute [simp] Tryz.results82
theorem bo_82 : BO 82 [] Tryz.f82 27 := fun hr => bodyV_of (dyn := []) rfl (by rw [E_P]; exact Tryz.func82) (by unfold Tryz.f82; rfl) (by kernel_rfl) (by rw [Tryz.ntmps82]; exact hr)
theorem call_82 (args : List V) (h : Heap) : callV E (om E) 82 args h = (bodyV E (om E) 82 (V.upL 1 args) ([] :: h)).bind fun x => some (V.out (Heap.top x.2.tail).length x.1, Heap.setTop x.2.tail (Heap.top x.2.tail ++ x.2.top.map (outBlk (Heap.top x.2.tail).length))) := callV_live rfl rfl args h
attribute [simp] Tryz.results83
theorem bo_83 : BO 83 [] Tryz.f83 21 := fun hr => bodyV_of (dyn := []) rfl (by rw [E_P]; exact Tryz.func83) (by unfold Tryz.f83; rfl) (by kernel_rfl) (by rw [Tryz.ntmps83]; exact hr)
theorem call_83 (args : List V) (h : Heap) : callV E (om E) 83 args h = (bodyV E (om E) 83 (V.upL 1 args) ([] :: h)).bind fun x => (V.freeze [x.2.top] x.1).bind fun r' => some (r', x.2.tail) := callV_heap rfl rfl args h
@[simp] theorem hint_83_0 : E.hint 83 2 = [.promote 0 1, .forget 5, .forget 8, .forget 9, .forget 10, .forget 11, .forget 12, .forget 13, .forget 14, .forget 15, .forget 16, .forget 17, .forget 18, .forget 19] := rfl
attribute [simp] Tryz.results84
theorem bo_84 : BO 84 [] Tryz.f84 21 := fun hr => bodyV_of (dyn := []) rfl (by rw [E_P]; exact Tryz.func84) (by unfold Tryz.f84; rfl) (by kernel_rfl) (by rw [Tryz.ntmps84]; exact hr)
theorem call_84 (args : List V) (h : Heap) : callV E (om E) 84 args h = (bodyV E (om E) 84 (V.upL 1 args) ([] :: h)).bind fun x => (V.freeze [x.2.top] x.1).bind fun r' => some (r', x.2.tail) := callV_heap rfl rfl args h
@[simp] theorem hint_84_0 : E.hint 84 2 = [.promote 0 1, .forget 5, .forget 8, .forget 9, .forget 10, .forget 11, .forget 12, .forget 13, .forget 14, .forget 15, .forget 16, .forget 17, .forget 18, .forget 19] := rfl
attribute [simp] Tryz.results85
theorem bo_85 : BO 85 [] Tryz.f85 22 := fun hr => bodyV_of (dyn := []) rfl (by rw [E_P]; exact Tryz.func85) (by unfold Tryz.f85; rfl) (by kernel_rfl) (by rw [Tryz.ntmps85]; exact hr)
theorem call_85 (args : List V) (h : Heap) : callV E (om E) 85 args h = (viewArgs h args).bind fun args' => (bodyV E (om E) 85 args' [[]]).bind fun x => if !V.flatL args && !V.own x.2 x.1 then some (V.out h.top.length (V.strip x.1), h.setTop (h.top ++ (x.2.top.map stripBlk).map (outBlk h.top.length))) else some (V.out h.top.length x.1, h.setTop (h.top ++ x.2.top.map (outBlk h.top.length))) := callV_own rfl rfl args h
attribute [simp] Tryz.results86
theorem pu_86 : PU 86 [] Tryz.f86 15 := fun hr => pureV_of (dyn := []) rfl (by rw [E_P]; exact Tryz.func86) (by unfold Tryz.f86; rfl) (by kernel_rfl) (by rw [Tryz.ntmps86]; exact hr)
@[simp] theorem call_86 : CP 86 := callV_pure rfl rfl
attribute [simp] Tryz.results87
attribute [simp] Tryz.results88
attribute [simp] Tryz.results89
theorem pu_89 : PU 89 [] Tryz.f89 26 := fun hr => pureV_of (dyn := []) rfl (by rw [E_P]; exact Tryz.func89) (by unfold Tryz.f89; rfl) (by kernel_rfl) (by rw [Tryz.ntmps89]; exact hr)
@[simp] theorem call_89 : CP 89 := callV_pure rfl rfl
attribute [simp] Tryz.results90
theorem pu_90 : PU 90 [] Tryz.f90 9 := fun hr => pureV_of (dyn := []) rfl (by rw [E_P]; exact Tryz.func90) (by unfold Tryz.f90; rfl) (by kernel_rfl) (by rw [Tryz.ntmps90]; exact hr)
@[simp] theorem call_90 : CP 90 := callV_pure rfl rfl
attribute [simp] Tryz.results91
theorem pu_91 : PU 91 [] Tryz.f91 9 := fun hr => pureV_of (dyn := []) rfl (by rw [E_P]; exact Tryz.func91) (by unfold Tryz.f91; rfl) (by kernel_rfl) (by rw [Tryz.ntmps91]; exact hr)
@[simp] theorem call_91 : CP 91 := callV_pure rfl rfl
attribute [simp] Tryz.results92
theorem pu_92 : PU 92 [] Tryz.f92 10 := fun hr => pureV_of (dyn := []) rfl (by rw [E_P]; exact Tryz.func92) (by unfold Tryz.f92; rfl) (by kernel_rfl) (by rw [Tryz.ntmps92]; exact hr)
@[simp] theorem call_92 : CP 92 := callV_pure rfl rfl
attribute [simp] Tryz.results93
theorem pu_93 : PU 93 [] Tryz.f93 5 := fun hr => pureV_of (dyn := []) rfl (by rw [E_P]; exact Tryz.func93) (by unfold Tryz.f93; rfl) (by kernel_rfl) (by rw [Tryz.ntmps93]; exact hr)
@[simp] theorem call_93 : CP 93 := callV_pure rfl rfl
attribute [simp] Tryz.results94
theorem pu_94 : PU 94 [] Tryz.f94 9 := fun hr => pureV_of (dyn := []) rfl (by rw [E_P]; exact Tryz.func94) (by unfold Tryz.f94; rfl) (by kernel_rfl) (by rw [Tryz.ntmps94]; exact hr)
@[simp] theorem call_94 : CP 94 := callV_pure rfl rfl
attribute [simp] Tryz.results95
theorem pu_95 : PU 95 [] Tryz.f95 5 := fun hr => pureV_of (dyn := []) rfl (by rw [E_P]; exact Tryz.func95) (by unfold Tryz.f95; rfl) (by kernel_rfl) (by rw [Tryz.ntmps95]; exact hr)
@[simp] theorem call_95 : CP 95 := callV_pure rfl rfl
attribute [simp] Tryz.results96
theorem pu_96 : PU 96 [] Tryz.f96 6 := fun hr => pureV_of (dyn := []) rfl (by rw [E_P]; exact Tryz.func96) (by unfold Tryz.f96; rfl) (by kernel_rfl) (by rw [Tryz.ntmps96]; exact hr)
@[simp] theorem call_96 : CP 96 := callV_pure rfl rfl
attribute [simp] Tryz.results97
theorem pu_97 : PU 97 [] Tryz.f97 9 := fun hr => pureV_of (dyn := []) rfl (by rw [E_P]; exact Tryz.func97) (by unfold Tryz.f97; rfl) (by kernel_rfl) (by rw [Tryz.ntmps97]; exact hr)
@[simp] theorem call_97 : CP 97 := callV_pure rfl rfl
attribute [simp] Tryz.results98
theorem pu_98 : PU 98 [] Tryz.f98 9 := fun hr => pureV_of (dyn := []) rfl (by rw [E_P]; exact Tryz.func98) (by unfold Tryz.f98; rfl) (by kernel_rfl) (by rw [Tryz.ntmps98]; exact hr)
@[simp] theorem call_98 : CP 98 := callV_pure rfl rfl
attribute [simp] Tryz.results99
attribute [simp] Tryz.results100
theorem pu_100 : PU 100 [] Tryz.f100 64 := fun hr => pureV_of (dyn := []) rfl (by rw [E_P]; exact Tryz.func100) (by unfold Tryz.f100; rfl) (by kernel_rfl) (by rw [Tryz.ntmps100]; exact hr)
@[simp] theorem call_100 : CP 100 := callV_pure rfl rfl
@[simp] theorem hint_100_0 : E.hint 100 5 = [.forget 6, .forget 7, .forget 8, .forget 28, .forget 29, .forget 30, .forget 31, .forget 32, .forget 33, .forget 34, .forget 35, .forget 36, .forget 37, .forget 38, .forget 39, .forget 40, .forget 41, .forget 42, .forget 43, .forget 44, .forget 45, .forget 46, .forget 47, .forget 48, .forget 49, .forget 50, .forget 51, .forget 52, .forget 53, .forget 54, .forget 55, .forget 56, .forget 57, .forget 58, .forget 59, .forget 60, .forget 61, .forget 62] := rfl
attribute [simp] Tryz.results101
attribute [simp] Tryz.results102
theorem pu_102 : PU 102 [] Tryz.f102 17 := fun hr => pureV_of (dyn := []) rfl (by rw [E_P]; exact Tryz.func102) (by unfold Tryz.f102; rfl) (by kernel_rfl) (by rw [Tryz.ntmps102]; exact hr)
@[simp] theorem call_102 : CP 102 := callV_pure rfl rfl
attribute [simp] Tryz.results103
theorem pu_103 : PU 103 [] Tryz.f103 30 := fun hr => pureV_of (dyn := []) rfl (by rw [E_P]; exact Tryz.func103) (by unfold Tryz.f103; rfl) (by kernel_rfl) (by rw [Tryz.ntmps103]; exact hr)
@[simp] theorem call_103 : CP 103 := callV_pure rfl rfl
attribute [simp] Tryz.results104
theorem he_104 {args : List V} {h : Heap} {r : V × Heap} (hr : evK E (om E) 104 [] (Tryz.f104.body.getD .skip) (endK Tryz.prog Tryz.f104.results.toList heapFin) (V.upL 1 args ++ pois (23 - (V.upL 1 args).length)) ([] :: h) = some r) : callV E (om E) 104 args h = some r := heap_of (dyn := []) rfl rfl rfl (by rw [E_P]; exact Tryz.func104) (by unfold Tryz.f104; rfl) (by kernel_rfl) (by rw [Tryz.ntmps104]; exact hr)
@[simp] theorem hint_104_0 : E.hint 104 2 = [.forget 3, .forget 4, .forget 13, .forget 14, .forget 15, .forget 16, .forget 17, .forget 18, .forget 19, .forget 20, .forget 21, .forget 22] := rfl
attribute [simp] Tryz.results105
theorem pu_105 : PU 105 [] Tryz.f105 5 := fun hr => pureV_of (dyn := []) rfl (by rw [E_P]; exact Tryz.func105) (by unfold Tryz.f105; rfl) (by kernel_rfl) (by rw [Tryz.ntmps105]; exact hr)
@[simp] theorem call_105 : CP 105 := callV_pure rfl rfl
attribute [simp] Tryz.results106
theorem bo_106 : BO 106 [] Tryz.f106 15 := fun hr => bodyV_of (dyn := []) rfl (by rw [E_P]; exact Tryz.func106) (by unfold Tryz.f106; rfl) (by kernel_rfl) (by rw [Tryz.ntmps106]; exact hr)
theorem call_106 (args : List V) (h : Heap) : callV E (om E) 106 args h = (bodyV E (om E) 106 (V.upL 1 args) ([] :: h)).bind fun x => (V.freeze [x.2.top] x.1).bind fun r' => some (r', x.2.tail) := callV_heap rfl rfl args h
attribute [simp] Tryz.results107
theorem pu_107 : PU 107 [] Tryz.f107 20 := fun hr => pureV_of (dyn := []) rfl (by rw [E_P]; exact Tryz.func107) (by unfold Tryz.f107; rfl) (by kernel_rfl) (by rw [Tryz.ntmps107]; exact hr)
@[simp] theorem call_107 : CP 107 := callV_pure rfl rfl
attribute [simp] Tryz.results108
theorem pu_108 : PU 108 [] Tryz.f108 58 := fun hr => pureV_of (dyn := []) rfl (by rw [E_P]; exact Tryz.func108) (by unfold Tryz.f108; rfl) (by kernel_rfl) (by rw [Tryz.ntmps108]; exact hr)
@[simp] theorem call_108 : CP 108 := callV_pure rfl rfl
attribute [simp] Tryz.results109
theorem bo_109 : BO 109 [] Tryz.f109 12 := fun hr => bodyV_of (dyn := []) rfl (by rw [E_P]; exact Tryz.func109) (by unfold Tryz.f109; rfl) (by kernel_rfl) (by rw [Tryz.ntmps109]; exact hr)
theorem call_109 (args : List V) (h : Heap) : callV E (om E) 109 args h = (bodyV E (om E) 109 (V.upL 1 args) ([] :: h)).bind fun x => (V.freeze [x.2.top] x.1).bind fun r' => some (r', x.2.tail) := callV_heap rfl rfl args h
attribute [simp] Tryz.results110
theorem pu_110 : PU 110 [] Tryz.f110 14 := fun hr => pureV_of (dyn := []) rfl (by rw [E_P]; exact Tryz.func110) (by unfold Tryz.f110; rfl) (by kernel_rfl) (by rw [Tryz.ntmps110]; exact hr)
@[simp] theorem call_110 : CP 110 := callV_pure rfl rfl
@[simp] theorem hint_110_0 : E.hint 110 3 = [.forget 5, .forget 6, .forget 7, .forget 8, .forget 9, .forget 10, .forget 11, .forget 12] := rfl
attribute [simp] Tryz.results111
theorem pu_111 : PU 111 [] Tryz.f111 14 := fun hr => pureV_of (dyn := []) rfl (by rw [E_P]; exact Tryz.func111) (by unfold Tryz.f111; rfl) (by kernel_rfl) (by rw [Tryz.ntmps111]; exact hr)
@[simp] theorem call_111 : CP 111 := callV_pure rfl rfl
@[simp] theorem hint_111_0 : E.hint 111 3 = [.forget 5, .forget 6, .forget 7, .forget 8, .forget 9, .forget 10, .forget 11, .forget 12] := rfl
attribute [simp] Tryz.results112
theorem pu_112 : PU 112 [] Tryz.f112 15 := fun hr => pureV_of (dyn := []) rfl (by rw [E_P]; exact Tryz.func112) (by unfold Tryz.f112; rfl) (by kernel_rfl) (by rw [Tryz.ntmps112]; exact hr)
@[simp] theorem call_112 : CP 112 := callV_pure rfl rfl
attribute [simp] Tryz.results113
@[simp] theorem call_113 (args : List V) (h : Heap) : callV E (om E) 113 args h = cloneWL 140737488355328 1 args h := callV_known rfl args h
attribute [simp] Tryz.results114
theorem pu_114 : PU 114 [] Tryz.f114 33 := fun hr => pureV_of (dyn := []) rfl (by rw [E_P]; exact Tryz.func114) (by unfold Tryz.f114; rfl) (by kernel_rfl) (by rw [Tryz.ntmps114]; exact hr)
@[simp] theorem call_114 : CP 114 := callV_pure rfl rfl
attribute [simp] Tryz.results115
theorem pu_115 : PU 115 [] Tryz.f115 35 := fun hr => pureV_of (dyn := []) rfl (by rw [E_P]; exact Tryz.func115) (by unfold Tryz.f115; rfl) (by kernel_rfl) (by rw [Tryz.ntmps115]; exact hr)
@[simp] theorem call_115 : CP 115 := callV_pure rfl rfl
attribute [simp] Tryz.results116
theorem pu_116 : PU 116 [18] Tryz.f116 96 := fun hr => pureV_of (dyn := [18]) rfl (by rw [E_P]; exact Tryz.func116) (by unfold Tryz.f116; rfl) (by kernel_rfl) (by rw [Tryz.ntmps116]; exact hr)
@[simp] theorem call_116 : CP 116 := callV_pure rfl rfl
@[simp] theorem hint_116_0 : E.hint 116 9 = [.forget 12, .forget 37, .forget 38, .forget 39, .forget 40, .forget 41, .forget 42, .forget 43, .forget 44, .forget 45, .forget 46, .forget 47, .forget 48, .forget 49, .forget 50, .forget 51, .forget 52, .forget 53, .forget 54, .forget 55, .forget 56, .forget 57, .forget 58, .forget 59, .forget 60, .forget 61, .forget 62, .forget 63, .forget 64, .forget 65, .forget 66, .forget 67, .forget 68, .forget 69, .forget 70, .forget 71, .forget 72, .forget 73, .forget 74, .forget 75, .forget 76, .forget 77, .forget 78, .forget 79, .forget 80, .forget 81, .forget 82, .forget 83, .forget 84, .forget 85, .forget 86, .forget 87, .forget 88, .forget 89, .forget 90, .forget 91, .forget 92, .forget 93, .forget 94] := rfl
attribute [simp] Tryz.results117
theorem pu_117 : PU 117 [] Tryz.f117 37 := fun hr => pureV_of (dyn := []) rfl (by rw [E_P]; exact Tryz.func117) (by unfold Tryz.f117; rfl) (by kernel_rfl) (by rw [Tryz.ntmps117]; exact hr)
@[simp] theorem call_117 : CP 117 := callV_pure rfl rfl
@[simp] theorem hint_117_0 : E.hint 117 2 = [.forget 6, .forget 7, .forget 8, .forget 9, .forget 10, .forget 11, .forget 12, .forget 13, .forget 14, .forget 15, .forget 16, .forget 17, .forget 18, .forget 19, .forget 20, .forget 21, .forget 22, .forget 23, .forget 24, .forget 25, .forget 26, .forget 27, .forget 28, .forget 29, .forget 30, .forget 31, .forget 32, .forget 33, .forget 34, .forget 35] := rfl
attribute [simp] Tryz.results118
theorem pu_118 : PU 118 [] Tryz.f118 65 := fun hr => pureV_of (dyn := []) rfl (by rw [E_P]; exact Tryz.func118) (by unfold Tryz.f118; rfl) (by kernel_rfl) (by rw [Tryz.ntmps118]; exact hr)
@[simp] theorem call_118 : CP 118 := callV_pure rfl rfl
attribute [simp] Tryz.results119
theorem pu_119 : PU 119 [] Tryz.f119 43 := fun hr => pureV_of (dyn := []) rfl (by rw [E_P]; exact Tryz.func119) (by unfold Tryz.f119; rfl) (by kernel_rfl) (by rw [Tryz.ntmps119]; exact hr)
@[simp] theorem call_119 : CP 119 := callV_pure rfl rfl
attribute [simp] Tryz.results120
theorem pu_120 : PU 120 [] Tryz.f120 13 := fun hr => pureV_of (dyn := []) rfl (by rw [E_P]; exact Tryz.func120) (by unfold Tryz.f120; rfl) (by kernel_rfl) (by rw [Tryz.ntmps120]; exact hr)
@[simp] theorem call_120 : CP 120 := callV_pure rfl rfl
attribute [simp] Tryz.results121
attribute [simp] Tryz.results122
attribute [simp] Tryz.results123
theorem pu_123 : PU 123 [] Tryz.f123 51 := fun hr => pureV_of (dyn := []) rfl (by rw [E_P]; exact Tryz.func123) (by unfold Tryz.f123; rfl) (by kernel_rfl) (by rw [Tryz.ntmps123]; exact hr)
@[simp] theorem call_123 : CP 123 := callV_pure rfl rfl
attribute [simp] Tryz.results124
theorem bo_124 : BO 124 [] Tryz.f124 48 := fun hr => bodyV_of (dyn := []) rfl (by rw [E_P]; exact Tryz.func124) (by unfold Tryz.f124; rfl) (by kernel_rfl) (by rw [Tryz.ntmps124]; exact hr)
theorem call_124 (args : List V) (h : Heap) : callV E (om E) 124 args h = (bodyV E (om E) 124 (V.upL 1 args) ([] :: h)).bind fun x => (V.freeze [x.2.top] x.1).bind fun r' => some (r', x.2.tail) := callV_heap rfl rfl args h
@[simp] theorem hint_124_0 : E.hint 124 2 = [.forget 8, .forget 9, .forget 10, .forget 12, .forget 13, .forget 14, .forget 15, .forget 16, .forget 17, .forget 18, .forget 19, .forget 20, .forget 21, .forget 22, .forget 23, .forget 24, .forget 25, .forget 26, .forget 27, .forget 28, .forget 29, .forget 30, .forget 31, .forget 32, .forget 33, .forget 34, .forget 35, .forget 36, .forget 37, .forget 38, .forget 39, .forget 40, .forget 41, .forget 42, .forget 43, .forget 44] := rfl
attribute [simp] Tryz.results125
theorem bo_125 : BO 125 [] Tryz.f125 61 := fun hr => bodyV_of (dyn := []) rfl (by rw [E_P]; exact Tryz.func125) (by unfold Tryz.f125; rfl) (by kernel_rfl) (by rw [Tryz.ntmps125]; exact hr)
theorem call_125 (args : List V) (h : Heap) : callV E (om E) 125 args h = (bodyV E (om E) 125 (V.upL 1 args) ([] :: h)).bind fun x => (V.freeze [x.2.top] x.1).bind fun r' => some (r', x.2.tail) := callV_heap rfl rfl args h
@[simp] theorem hint_125_0 : E.hint 125 4 = [.forget 2, .forget 4, .forget 5, .forget 10, .forget 11, .forget 12, .forget 13, .forget 14, .forget 15, .forget 16, .forget 17, .forget 18, .forget 19, .forget 20, .forget 21, .forget 22, .forget 23, .forget 24, .forget 25, .forget 26, .forget 27, .forget 28, .forget 29, .forget 30, .forget 31, .forget 32, .forget 33, .forget 34, .forget 35, .forget 36, .forget 37, .forget 38, .forget 39, .forget 40, .forget 41, .forget 42, .forget 43, .forget 44, .forget 45, .forget 46, .forget 47, .forget 48, .forget 49, .forget 50, .forget 51, .forget 52, .forget 53, .forget 54, .forget 55, .forget 56, .forget 57, .forget 58, .forget 59] := rfl
@[simp] theorem hint_125_1 : E.hint 125 9 = [.forget 29, .forget 30, .forget 31, .forget 32, .forget 33, .forget 34, .forget 35, .forget 36, .forget 37, .forget 38, .forget 39, .forget 40, .forget 41, .forget 42, .forget 43, .forget 44, .forget 45, .forget 46, .forget 47, .forget 48, .forget 49, .forget 50, .forget 51, .forget 52, .forget 53] := rfl
attribute [simp] Tryz.results126
theorem pu_126 : PU 126 [] Tryz.f126 23 := fun hr => pureV_of (dyn := []) rfl (by rw [E_P]; exact Tryz.func126) (by unfold Tryz.f126; rfl) (by kernel_rfl) (by rw [Tryz.ntmps126]; exact hr)
@[simp] theorem call_126 : CP 126 := callV_pure rfl rfl
attribute [simp] Tryz.results127
theorem bo_127 : BO 127 [] Tryz.f127 23 := fun hr => bodyV_of (dyn := []) rfl (by rw [E_P]; exact Tryz.func127) (by unfold Tryz.f127; rfl) (by kernel_rfl) (by rw [Tryz.ntmps127]; exact hr)
theorem call_127 (args : List V) (h : Heap) : callV E (om E) 127 args h = (bodyV E (om E) 127 (V.upL 1 args) ([] :: h)).bind fun x => (V.freeze [x.2.top] x.1).bind fun r' => some (r', x.2.tail) := callV_heap rfl rfl args h
@[simp] theorem hint_127_0 : E.hint 127 0 = [.forget 4, .forget 5, .forget 6, .forget 7, .forget 8, .forget 9, .forget 10, .forget 11, .forget 12, .forget 13, .forget 14, .forget 15, .forget 16, .forget 17, .forget 18, .forget 19, .forget 20, .forget 21, .forget 22] := rfl
attribute [simp] Tryz.results128
theorem he_128 {args : List V} {h : Heap} {r : V × Heap} (hr : evK E (om E) 128 [] (Tryz.f128.body.getD .skip) (endK Tryz.prog Tryz.f128.results.toList heapFin) (V.upL 1 args ++ pois (78 - (V.upL 1 args).length)) ([] :: h) = some r) : callV E (om E) 128 args h = some r := heap_of (dyn := []) rfl rfl rfl (by rw [E_P]; exact Tryz.func128) (by unfold Tryz.f128; rfl) (by kernel_rfl) (by rw [Tryz.ntmps128]; exact hr)
attribute [simp] Tryz.results129
theorem he_129 {args : List V} {h : Heap} {r : V × Heap} (hr : evK E (om E) 129 [] (Tryz.f129.body.getD .skip) (endK Tryz.prog Tryz.f129.results.toList heapFin) (V.upL 1 args ++ pois (80 - (V.upL 1 args).length)) ([] :: h) = some r) : callV E (om E) 129 args h = some r := heap_of (dyn := []) rfl rfl rfl (by rw [E_P]; exact Tryz.func129) (by unfold Tryz.f129; rfl) (by kernel_rfl) (by rw [Tryz.ntmps129]; exact hr)
attribute [simp] Tryz.results130
theorem he_130 {args : List V} {h : Heap} {r : V × Heap} (hr : evK E (om E) 130 [] (Tryz.f130.body.getD .skip) (endK Tryz.prog Tryz.f130.results.toList heapFin) (V.upL 1 args ++ pois (26 - (V.upL 1 args).length)) ([] :: h) = some r) : callV E (om E) 130 args h = some r := heap_of (dyn := []) rfl rfl rfl (by rw [E_P]; exact Tryz.func130) (by unfold Tryz.f130; rfl) (by kernel_rfl) (by rw [Tryz.ntmps130]; exact hr)
attribute [simp] Tryz.results131
theorem he_131 {args : List V} {h : Heap} {r : V × Heap} (hr : evK E (om E) 131 [] (Tryz.f131.body.getD .skip) (endK Tryz.prog Tryz.f131.results.toList heapFin) (V.upL 1 args ++ pois (56 - (V.upL 1 args).length)) ([] :: h) = some r) : callV E (om E) 131 args h = some r := heap_of (dyn := []) rfl rfl rfl (by rw [E_P]; exact Tryz.func131) (by unfold Tryz.f131; rfl) (by kernel_rfl) (by rw [Tryz.ntmps131]; exact hr)
attribute [simp] Tryz.results132
theorem pu_132 : PU 132 [] Tryz.f132 74 := fun hr => pureV_of (dyn := []) rfl (by rw [E_P]; exact Tryz.func132) (by unfold Tryz.f132; rfl) (by kernel_rfl) (by rw [Tryz.ntmps132]; exact hr)
@[simp] theorem call_132 : CP 132 := callV_pure rfl rfl
@[simp] theorem call_133 (args : List V) (h : Heap) : callV E (om E) 133 args h = (knOUU fun o a b => .tuple [.int .u32 (binW o a b), .int .i64 (binE o b)]) args h := callV_known rfl args h
attribute [simp] Tryz.results134
theorem pu_134 : PU 134 [] Tryz.f134 39 := fun hr => pureV_of (dyn := []) rfl (by rw [E_P]; exact Tryz.func134) (by unfold Tryz.f134; rfl) (by kernel_rfl) (by rw [Tryz.ntmps134]; exact hr)
@[simp] theorem call_134 : CP 134 := callV_pure rfl rfl
attribute [simp] Tryz.results135
theorem pu_135 : PU 135 [] Tryz.f135 39 := fun hr => pureV_of (dyn := []) rfl (by rw [E_P]; exact Tryz.func135) (by unfold Tryz.f135; rfl) (by kernel_rfl) (by rw [Tryz.ntmps135]; exact hr)
@[simp] theorem call_135 : CP 135 := callV_pure rfl rfl
@[simp] theorem call_136 (args : List V) (h : Heap) : callV E (om E) 136 args h = (knUU fun a b => .int .u8 (standF a b)) args h := callV_known rfl args h
attribute [simp] Tryz.results137
attribute [simp] Tryz.results138
theorem pu_138 : PU 138 [] Tryz.f138 105 := fun hr => pureV_of (dyn := []) rfl (by rw [E_P]; exact Tryz.func138) (by unfold Tryz.f138; rfl) (by kernel_rfl) (by rw [Tryz.ntmps138]; exact hr)
@[simp] theorem call_138 : CP 138 := callV_pure rfl rfl
attribute [simp] Tryz.results139
theorem pu_139 : PU 139 [] Tryz.f139 5 := fun hr => pureV_of (dyn := []) rfl (by rw [E_P]; exact Tryz.func139) (by unfold Tryz.f139; rfl) (by kernel_rfl) (by rw [Tryz.ntmps139]; exact hr)
@[simp] theorem call_139 : CP 139 := callV_pure rfl rfl
@[simp] theorem call_140 (args : List V) (h : Heap) : callV E (om E) 140 args h = (knI fun a => .int .u32 (ofF a)) args h := callV_known rfl args h
@[simp] theorem call_141 (args : List V) (h : Heap) : callV E (om E) 141 args h = (knU fun a => .int .i32 (towardF a)) args h := callV_known rfl args h
attribute [simp] Tryz.results142
@[simp] theorem call_143 (args : List V) (h : Heap) : callV E (om E) 143 args h = (knUU fun a b => .int .u32 (arithF .add a b)) args h := callV_known rfl args h
@[simp] theorem call_144 (args : List V) (h : Heap) : callV E (om E) 144 args h = (knUU fun a b => .int .u32 (arithF .sub a b)) args h := callV_known rfl args h
@[simp] theorem call_145 (args : List V) (h : Heap) : callV E (om E) 145 args h = (knUU fun a b => .int .u32 (arithF .mul a b)) args h := callV_known rfl args h
@[simp] theorem call_146 (args : List V) (h : Heap) : callV E (om E) 146 args h = (knUU fun a b => .int .u32 (arithF .quo a b)) args h := callV_known rfl args h
attribute [simp] Tryz.results147
attribute [simp] Tryz.results169
attribute [simp] Tryz.results170
attribute [simp] Tryz.results172
theorem pu_172 : PU 172 [] Tryz.f172 16 := fun hr => pureV_of (dyn := []) rfl (by rw [E_P]; exact Tryz.func172) (by unfold Tryz.f172; rfl) (by kernel_rfl) (by rw [Tryz.ntmps172]; exact hr)
@[simp] theorem call_172 : CP 172 := callV_pure rfl rfl
attribute [simp] Tryz.results173
theorem bo_173 : BO 173 [] Tryz.f173 27 := fun hr => bodyV_of (dyn := []) rfl (by rw [E_P]; exact Tryz.func173) (by unfold Tryz.f173; rfl) (by kernel_rfl) (by rw [Tryz.ntmps173]; exact hr)
theorem call_173 (args : List V) (h : Heap) : callV E (om E) 173 args h = (bodyV E (om E) 173 (V.upL 1 args) ([] :: h)).bind fun x => (V.freeze [x.2.top] x.1).bind fun r' => some (r', x.2.tail) := callV_heap rfl rfl args h
attribute [simp] Tryz.results174
theorem bo_174 : BO 174 [] Tryz.f174 13 := fun hr => bodyV_of (dyn := []) rfl (by rw [E_P]; exact Tryz.func174) (by unfold Tryz.f174; rfl) (by kernel_rfl) (by rw [Tryz.ntmps174]; exact hr)
theorem call_174 (args : List V) (h : Heap) : callV E (om E) 174 args h = (bodyV E (om E) 174 (V.upL 1 args) ([] :: h)).bind fun x => (V.freeze [x.2.top] x.1).bind fun r' => some (r', x.2.tail) := callV_heap rfl rfl args h
attribute [simp] Tryz.results175
theorem bo_175 : BO 175 [] Tryz.f175 20 := fun hr => bodyV_of (dyn := []) rfl (by rw [E_P]; exact Tryz.func175) (by unfold Tryz.f175; rfl) (by kernel_rfl) (by rw [Tryz.ntmps175]; exact hr)
theorem call_175 (args : List V) (h : Heap) : callV E (om E) 175 args h = (bodyV E (om E) 175 (V.upL 1 args) ([] :: h)).bind fun x => (V.freeze [x.2.top] x.1).bind fun r' => some (r', x.2.tail) := callV_heap rfl rfl args h
attribute [simp] Tryz.results180
end Go.Proofs.YtfplmcpkagpaiaaGreatDoor
end
