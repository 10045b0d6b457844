/-
  The machine's settings over this seat's program. Printed by program.
  What the machine of values takes for known is so; what it asks of the program's functions. Printed by program.
-/
import Derived.Test.YtnojknodojjnnaaGreatNa
section
namespace Go.Proofs.YtnojknodojjnnaaGreat
open Go Go.Sim
set_option maxRecDepth 100000
set_option linter.unusedVariables false
set_option linter.unusedSimpArgs false
def modeT (f : Nat) : Sim.Mode :=
  match f with
  | 77 => .own
  | 99 => .live
  | 113 => .heap
  | 100 => .heap
  | 71 => .heap
  | 72 => .heap
  | 39 => .own
  | 70 => .live
  | 112 => .live
  | 73 => .own
  | 43 => .own
  | 75 => .own
  | 104 => .heap
  | 88 => .heap
  | 106 => .heap
  | 109 => .heap
  | 117 => .heap
  | 120 => .heap
  | 146 => .heap
  | 144 => .heap
  | 145 => .heap
  | 118 => .heap
  | 86 => .own
  | 29 => .own
  | 105 => .pure
  | 143 => .pure
  | 54 => .live
  | 56 => .inl
  | 59 => .own
  | 23 => .own
  | _ => .pure
def hintT (f r : Nat) : List Hint :=
  match f, r with
  | 3, 7 => [.forget 2, .forget 23, .forget 24, .forget 25, .forget 26, .forget 27, .forget 28, .forget 29, .forget 30, .forget 31, .forget 32, .forget 33, .forget 34, .forget 35, .forget 36, .forget 37, .forget 38, .forget 39, .forget 40, .forget 41, .forget 42, .forget 43, .forget 44, .forget 45, .forget 46, .forget 47, .forget 48, .forget 49, .forget 50, .forget 51, .forget 52, .forget 53, .forget 54, .forget 55, .forget 56, .forget 57, .forget 58, .forget 59, .forget 60, .forget 61, .forget 62, .forget 63, .forget 64, .forget 65, .forget 66]
  | 3, 15 => [.forget 2, .forget 78, .forget 79, .forget 80, .forget 81, .forget 82, .forget 83, .forget 84, .forget 85, .forget 86, .forget 87]
  | 4, 15 => [.forget 2, .forget 18, .forget 19, .forget 20, .forget 21, .forget 22, .forget 23, .forget 24, .forget 157, .forget 158, .forget 159, .forget 160, .forget 161, .forget 162, .forget 163, .forget 164, .forget 165, .forget 166, .forget 167, .forget 168, .forget 169, .forget 170, .forget 171, .forget 172, .forget 173, .forget 174, .forget 175, .forget 176, .forget 177, .forget 178, .forget 179, .forget 180, .forget 181, .forget 182, .forget 183, .forget 184, .forget 185, .forget 186, .forget 187, .forget 188, .forget 189, .forget 190, .forget 191, .forget 192, .forget 193, .forget 194, .forget 195, .forget 196, .forget 197, .forget 198, .forget 199, .forget 200, .forget 201, .forget 202, .forget 203, .forget 204, .forget 205, .forget 206, .forget 207, .forget 208, .forget 209, .forget 210, .forget 211, .forget 212, .forget 213, .forget 214, .forget 215, .forget 216, .forget 217, .forget 218, .forget 219, .forget 220, .forget 221, .forget 222, .forget 223, .forget 224, .forget 225, .forget 226]
  | 6, 6 => [.promoteBox 3 9 2, .forget 18, .forget 19, .forget 20, .forget 21, .forget 22, .forget 23, .forget 24, .forget 25, .forget 26, .forget 27, .forget 28, .forget 29, .forget 30, .forget 31, .forget 32, .forget 33, .forget 34]
  | 6, 10 => [.promoteBox 3 9 2, .forget 35, .forget 36, .forget 37, .forget 38, .forget 39, .forget 40, .forget 41, .forget 42, .forget 43, .forget 44, .forget 45, .forget 46]
  | 12, 2 => [.forget 4, .forget 6, .forget 7, .forget 8, .forget 9, .forget 10, .forget 11, .forget 12, .forget 13, .forget 14, .forget 15, .forget 16, .forget 17, .forget 18, .forget 19, .forget 20, .forget 21, .forget 22, .forget 23, .forget 24, .forget 25, .forget 26, .forget 27, .forget 28, .forget 29, .forget 30, .forget 31, .forget 32, .forget 33, .forget 34, .forget 35, .forget 36, .forget 37, .forget 38, .forget 39, .forget 40, .forget 41, .forget 42, .forget 43, .forget 44, .forget 45, .forget 46, .forget 47, .forget 48, .forget 49, .forget 50, .forget 51, .forget 52, .forget 53, .forget 54, .forget 55, .forget 56, .forget 57, .forget 58, .forget 59, .forget 60, .forget 61, .forget 62, .forget 63, .forget 64, .forget 65, .forget 66, .forget 67, .forget 68, .forget 69, .forget 70, .forget 71, .forget 72, .forget 73, .forget 74, .forget 75, .forget 76, .forget 77, .forget 78, .forget 79, .forget 80, .forget 81]
  | 12, 7 => [.forget 4, .forget 9, .forget 10, .forget 39, .forget 40, .forget 41, .forget 42, .forget 43, .forget 44, .forget 45, .forget 46, .forget 47, .forget 48, .forget 49, .forget 50, .forget 51, .forget 52, .forget 53, .forget 54, .forget 55, .forget 56, .forget 57, .forget 58, .forget 59, .forget 60, .forget 61, .forget 62, .forget 63, .forget 64, .forget 65, .forget 66, .forget 67, .forget 68, .forget 69, .forget 70, .forget 71, .forget 72, .forget 73, .forget 74, .forget 75, .forget 76, .forget 77, .forget 78, .forget 79, .forget 80, .forget 81]
  | 13, 9 => [.forget 10, .forget 40, .forget 41, .forget 42, .forget 43, .forget 44, .forget 45, .forget 46, .forget 47, .forget 48, .forget 49, .forget 50, .forget 51, .forget 52, .forget 53, .forget 54, .forget 55, .forget 56, .forget 57, .forget 58, .forget 59]
  | 13, 16 => [.promote 12 1, .forget 14, .forget 71, .forget 72, .forget 73, .forget 74, .forget 75, .forget 76, .forget 77, .forget 78, .forget 79, .forget 80]
  | 13, 25 => [.promote 16 1, .forget 18, .forget 102, .forget 103, .forget 104, .forget 105, .forget 106, .forget 107, .forget 108, .forget 109, .forget 110, .forget 111, .forget 112, .forget 113]
  | 13, 31 => [.promote 16 1, .forget 20, .forget 125, .forget 126, .forget 127, .forget 128, .forget 129, .forget 130, .forget 131]
  | 20, 4 => [.forget 2, .forget 4, .forget 5, .forget 15, .forget 16, .forget 17, .forget 18, .forget 19, .forget 20, .forget 21, .forget 22, .forget 23]
  | 20, 17 => [.forget 2, .forget 6, .forget 51, .forget 52, .forget 53, .forget 54, .forget 55, .forget 56, .forget 57, .forget 58]
  | 22, 8 => [.forget 6, .forget 7, .forget 8, .forget 13, .forget 14, .forget 15, .forget 45, .forget 46, .forget 47, .forget 48, .forget 49, .forget 50, .forget 51, .forget 52, .forget 53, .forget 54, .forget 55, .forget 56, .forget 57, .forget 58, .forget 59, .forget 60, .forget 61, .forget 62, .forget 63, .forget 64, .forget 65, .forget 66, .forget 67, .forget 68, .forget 69, .forget 70]
  | 22, 18 => [.forget 6, .forget 7, .forget 8, .forget 18, .forget 19, .forget 84, .forget 85, .forget 86, .forget 87, .forget 88, .forget 89, .forget 90, .forget 91, .forget 92, .forget 93, .forget 94]
  | 24, 5 => [.forget 11, .forget 12, .forget 13, .forget 14, .forget 15, .forget 16, .forget 17, .forget 18, .forget 19, .forget 20, .forget 21, .forget 22, .forget 23]
  | 25, 3 => [.forget 6, .forget 10, .forget 11, .forget 12, .forget 13, .forget 14, .forget 15, .forget 16, .forget 17, .forget 18, .forget 19, .forget 20, .forget 21, .forget 22]
  | 26, 3 => [.promote 3 2, .forget 6, .forget 7, .forget 8, .forget 9, .forget 10, .forget 11, .forget 12, .forget 13, .forget 14, .forget 15, .forget 16, .forget 17, .forget 18]
  | 26, 7 => [.promote 3 2, .forget 19, .forget 20, .forget 21, .forget 22, .forget 23, .forget 24, .forget 25, .forget 26, .forget 27]
  | 27, 3 => [.promote 3 1, .forget 6, .forget 7, .forget 8, .forget 9, .forget 10, .forget 11, .forget 12, .forget 13, .forget 14, .forget 15, .forget 16, .forget 17, .forget 18]
  | 27, 7 => [.promote 3 1, .forget 19, .forget 20, .forget 21, .forget 22, .forget 23, .forget 24, .forget 25, .forget 26, .forget 27]
  | 28, 3 => [.promote 3 1, .forget 6, .forget 7, .forget 8, .forget 9, .forget 10, .forget 11, .forget 12, .forget 13, .forget 14, .forget 15, .forget 16, .forget 17, .forget 18]
  | 28, 7 => [.promote 3 1, .forget 19, .forget 20, .forget 21, .forget 22, .forget 23, .forget 24, .forget 25, .forget 26, .forget 27]
  | 31, 3 => [.promote 3 4, .forget 4, .forget 9, .forget 10, .forget 11, .forget 12, .forget 13, .forget 14, .forget 15, .forget 16, .forget 17]
  | 38, 5 => [.promote 5 1, .forget 2, .forget 3, .forget 4, .forget 6, .forget 7, .forget 8, .forget 15, .forget 16, .forget 17, .forget 18, .forget 19, .forget 20, .forget 21, .forget 22, .forget 23, .forget 24, .forget 25, .forget 26, .forget 27, .forget 28, .forget 29, .forget 30, .forget 31, .forget 32, .forget 33, .forget 34, .forget 35, .forget 36, .forget 37, .forget 38, .forget 39, .forget 40]
  | 39, 3 => [.forget 5, .forget 12, .forget 13, .forget 14, .forget 15, .forget 16, .forget 17, .forget 18, .forget 19, .forget 20, .forget 21, .forget 22]
  | 39, 11 => [.promote 6 1, .forget 8, .forget 28, .forget 29, .forget 30, .forget 31, .forget 32, .forget 33, .forget 34]
  | 40, 3 => [.promote 3 1, .forget 5, .forget 9, .forget 10, .forget 11, .forget 12, .forget 13, .forget 14, .forget 15]
  | 41, 3 => [.promote 3 1, .forget 5, .forget 9, .forget 10, .forget 11, .forget 12, .forget 13, .forget 14, .forget 15]
  | 42, 4 => [.promote 7 2, .forget 4, .forget 5, .forget 9, .forget 15, .forget 16, .forget 17, .forget 18, .forget 19, .forget 20, .forget 21, .forget 22, .forget 23, .forget 24, .forget 25, .forget 26, .forget 27, .forget 28, .forget 29, .forget 30, .forget 31]
  | 54, 3 => [.promoteBox 3 0 4, .promoteBox 3 1 1, .forget 4, .forget 5, .forget 6, .forget 12, .forget 13, .forget 14, .forget 15, .forget 16, .forget 17, .forget 18, .forget 19, .forget 20, .forget 21, .forget 22, .forget 23, .forget 24, .forget 25, .forget 26, .forget 27, .forget 28, .forget 29, .forget 30, .forget 31, .forget 32, .forget 33, .forget 34, .forget 35, .forget 36, .forget 37, .forget 38, .forget 39, .forget 40, .forget 41, .forget 42, .forget 43, .forget 44, .forget 45, .forget 46, .forget 47, .forget 48, .forget 49, .forget 50, .forget 51, .forget 52, .forget 53, .forget 54, .forget 55, .forget 56, .forget 57, .forget 58, .forget 59]
  | 56, 2 => [.promoteAll 0 2 1, .forget 4, .forget 5, .forget 6, .forget 7, .forget 11, .forget 12, .forget 13, .forget 14, .forget 15, .forget 16, .forget 17, .forget 18, .forget 19, .forget 20, .forget 21, .forget 22, .forget 23, .forget 24, .forget 25, .forget 26, .forget 27, .forget 28, .forget 29, .forget 30, .forget 31, .forget 32, .forget 33, .forget 34, .forget 35, .forget 36, .forget 37, .forget 38, .forget 39, .forget 40, .forget 41, .forget 42, .forget 43, .forget 44, .forget 45, .forget 46, .forget 47, .forget 48, .forget 49, .forget 50, .forget 51, .forget 52, .forget 53, .forget 54, .forget 55, .forget 56, .forget 57, .forget 58, .forget 59, .forget 60, .forget 61, .forget 62, .forget 63, .forget 64, .forget 65, .forget 66, .forget 67, .forget 68, .forget 69, .forget 70, .forget 71, .forget 72, .forget 73, .forget 74, .forget 75, .forget 76, .forget 77, .forget 78, .forget 79, .forget 80, .forget 81, .forget 82, .forget 83]
  | 59, 4 => [.promoteBox 7 0 1]
  | 71, 2 => [.promote 0 1, .forget 5, .forget 8, .forget 9, .forget 10, .forget 11, .forget 12, .forget 13, .forget 14, .forget 15, .forget 16, .forget 17, .forget 18, .forget 19]
  | 72, 2 => [.promote 0 1, .forget 5, .forget 8, .forget 9, .forget 10, .forget 11, .forget 12, .forget 13, .forget 14, .forget 15, .forget 16, .forget 17, .forget 18, .forget 19]
  | 74, 16 => [.forget 2, .forget 3, .forget 7, .forget 8, .forget 49, .forget 50, .forget 51, .forget 52, .forget 53, .forget 54, .forget 55, .forget 56, .forget 57, .forget 58, .forget 59, .forget 60, .forget 61, .forget 62]
  | 75, 3 => [.promote 3 2, .forget 5, .forget 8, .forget 9, .forget 10, .forget 11, .forget 12, .forget 13, .forget 14, .forget 15, .forget 16, .forget 17, .forget 18, .forget 19, .forget 20, .forget 21]
  | 78, 4 => [.promoteBox 5 0 2]
  | 80, 6 => [.promote 5 1, .forget 13, .forget 14, .forget 15, .forget 16, .forget 17, .forget 18, .forget 19, .forget 20, .forget 21, .forget 22, .forget 23, .forget 24, .forget 25, .forget 26]
  | 82, 3 => [.promote 5 2, .forget 7, .forget 8, .forget 9, .forget 10, .forget 11, .forget 12, .forget 13, .forget 14, .forget 15, .forget 16, .forget 17, .forget 18, .forget 19, .forget 20, .forget 21, .forget 22, .forget 23, .forget 24, .forget 25, .forget 26, .forget 27, .forget 28, .forget 29, .forget 30, .forget 31, .forget 32, .forget 33, .forget 34, .forget 35, .forget 36, .forget 37, .forget 38, .forget 39, .forget 40, .forget 41, .forget 42, .forget 43, .forget 44, .forget 45, .forget 46, .forget 47, .forget 48, .forget 49, .forget 50, .forget 51, .forget 52, .forget 53, .forget 54, .forget 55, .forget 56, .forget 57]
  | 86, 8 => [.forget 34, .forget 35, .forget 36, .forget 37, .forget 38, .forget 39, .forget 40, .forget 41, .forget 42, .forget 43, .forget 44, .forget 45, .forget 46]
  | 88, 4 => [.forget 13, .forget 14, .forget 15, .forget 17, .forget 24, .forget 25, .forget 26, .forget 27, .forget 28, .forget 29, .forget 30, .forget 31, .forget 32, .forget 33, .forget 34, .forget 35, .forget 36, .forget 37, .forget 38, .forget 39, .forget 40, .forget 41, .forget 42, .forget 43, .forget 44, .forget 45, .forget 46, .forget 47, .forget 48, .forget 49, .forget 50, .forget 51, .forget 52, .forget 53, .forget 54, .forget 55, .forget 56, .forget 57, .forget 58, .forget 59, .forget 60, .forget 61, .forget 62, .forget 63, .forget 64, .forget 65, .forget 66, .forget 67, .forget 68, .forget 69, .forget 70, .forget 71, .forget 72, .forget 73, .forget 74, .forget 75, .forget 76, .forget 77, .forget 78, .forget 79, .forget 80, .forget 81, .forget 82, .forget 83, .forget 84, .forget 85, .forget 86, .forget 87, .forget 88, .forget 89, .forget 90, .forget 91, .forget 92, .forget 93, .forget 94, .forget 95, .forget 96, .forget 97, .forget 98, .forget 99, .forget 100, .forget 101, .forget 102, .forget 103]
  | 88, 16 => [.forget 17, .forget 72, .forget 73, .forget 74, .forget 75, .forget 76, .forget 77, .forget 78, .forget 79, .forget 80, .forget 81, .forget 82, .forget 83, .forget 84, .forget 85, .forget 86, .forget 87, .forget 88, .forget 89, .forget 90, .forget 91, .forget 92, .forget 93, .forget 94, .forget 95, .forget 96, .forget 97, .forget 98, .forget 99, .forget 100, .forget 101, .forget 102, .forget 103]
  | 90, 3 => [.forget 5, .forget 6, .forget 7, .forget 8, .forget 9, .forget 10, .forget 11, .forget 12]
  | 91, 3 => [.forget 5, .forget 6, .forget 7, .forget 8, .forget 9, .forget 10, .forget 11, .forget 12]
  | 96, 2 => [.forget 2, .forget 3, .forget 4, .forget 5, .forget 6, .forget 7, .forget 8, .forget 12, .forget 13, .forget 14, .forget 15, .forget 16, .forget 17, .forget 18, .forget 19, .forget 20, .forget 21, .forget 22, .forget 23, .forget 24, .forget 25, .forget 26, .forget 27, .forget 28, .forget 29, .forget 30, .forget 31]
  | 96, 5 => [.forget 2, .forget 3, .forget 4, .forget 7, .forget 8, .forget 21, .forget 22, .forget 23, .forget 24, .forget 25, .forget 26, .forget 27, .forget 28, .forget 29, .forget 30]
  | 97, 3 => [.forget 5, .forget 12, .forget 13, .forget 14, .forget 15, .forget 16, .forget 17, .forget 18, .forget 19, .forget 20, .forget 21, .forget 22]
  | 97, 11 => [.promote 6 2, .forget 8, .forget 28, .forget 29, .forget 30, .forget 31, .forget 32, .forget 33, .forget 34]
  | 102, 3 => [.forget 4, .forget 7, .forget 8, .forget 9, .forget 10, .forget 11, .forget 12, .forget 13, .forget 14, .forget 15, .forget 16, .forget 17, .forget 18, .forget 19]
  | 104, 2 => [.forget 3, .forget 4, .forget 13, .forget 14, .forget 15, .forget 16, .forget 17, .forget 18, .forget 19, .forget 20, .forget 21, .forget 22]
  | 110, 3 => [.forget 9, .forget 13, .forget 14, .forget 15, .forget 16, .forget 17, .forget 18, .forget 19, .forget 20, .forget 21, .forget 22, .forget 23, .forget 24, .forget 25, .forget 26, .forget 27, .forget 28, .forget 29, .forget 30]
  | 113, 2 => [.forget 6, .forget 7, .forget 8, .forget 9, .forget 10, .forget 11, .forget 12, .forget 13, .forget 14, .forget 15, .forget 16, .forget 17, .forget 18, .forget 19, .forget 20, .forget 21, .forget 22, .forget 23, .forget 24, .forget 25, .forget 26, .forget 27, .forget 28, .forget 29, .forget 30, .forget 31, .forget 32, .forget 33, .forget 34, .forget 35, .forget 36, .forget 37, .forget 38, .forget 39, .forget 40]
  | 114, 8 => [.forget 38, .forget 39, .forget 40, .forget 41, .forget 42, .forget 43, .forget 44, .forget 45, .forget 46, .forget 47, .forget 48, .forget 49, .forget 50, .forget 51, .forget 52, .forget 53]
  | 117, 2 => [.forget 8, .forget 9, .forget 10, .forget 12, .forget 13, .forget 14, .forget 15, .forget 16, .forget 17, .forget 18, .forget 19, .forget 20, .forget 21, .forget 22, .forget 23, .forget 24, .forget 25, .forget 26, .forget 27, .forget 28, .forget 29, .forget 30, .forget 31, .forget 32, .forget 33, .forget 34, .forget 35, .forget 36, .forget 37, .forget 38, .forget 39, .forget 40, .forget 41, .forget 42, .forget 43, .forget 44]
  | 118, 4 => [.forget 2, .forget 4, .forget 5, .forget 10, .forget 11, .forget 12, .forget 13, .forget 14, .forget 15, .forget 16, .forget 17, .forget 18, .forget 19, .forget 20, .forget 21, .forget 22, .forget 23, .forget 24, .forget 25, .forget 26, .forget 27, .forget 28, .forget 29, .forget 30, .forget 31, .forget 32, .forget 33, .forget 34, .forget 35, .forget 36, .forget 37, .forget 38, .forget 39, .forget 40, .forget 41, .forget 42, .forget 43, .forget 44, .forget 45, .forget 46, .forget 47, .forget 48, .forget 49, .forget 50, .forget 51, .forget 52, .forget 53, .forget 54, .forget 55, .forget 56, .forget 57, .forget 58, .forget 59]
  | 118, 9 => [.forget 29, .forget 30, .forget 31, .forget 32, .forget 33, .forget 34, .forget 35, .forget 36, .forget 37, .forget 38, .forget 39, .forget 40, .forget 41, .forget 42, .forget 43, .forget 44, .forget 45, .forget 46, .forget 47, .forget 48, .forget 49, .forget 50, .forget 51, .forget 52, .forget 53]
  | 120, 0 => [.forget 4, .forget 5, .forget 6, .forget 7, .forget 8, .forget 9, .forget 10, .forget 11, .forget 12, .forget 13, .forget 14, .forget 15, .forget 16, .forget 17, .forget 18, .forget 19, .forget 20, .forget 21, .forget 22]
  | _, _ => []
noncomputable def knownT (f : Nat) : Option (List V → Heap → Option (V × Heap)) :=
  match f with
  | 50 => some (cloneWL 17592186044416 2)
  | 51 => some (cloneWL 35184372088832 1)
  | 52 => some (cloneWL 140737488355328 1)
  | 53 => some (cloneWL 5864062014805 2)
  | 93 => some (cloneWL 140737488355328 1)
  | _ => none
noncomputable def E : Env := { P := Tryz.prog, mode := modeT, hint := hintT, known := knownT, eqTypes := [54], fns := fun f => Nat.blt f 148 }
@[simp] theorem E_P : E.P = Tryz.prog := rfl
/-! 2: gosem.cut.init -/
attribute [simp] Tryz.results2
theorem pu_2 {lent : Bool} {args : List V} {r : V} (hr : evK E (om E) 2 [] (Tryz.f2.body.getD .skip) (endK Tryz.prog Tryz.f2.results.toList (pureFin lent)) (args ++ pois (1 - args.length)) [[]] = some r) : pureV E (om E) 2 lent args = some r := pureV_of (dyn := []) rfl (by rw [E_P]; exact Tryz.func2) (by unfold Tryz.f2; rfl) (by kernel_rfl) (by rw [Tryz.ntmps2]; exact hr)
@[simp] theorem call_2 (args : List V) (h : Heap) : callV E (om E) 2 args h = (viewArgs h args).bind fun a => (pureV E (om E) 2 (!V.flatL args) a).map fun r => (r, h) := callV_pure rfl rfl args h

/-! 3: playpen/playpenlaw15.VerifySound -/
attribute [simp] Tryz.results3
theorem pu_3 {lent : Bool} {args : List V} {r : V} (hr : evK E (om E) 3 [] (Tryz.f3.body.getD .skip) (endK Tryz.prog Tryz.f3.results.toList (pureFin lent)) (args ++ pois (94 - args.length)) [[]] = some r) : pureV E (om E) 3 lent args = some r := pureV_of (dyn := []) rfl (by rw [E_P]; exact Tryz.func3) (by unfold Tryz.f3; rfl) (by kernel_rfl) (by rw [Tryz.ntmps3]; exact hr)
@[simp] theorem call_3 (args : List V) (h : Heap) : callV E (om E) 3 args h = (viewArgs h args).bind fun a => (pureV E (om E) 3 (!V.flatL args) a).map fun r => (r, h) := callV_pure rfl rfl args h
@[simp] theorem hint_3_0 : E.hint 3 7 = [.forget 2, .forget 23, .forget 24, .forget 25, .forget 26, .forget 27, .forget 28, .forget 29, .forget 30, .forget 31, .forget 32, .forget 33, .forget 34, .forget 35, .forget 36, .forget 37, .forget 38, .forget 39, .forget 40, .forget 41, .forget 42, .forget 43, .forget 44, .forget 45, .forget 46, .forget 47, .forget 48, .forget 49, .forget 50, .forget 51, .forget 52, .forget 53, .forget 54, .forget 55, .forget 56, .forget 57, .forget 58, .forget 59, .forget 60, .forget 61, .forget 62, .forget 63, .forget 64, .forget 65, .forget 66] := rfl
@[simp] theorem hint_3_1 : E.hint 3 15 = [.forget 2, .forget 78, .forget 79, .forget 80, .forget 81, .forget 82, .forget 83, .forget 84, .forget 85, .forget 86, .forget 87] := rfl

/-! 4: playpen/playpenlaw15.VerifyAgain -/
attribute [simp] Tryz.results4
theorem pu_4 {lent : Bool} {args : List V} {r : V} (hr : evK E (om E) 4 [] (Tryz.f4.body.getD .skip) (endK Tryz.prog Tryz.f4.results.toList (pureFin lent)) (args ++ pois (228 - args.length)) [[]] = some r) : pureV E (om E) 4 lent args = some r := pureV_of (dyn := []) rfl (by rw [E_P]; exact Tryz.func4) (by unfold Tryz.f4; rfl) (by kernel_rfl) (by rw [Tryz.ntmps4]; exact hr)
@[simp] theorem call_4 (args : List V) (h : Heap) : callV E (om E) 4 args h = (viewArgs h args).bind fun a => (pureV E (om E) 4 (!V.flatL args) a).map fun r => (r, h) := callV_pure rfl rfl args h
@[simp] theorem hint_4_0 : E.hint 4 15 = [.forget 2, .forget 18, .forget 19, .forget 20, .forget 21, .forget 22, .forget 23, .forget 24, .forget 157, .forget 158, .forget 159, .forget 160, .forget 161, .forget 162, .forget 163, .forget 164, .forget 165, .forget 166, .forget 167, .forget 168, .forget 169, .forget 170, .forget 171, .forget 172, .forget 173, .forget 174, .forget 175, .forget 176, .forget 177, .forget 178, .forget 179, .forget 180, .forget 181, .forget 182, .forget 183, .forget 184, .forget 185, .forget 186, .forget 187, .forget 188, .forget 189, .forget 190, .forget 191, .forget 192, .forget 193, .forget 194, .forget 195, .forget 196, .forget 197, .forget 198, .forget 199, .forget 200, .forget 201, .forget 202, .forget 203, .forget 204, .forget 205, .forget 206, .forget 207, .forget 208, .forget 209, .forget 210, .forget 211, .forget 212, .forget 213, .forget 214, .forget 215, .forget 216, .forget 217, .forget 218, .forget 219, .forget 220, .forget 221, .forget 222, .forget 223, .forget 224, .forget 225, .forget 226] := rfl

/-! 5: playpen/verify.Take -/
attribute [simp] Tryz.results5
theorem pu_5 {lent : Bool} {args : List V} {r : V} (hr : evK E (om E) 5 [] (Tryz.f5.body.getD .skip) (endK Tryz.prog Tryz.f5.results.toList (pureFin lent)) (args ++ pois (87 - args.length)) [[]] = some r) : pureV E (om E) 5 lent args = some r := pureV_of (dyn := []) rfl (by rw [E_P]; exact Tryz.func5) (by unfold Tryz.f5; rfl) (by kernel_rfl) (by rw [Tryz.ntmps5]; exact hr)
@[simp] theorem call_5 (args : List V) (h : Heap) : callV E (om E) 5 args h = (viewArgs h args).bind fun a => (pureV E (om E) 5 (!V.flatL args) a).map fun r => (r, h) := callV_pure rfl rfl args h

/-! 6: playpen/playpenlaw15.lend -/
attribute [simp] Tryz.results6
theorem pu_6 {lent : Bool} {args : List V} {r : V} (hr : evK E (om E) 6 [] (Tryz.f6.body.getD .skip) (endK Tryz.prog Tryz.f6.results.toList (pureFin lent)) (args ++ pois (82 - args.length)) [[]] = some r) : pureV E (om E) 6 lent args = some r := pureV_of (dyn := []) rfl (by rw [E_P]; exact Tryz.func6) (by unfold Tryz.f6; rfl) (by kernel_rfl) (by rw [Tryz.ntmps6]; exact hr)
@[simp] theorem call_6 (args : List V) (h : Heap) : callV E (om E) 6 args h = (viewArgs h args).bind fun a => (pureV E (om E) 6 (!V.flatL args) a).map fun r => (r, h) := callV_pure rfl rfl args h
@[simp] theorem hint_6_0 : E.hint 6 6 = [.promoteBox 3 9 2, .forget 18, .forget 19, .forget 20, .forget 21, .forget 22, .forget 23, .forget 24, .forget 25, .forget 26, .forget 27, .forget 28, .forget 29, .forget 30, .forget 31, .forget 32, .forget 33, .forget 34] := rfl
@[simp] theorem hint_6_1 : E.hint 6 10 = [.promoteBox 3 9 2, .forget 35, .forget 36, .forget 37, .forget 38, .forget 39, .forget 40, .forget 41, .forget 42, .forget 43, .forget 44, .forget 45, .forget 46] := rfl

/-! 7: playpen/playpenlaw15.awake -/
attribute [simp] Tryz.results7
theorem pu_7 {lent : Bool} {args : List V} {r : V} (hr : evK E (om E) 7 [] (Tryz.f7.body.getD .skip) (endK Tryz.prog Tryz.f7.results.toList (pureFin lent)) (args ++ pois (53 - args.length)) [[]] = some r) : pureV E (om E) 7 lent args = some r := pureV_of (dyn := []) rfl (by rw [E_P]; exact Tryz.func7) (by unfold Tryz.f7; rfl) (by kernel_rfl) (by rw [Tryz.ntmps7]; exact hr)
@[simp] theorem call_7 (args : List V) (h : Heap) : callV E (om E) 7 args h = (viewArgs h args).bind fun a => (pureV E (om E) 7 (!V.flatL args) a).map fun r => (r, h) := callV_pure rfl rfl args h

/-! 8: (*playpen/verify.Module).Procs -/
attribute [simp] Tryz.results8
theorem pu_8 {lent : Bool} {args : List V} {r : V} (hr : evK E (om E) 8 [] (Tryz.f8.body.getD .skip) (endK Tryz.prog Tryz.f8.results.toList (pureFin lent)) (args ++ pois (9 - args.length)) [[]] = some r) : pureV E (om E) 8 lent args = some r := pureV_of (dyn := []) rfl (by rw [E_P]; exact Tryz.func8) (by unfold Tryz.f8; rfl) (by kernel_rfl) (by rw [Tryz.ntmps8]; exact hr)
@[simp] theorem call_8 (args : List V) (h : Heap) : callV E (om E) 8 args h = (viewArgs h args).bind fun a => (pureV E (om E) 8 (!V.flatL args) a).map fun r => (r, h) := callV_pure rfl rfl args h

/-! 9: (*playpen/verify.Module).Depth -/
attribute [simp] Tryz.results9
theorem pu_9 {lent : Bool} {args : List V} {r : V} (hr : evK E (om E) 9 [] (Tryz.f9.body.getD .skip) (endK Tryz.prog Tryz.f9.results.toList (pureFin lent)) (args ++ pois (12 - args.length)) [[]] = some r) : pureV E (om E) 9 lent args = some r := pureV_of (dyn := []) rfl (by rw [E_P]; exact Tryz.func9) (by unfold Tryz.f9; rfl) (by kernel_rfl) (by rw [Tryz.ntmps9]; exact hr)
@[simp] theorem call_9 (args : List V) (h : Heap) : callV E (om E) 9 args h = (viewArgs h args).bind fun a => (pureV E (om E) 9 (!V.flatL args) a).map fun r => (r, h) := callV_pure rfl rfl args h

/-! 10: (*playpen/verify.Module).Count -/
attribute [simp] Tryz.results10
theorem pu_10 {lent : Bool} {args : List V} {r : V} (hr : evK E (om E) 10 [] (Tryz.f10.body.getD .skip) (endK Tryz.prog Tryz.f10.results.toList (pureFin lent)) (args ++ pois (10 - args.length)) [[]] = some r) : pureV E (om E) 10 lent args = some r := pureV_of (dyn := []) rfl (by rw [E_P]; exact Tryz.func10) (by unfold Tryz.f10; rfl) (by kernel_rfl) (by rw [Tryz.ntmps10]; exact hr)
@[simp] theorem call_10 (args : List V) (h : Heap) : callV E (om E) 10 args h = (viewArgs h args).bind fun a => (pureV E (om E) 10 (!V.flatL args) a).map fun r => (r, h) := callV_pure rfl rfl args h

/-! 11: playpen/playpenlaw15.sound -/
attribute [simp] Tryz.results11
theorem pu_11 {lent : Bool} {args : List V} {r : V} (hr : evK E (om E) 11 [] (Tryz.f11.body.getD .skip) (endK Tryz.prog Tryz.f11.results.toList (pureFin lent)) (args ++ pois (236 - args.length)) [[]] = some r) : pureV E (om E) 11 lent args = some r := pureV_of (dyn := []) rfl (by rw [E_P]; exact Tryz.func11) (by unfold Tryz.f11; rfl) (by kernel_rfl) (by rw [Tryz.ntmps11]; exact hr)
@[simp] theorem call_11 (args : List V) (h : Heap) : callV E (om E) 11 args h = (viewArgs h args).bind fun a => (pureV E (om E) 11 (!V.flatL args) a).map fun r => (r, h) := callV_pure rfl rfl args h

/-! 12: playpen/playpenlaw15.jumps -/
attribute [simp] Tryz.results12
theorem pu_12 {lent : Bool} {args : List V} {r : V} (hr : evK E (om E) 12 [] (Tryz.f12.body.getD .skip) (endK Tryz.prog Tryz.f12.results.toList (pureFin lent)) (args ++ pois (82 - args.length)) [[]] = some r) : pureV E (om E) 12 lent args = some r := pureV_of (dyn := []) rfl (by rw [E_P]; exact Tryz.func12) (by unfold Tryz.f12; rfl) (by kernel_rfl) (by rw [Tryz.ntmps12]; exact hr)
@[simp] theorem call_12 (args : List V) (h : Heap) : callV E (om E) 12 args h = (viewArgs h args).bind fun a => (pureV E (om E) 12 (!V.flatL args) a).map fun r => (r, h) := callV_pure rfl rfl args h
@[simp] theorem hint_12_0 : E.hint 12 2 = [.forget 4, .forget 6, .forget 7, .forget 8, .forget 9, .forget 10, .forget 11, .forget 12, .forget 13, .forget 14, .forget 15, .forget 16, .forget 17, .forget 18, .forget 19, .forget 20, .forget 21, .forget 22, .forget 23, .forget 24, .forget 25, .forget 26, .forget 27, .forget 28, .forget 29, .forget 30, .forget 31, .forget 32, .forget 33, .forget 34, .forget 35, .forget 36, .forget 37, .forget 38, .forget 39, .forget 40, .forget 41, .forget 42, .forget 43, .forget 44, .forget 45, .forget 46, .forget 47, .forget 48, .forget 49, .forget 50, .forget 51, .forget 52, .forget 53, .forget 54, .forget 55, .forget 56, .forget 57, .forget 58, .forget 59, .forget 60, .forget 61, .forget 62, .forget 63, .forget 64, .forget 65, .forget 66, .forget 67, .forget 68, .forget 69, .forget 70, .forget 71, .forget 72, .forget 73, .forget 74, .forget 75, .forget 76, .forget 77, .forget 78, .forget 79, .forget 80, .forget 81] := rfl
@[simp] theorem hint_12_1 : E.hint 12 7 = [.forget 4, .forget 9, .forget 10, .forget 39, .forget 40, .forget 41, .forget 42, .forget 43, .forget 44, .forget 45, .forget 46, .forget 47, .forget 48, .forget 49, .forget 50, .forget 51, .forget 52, .forget 53, .forget 54, .forget 55, .forget 56, .forget 57, .forget 58, .forget 59, .forget 60, .forget 61, .forget 62, .forget 63, .forget 64, .forget 65, .forget 66, .forget 67, .forget 68, .forget 69, .forget 70, .forget 71, .forget 72, .forget 73, .forget 74, .forget 75, .forget 76, .forget 77, .forget 78, .forget 79, .forget 80, .forget 81] := rfl

/-! 13: playpen/image.Encode -/
attribute [simp] Tryz.results13
theorem pu_13 {lent : Bool} {args : List V} {r : V} (hr : evK E (om E) 13 [] (Tryz.f13.body.getD .skip) (endK Tryz.prog Tryz.f13.results.toList (pureFin lent)) (args ++ pois (134 - args.length)) [[]] = some r) : pureV E (om E) 13 lent args = some r := pureV_of (dyn := []) rfl (by rw [E_P]; exact Tryz.func13) (by unfold Tryz.f13; rfl) (by kernel_rfl) (by rw [Tryz.ntmps13]; exact hr)
@[simp] theorem call_13 (args : List V) (h : Heap) : callV E (om E) 13 args h = (viewArgs h args).bind fun a => (pureV E (om E) 13 (!V.flatL args) a).map fun r => (r, h) := callV_pure rfl rfl args h
@[simp] theorem hint_13_0 : E.hint 13 9 = [.forget 10, .forget 40, .forget 41, .forget 42, .forget 43, .forget 44, .forget 45, .forget 46, .forget 47, .forget 48, .forget 49, .forget 50, .forget 51, .forget 52, .forget 53, .forget 54, .forget 55, .forget 56, .forget 57, .forget 58, .forget 59] := rfl
@[simp] theorem hint_13_1 : E.hint 13 16 = [.promote 12 1, .forget 14, .forget 71, .forget 72, .forget 73, .forget 74, .forget 75, .forget 76, .forget 77, .forget 78, .forget 79, .forget 80] := rfl
@[simp] theorem hint_13_2 : E.hint 13 25 = [.promote 16 1, .forget 18, .forget 102, .forget 103, .forget 104, .forget 105, .forget 106, .forget 107, .forget 108, .forget 109, .forget 110, .forget 111, .forget 112, .forget 113] := rfl
@[simp] theorem hint_13_3 : E.hint 13 31 = [.promote 16 1, .forget 20, .forget 125, .forget 126, .forget 127, .forget 128, .forget 129, .forget 130, .forget 131] := rfl

/-! 14: playpen/verify.Load -/
attribute [simp] Tryz.results14
theorem pu_14 {lent : Bool} {args : List V} {r : V} (hr : evK E (om E) 14 [] (Tryz.f14.body.getD .skip) (endK Tryz.prog Tryz.f14.results.toList (pureFin lent)) (args ++ pois (23 - args.length)) [[]] = some r) : pureV E (om E) 14 lent args = some r := pureV_of (dyn := []) rfl (by rw [E_P]; exact Tryz.func14) (by unfold Tryz.f14; rfl) (by kernel_rfl) (by rw [Tryz.ntmps14]; exact hr)
@[simp] theorem call_14 (args : List V) (h : Heap) : callV E (om E) 14 args h = (viewArgs h args).bind fun a => (pureV E (om E) 14 (!V.flatL args) a).map fun r => (r, h) := callV_pure rfl rfl args h

/-! 15: (*playpen/verify.Module).Image -/
attribute [simp] Tryz.results15
theorem pu_15 {lent : Bool} {args : List V} {r : V} (hr : evK E (om E) 15 [] (Tryz.f15.body.getD .skip) (endK Tryz.prog Tryz.f15.results.toList (pureFin lent)) (args ++ pois (9 - args.length)) [[]] = some r) : pureV E (om E) 15 lent args = some r := pureV_of (dyn := []) rfl (by rw [E_P]; exact Tryz.func15) (by unfold Tryz.f15; rfl) (by kernel_rfl) (by rw [Tryz.ntmps15]; exact hr)
@[simp] theorem call_15 (args : List V) (h : Heap) : callV E (om E) 15 args h = (viewArgs h args).bind fun a => (pureV E (om E) 15 (!V.flatL args) a).map fun r => (r, h) := callV_pure rfl rfl args h

/-! 16: (*playpen/verify.Module).Digest -/
attribute [simp] Tryz.results16
theorem pu_16 {lent : Bool} {args : List V} {r : V} (hr : evK E (om E) 16 [] (Tryz.f16.body.getD .skip) (endK Tryz.prog Tryz.f16.results.toList (pureFin lent)) (args ++ pois (8 - args.length)) [[]] = some r) : pureV E (om E) 16 lent args = some r := pureV_of (dyn := []) rfl (by rw [E_P]; exact Tryz.func16) (by unfold Tryz.f16; rfl) (by kernel_rfl) (by rw [Tryz.ntmps16]; exact hr)
@[simp] theorem call_16 (args : List V) (h : Heap) : callV E (om E) 16 args h = (viewArgs h args).bind fun a => (pureV E (om E) 16 (!V.flatL args) a).map fun r => (r, h) := callV_pure rfl rfl args h

/-! 17: (*playpen/verify.Module).Bits -/
attribute [simp] Tryz.results17
theorem pu_17 {lent : Bool} {args : List V} {r : V} (hr : evK E (om E) 17 [] (Tryz.f17.body.getD .skip) (endK Tryz.prog Tryz.f17.results.toList (pureFin lent)) (args ++ pois (8 - args.length)) [[]] = some r) : pureV E (om E) 17 lent args = some r := pureV_of (dyn := []) rfl (by rw [E_P]; exact Tryz.func17) (by unfold Tryz.f17; rfl) (by kernel_rfl) (by rw [Tryz.ntmps17]; exact hr)
@[simp] theorem call_17 (args : List V) (h : Heap) : callV E (om E) 17 args h = (viewArgs h args).bind fun a => (pureV E (om E) 17 (!V.flatL args) a).map fun r => (r, h) := callV_pure rfl rfl args h

/-! 18: (*playpen/verify.Module).At -/
attribute [simp] Tryz.results18
theorem pu_18 {lent : Bool} {args : List V} {r : V} (hr : evK E (om E) 18 [] (Tryz.f18.body.getD .skip) (endK Tryz.prog Tryz.f18.results.toList (pureFin lent)) (args ++ pois (24 - args.length)) [[]] = some r) : pureV E (om E) 18 lent args = some r := pureV_of (dyn := []) rfl (by rw [E_P]; exact Tryz.func18) (by unfold Tryz.f18; rfl) (by kernel_rfl) (by rw [Tryz.ntmps18]; exact hr)
@[simp] theorem call_18 (args : List V) (h : Heap) : callV E (om E) 18 args h = (viewArgs h args).bind fun a => (pureV E (om E) 18 (!V.flatL args) a).map fun r => (r, h) := callV_pure rfl rfl args h

/-! 19: (*playpen/verify.Module).Back -/
attribute [simp] Tryz.results19
theorem pu_19 {lent : Bool} {args : List V} {r : V} (hr : evK E (om E) 19 [] (Tryz.f19.body.getD .skip) (endK Tryz.prog Tryz.f19.results.toList (pureFin lent)) (args ++ pois (12 - args.length)) [[]] = some r) : pureV E (om E) 19 lent args = some r := pureV_of (dyn := []) rfl (by rw [E_P]; exact Tryz.func19) (by unfold Tryz.f19; rfl) (by kernel_rfl) (by rw [Tryz.ntmps19]; exact hr)
@[simp] theorem call_19 (args : List V) (h : Heap) : callV E (om E) 19 args h = (viewArgs h args).bind fun a => (pureV E (om E) 19 (!V.flatL args) a).map fun r => (r, h) := callV_pure rfl rfl args h

/-! 20: playpen/image.Check -/
attribute [simp] Tryz.results20
theorem pu_20 {lent : Bool} {args : List V} {r : V} (hr : evK E (om E) 20 [] (Tryz.f20.body.getD .skip) (endK Tryz.prog Tryz.f20.results.toList (pureFin lent)) (args ++ pois (59 - args.length)) [[]] = some r) : pureV E (om E) 20 lent args = some r := pureV_of (dyn := []) rfl (by rw [E_P]; exact Tryz.func20) (by unfold Tryz.f20; rfl) (by kernel_rfl) (by rw [Tryz.ntmps20]; exact hr)
@[simp] theorem call_20 (args : List V) (h : Heap) : callV E (om E) 20 args h = (viewArgs h args).bind fun a => (pureV E (om E) 20 (!V.flatL args) a).map fun r => (r, h) := callV_pure rfl rfl args h
@[simp] theorem hint_20_0 : E.hint 20 4 = [.forget 2, .forget 4, .forget 5, .forget 15, .forget 16, .forget 17, .forget 18, .forget 19, .forget 20, .forget 21, .forget 22, .forget 23] := rfl
@[simp] theorem hint_20_1 : E.hint 20 17 = [.forget 2, .forget 6, .forget 51, .forget 52, .forget 53, .forget 54, .forget 55, .forget 56, .forget 57, .forget 58] := rfl

/-! 21: playpen/verify.copied -/
attribute [simp] Tryz.results21
theorem pu_21 {lent : Bool} {args : List V} {r : V} (hr : evK E (om E) 21 [] (Tryz.f21.body.getD .skip) (endK Tryz.prog Tryz.f21.results.toList (pureFin lent)) (args ++ pois (20 - args.length)) [[]] = some r) : pureV E (om E) 21 lent args = some r := pureV_of (dyn := []) rfl (by rw [E_P]; exact Tryz.func21) (by unfold Tryz.f21; rfl) (by kernel_rfl) (by rw [Tryz.ntmps21]; exact hr)
@[simp] theorem call_21 (args : List V) (h : Heap) : callV E (om E) 21 args h = (viewArgs h args).bind fun a => (pureV E (om E) 21 (!V.flatL args) a).map fun r => (r, h) := callV_pure rfl rfl args h

/-! 22: playpen/procs.Find -/
attribute [simp] Tryz.results22
theorem pu_22 {lent : Bool} {args : List V} {r : V} (hr : evK E (om E) 22 [] (Tryz.f22.body.getD .skip) (endK Tryz.prog Tryz.f22.results.toList (pureFin lent)) (args ++ pois (96 - args.length)) [[]] = some r) : pureV E (om E) 22 lent args = some r := pureV_of (dyn := []) rfl (by rw [E_P]; exact Tryz.func22) (by unfold Tryz.f22; rfl) (by kernel_rfl) (by rw [Tryz.ntmps22]; exact hr)
@[simp] theorem call_22 (args : List V) (h : Heap) : callV E (om E) 22 args h = (viewArgs h args).bind fun a => (pureV E (om E) 22 (!V.flatL args) a).map fun r => (r, h) := callV_pure rfl rfl args h
@[simp] theorem hint_22_0 : E.hint 22 8 = [.forget 6, .forget 7, .forget 8, .forget 13, .forget 14, .forget 15, .forget 45, .forget 46, .forget 47, .forget 48, .forget 49, .forget 50, .forget 51, .forget 52, .forget 53, .forget 54, .forget 55, .forget 56, .forget 57, .forget 58, .forget 59, .forget 60, .forget 61, .forget 62, .forget 63, .forget 64, .forget 65, .forget 66, .forget 67, .forget 68, .forget 69, .forget 70] := rfl
@[simp] theorem hint_22_1 : E.hint 22 18 = [.forget 6, .forget 7, .forget 8, .forget 18, .forget 19, .forget 84, .forget 85, .forget 86, .forget 87, .forget 88, .forget 89, .forget 90, .forget 91, .forget 92, .forget 93, .forget 94] := rfl

/-! 23: playpen/flow.Depths -/
attribute [simp] Tryz.results23
theorem bo_23 {args : List V} {h : Heap} {r : V × Heap} (hr : evK E (om E) 23 [] (Tryz.f23.body.getD .skip) (endK Tryz.prog Tryz.f23.results.toList bodyFin) (args ++ pois (28 - args.length)) h = some r) : bodyV E (om E) 23 args h = some r := bodyV_of (dyn := []) rfl (by rw [E_P]; exact Tryz.func23) (by unfold Tryz.f23; rfl) (by kernel_rfl) (by rw [Tryz.ntmps23]; exact hr)
theorem call_23 (args : List V) (h : Heap) : callV E (om E) 23 args h = (viewArgs h args).bind fun args' => (bodyV E (om E) 23 args' [[]]).bind fun x => if !V.flatL args && !V.own x.2 x.1 then none else some (V.out h.top.length x.1, h.setTop (h.top ++ x.2.top.map (outBlk h.top.length))) := callV_own rfl rfl args h

/-! 24: playpen/image.Bits -/
attribute [simp] Tryz.results24
theorem pu_24 {lent : Bool} {args : List V} {r : V} (hr : evK E (om E) 24 [] (Tryz.f24.body.getD .skip) (endK Tryz.prog Tryz.f24.results.toList (pureFin lent)) (args ++ pois (25 - args.length)) [[]] = some r) : pureV E (om E) 24 lent args = some r := pureV_of (dyn := []) rfl (by rw [E_P]; exact Tryz.func24) (by unfold Tryz.f24; rfl) (by kernel_rfl) (by rw [Tryz.ntmps24]; exact hr)
@[simp] theorem call_24 (args : List V) (h : Heap) : callV E (om E) 24 args h = (viewArgs h args).bind fun a => (pureV E (om E) 24 (!V.flatL args) a).map fun r => (r, h) := callV_pure rfl rfl args h
@[simp] theorem hint_24_0 : E.hint 24 5 = [.forget 11, .forget 12, .forget 13, .forget 14, .forget 15, .forget 16, .forget 17, .forget 18, .forget 19, .forget 20, .forget 21, .forget 22, .forget 23] := rfl

/-! 25: playpen/little.Sum -/
attribute [simp] Tryz.results25
theorem pu_25 {lent : Bool} {args : List V} {r : V} (hr : evK E (om E) 25 [] (Tryz.f25.body.getD .skip) (endK Tryz.prog Tryz.f25.results.toList (pureFin lent)) (args ++ pois (27 - args.length)) [[]] = some r) : pureV E (om E) 25 lent args = some r := pureV_of (dyn := []) rfl (by rw [E_P]; exact Tryz.func25) (by unfold Tryz.f25; rfl) (by kernel_rfl) (by rw [Tryz.ntmps25]; exact hr)
@[simp] theorem call_25 (args : List V) (h : Heap) : callV E (om E) 25 args h = (viewArgs h args).bind fun a => (pureV E (om E) 25 (!V.flatL args) a).map fun r => (r, h) := callV_pure rfl rfl args h
@[simp] theorem hint_25_0 : E.hint 25 3 = [.forget 6, .forget 10, .forget 11, .forget 12, .forget 13, .forget 14, .forget 15, .forget 16, .forget 17, .forget 18, .forget 19, .forget 20, .forget 21, .forget 22] := rfl

/-! 26: playpen/playpenkit.LentCode -/
attribute [simp] Tryz.results26
theorem pu_26 {lent : Bool} {args : List V} {r : V} (hr : evK E (om E) 26 [] (Tryz.f26.body.getD .skip) (endK Tryz.prog Tryz.f26.results.toList (pureFin lent)) (args ++ pois (29 - args.length)) [[]] = some r) : pureV E (om E) 26 lent args = some r := pureV_of (dyn := []) rfl (by rw [E_P]; exact Tryz.func26) (by unfold Tryz.f26; rfl) (by kernel_rfl) (by rw [Tryz.ntmps26]; exact hr)
@[simp] theorem call_26 (args : List V) (h : Heap) : callV E (om E) 26 args h = (viewArgs h args).bind fun a => (pureV E (om E) 26 (!V.flatL args) a).map fun r => (r, h) := callV_pure rfl rfl args h
@[simp] theorem hint_26_0 : E.hint 26 3 = [.promote 3 2, .forget 6, .forget 7, .forget 8, .forget 9, .forget 10, .forget 11, .forget 12, .forget 13, .forget 14, .forget 15, .forget 16, .forget 17, .forget 18] := rfl
@[simp] theorem hint_26_1 : E.hint 26 7 = [.promote 3 2, .forget 19, .forget 20, .forget 21, .forget 22, .forget 23, .forget 24, .forget 25, .forget 26, .forget 27] := rfl

/-! 27: playpen/playpenkit.LentWords -/
attribute [simp] Tryz.results27
theorem pu_27 {lent : Bool} {args : List V} {r : V} (hr : evK E (om E) 27 [] (Tryz.f27.body.getD .skip) (endK Tryz.prog Tryz.f27.results.toList (pureFin lent)) (args ++ pois (29 - args.length)) [[]] = some r) : pureV E (om E) 27 lent args = some r := pureV_of (dyn := []) rfl (by rw [E_P]; exact Tryz.func27) (by unfold Tryz.f27; rfl) (by kernel_rfl) (by rw [Tryz.ntmps27]; exact hr)
@[simp] theorem call_27 (args : List V) (h : Heap) : callV E (om E) 27 args h = (viewArgs h args).bind fun a => (pureV E (om E) 27 (!V.flatL args) a).map fun r => (r, h) := callV_pure rfl rfl args h
@[simp] theorem hint_27_0 : E.hint 27 3 = [.promote 3 1, .forget 6, .forget 7, .forget 8, .forget 9, .forget 10, .forget 11, .forget 12, .forget 13, .forget 14, .forget 15, .forget 16, .forget 17, .forget 18] := rfl
@[simp] theorem hint_27_1 : E.hint 27 7 = [.promote 3 1, .forget 19, .forget 20, .forget 21, .forget 22, .forget 23, .forget 24, .forget 25, .forget 26, .forget 27] := rfl

/-! 28: playpen/playpenkit.LentBytes -/
attribute [simp] Tryz.results28
theorem pu_28 {lent : Bool} {args : List V} {r : V} (hr : evK E (om E) 28 [] (Tryz.f28.body.getD .skip) (endK Tryz.prog Tryz.f28.results.toList (pureFin lent)) (args ++ pois (29 - args.length)) [[]] = some r) : pureV E (om E) 28 lent args = some r := pureV_of (dyn := []) rfl (by rw [E_P]; exact Tryz.func28) (by unfold Tryz.f28; rfl) (by kernel_rfl) (by rw [Tryz.ntmps28]; exact hr)
@[simp] theorem call_28 (args : List V) (h : Heap) : callV E (om E) 28 args h = (viewArgs h args).bind fun a => (pureV E (om E) 28 (!V.flatL args) a).map fun r => (r, h) := callV_pure rfl rfl args h
@[simp] theorem hint_28_0 : E.hint 28 3 = [.promote 3 1, .forget 6, .forget 7, .forget 8, .forget 9, .forget 10, .forget 11, .forget 12, .forget 13, .forget 14, .forget 15, .forget 16, .forget 17, .forget 18] := rfl
@[simp] theorem hint_28_1 : E.hint 28 7 = [.promote 3 1, .forget 19, .forget 20, .forget 21, .forget 22, .forget 23, .forget 24, .forget 25, .forget 26, .forget 27] := rfl

/-! 29: playpen/playpenlaw15.sample -/
attribute [simp] Tryz.results29
theorem bo_29 {args : List V} {h : Heap} {r : V × Heap} (hr : evK E (om E) 29 [] (Tryz.f29.body.getD .skip) (endK Tryz.prog Tryz.f29.results.toList bodyFin) (args ++ pois (14 - args.length)) h = some r) : bodyV E (om E) 29 args h = some r := bodyV_of (dyn := []) rfl (by rw [E_P]; exact Tryz.func29) (by unfold Tryz.f29; rfl) (by kernel_rfl) (by rw [Tryz.ntmps29]; exact hr)
theorem call_29 (args : List V) (h : Heap) : callV E (om E) 29 args h = (viewArgs h args).bind fun args' => (bodyV E (om E) 29 args' [[]]).bind fun x => if !V.flatL args && !V.own x.2 x.1 then none else some (V.out h.top.length x.1, h.setTop (h.top ++ x.2.top.map (outBlk h.top.length))) := callV_own rfl rfl args h

/-! 30: (*playpen/verify.Module).all -/
attribute [simp] Tryz.results30
theorem pu_30 {lent : Bool} {args : List V} {r : V} (hr : evK E (om E) 30 [] (Tryz.f30.body.getD .skip) (endK Tryz.prog Tryz.f30.results.toList (pureFin lent)) (args ++ pois (18 - args.length)) [[]] = some r) : pureV E (om E) 30 lent args = some r := pureV_of (dyn := []) rfl (by rw [E_P]; exact Tryz.func30) (by unfold Tryz.f30; rfl) (by kernel_rfl) (by rw [Tryz.ntmps30]; exact hr)
@[simp] theorem call_30 (args : List V) (h : Heap) : callV E (om E) 30 args h = (viewArgs h args).bind fun a => (pureV E (om E) 30 (!V.flatL args) a).map fun r => (r, h) := callV_pure rfl rfl args h

/-! 31: (playpen/verify.where).Procs -/
attribute [simp] Tryz.results31
theorem pu_31 {lent : Bool} {args : List V} {r : V} (hr : evK E (om E) 31 [] (Tryz.f31.body.getD .skip) (endK Tryz.prog Tryz.f31.results.toList (pureFin lent)) (args ++ pois (19 - args.length)) [[]] = some r) : pureV E (om E) 31 lent args = some r := pureV_of (dyn := []) rfl (by rw [E_P]; exact Tryz.func31) (by unfold Tryz.f31; rfl) (by kernel_rfl) (by rw [Tryz.ntmps31]; exact hr)
@[simp] theorem call_31 (args : List V) (h : Heap) : callV E (om E) 31 args h = (viewArgs h args).bind fun a => (pureV E (om E) 31 (!V.flatL args) a).map fun r => (r, h) := callV_pure rfl rfl args h
@[simp] theorem hint_31_0 : E.hint 31 3 = [.promote 3 4, .forget 4, .forget 9, .forget 10, .forget 11, .forget 12, .forget 13, .forget 14, .forget 15, .forget 16, .forget 17] := rfl

/-! 32: (playpen/verify.deep).Depth -/
attribute [simp] Tryz.results32
theorem pu_32 {lent : Bool} {args : List V} {r : V} (hr : evK E (om E) 32 [] (Tryz.f32.body.getD .skip) (endK Tryz.prog Tryz.f32.results.toList (pureFin lent)) (args ++ pois (17 - args.length)) [[]] = some r) : pureV E (om E) 32 lent args = some r := pureV_of (dyn := []) rfl (by rw [E_P]; exact Tryz.func32) (by unfold Tryz.f32; rfl) (by kernel_rfl) (by rw [Tryz.ntmps32]; exact hr)
@[simp] theorem call_32 (args : List V) (h : Heap) : callV E (om E) 32 args h = (viewArgs h args).bind fun a => (pureV E (om E) 32 (!V.flatL args) a).map fun r => (r, h) := callV_pure rfl rfl args h

/-! 33: (*playpen/verify.Module).ProcOf -/
attribute [simp] Tryz.results33
theorem pu_33 {lent : Bool} {args : List V} {r : V} (hr : evK E (om E) 33 [] (Tryz.f33.body.getD .skip) (endK Tryz.prog Tryz.f33.results.toList (pureFin lent)) (args ++ pois (15 - args.length)) [[]] = some r) : pureV E (om E) 33 lent args = some r := pureV_of (dyn := []) rfl (by rw [E_P]; exact Tryz.func33) (by unfold Tryz.f33; rfl) (by kernel_rfl) (by rw [Tryz.ntmps33]; exact hr)
@[simp] theorem call_33 (args : List V) (h : Heap) : callV E (om E) 33 args h = (viewArgs h args).bind fun a => (pureV E (om E) 33 (!V.flatL args) a).map fun r => (r, h) := callV_pure rfl rfl args h

/-! 34: playpen/isa.Info -/
attribute [simp] Tryz.results34
theorem pu_34 {lent : Bool} {args : List V} {r : V} (hr : evK E (om E) 34 [] (Tryz.f34.body.getD .skip) (endK Tryz.prog Tryz.f34.results.toList (pureFin lent)) (args ++ pois (16 - args.length)) [[]] = some r) : pureV E (om E) 34 lent args = some r := pureV_of (dyn := []) rfl (by rw [E_P]; exact Tryz.func34) (by unfold Tryz.f34; rfl) (by kernel_rfl) (by rw [Tryz.ntmps34]; exact hr)
@[simp] theorem call_34 (args : List V) (h : Heap) : callV E (om E) 34 args h = (viewArgs h args).bind fun a => (pureV E (om E) 34 (!V.flatL args) a).map fun r => (r, h) := callV_pure rfl rfl args h

/-! 35: (*playpen/verify.Module).Begins -/
attribute [simp] Tryz.results35
theorem pu_35 {lent : Bool} {args : List V} {r : V} (hr : evK E (om E) 35 [] (Tryz.f35.body.getD .skip) (endK Tryz.prog Tryz.f35.results.toList (pureFin lent)) (args ++ pois (12 - args.length)) [[]] = some r) : pureV E (om E) 35 lent args = some r := pureV_of (dyn := []) rfl (by rw [E_P]; exact Tryz.func35) (by unfold Tryz.f35; rfl) (by kernel_rfl) (by rw [Tryz.ntmps35]; exact hr)
@[simp] theorem call_35 (args : List V) (h : Heap) : callV E (om E) 35 args h = (viewArgs h args).bind fun a => (pureV E (om E) 35 (!V.flatL args) a).map fun r => (r, h) := callV_pure rfl rfl args h

/-! 36: playpen/playpenlaw15.leads -/
attribute [simp] Tryz.results36
theorem pu_36 {lent : Bool} {args : List V} {r : V} (hr : evK E (om E) 36 [] (Tryz.f36.body.getD .skip) (endK Tryz.prog Tryz.f36.results.toList (pureFin lent)) (args ++ pois (23 - args.length)) [[]] = some r) : pureV E (om E) 36 lent args = some r := pureV_of (dyn := []) rfl (by rw [E_P]; exact Tryz.func36) (by unfold Tryz.f36; rfl) (by kernel_rfl) (by rw [Tryz.ntmps36]; exact hr)
@[simp] theorem call_36 (args : List V) (h : Heap) : callV E (om E) 36 args h = (viewArgs h args).bind fun a => (pureV E (om E) 36 (!V.flatL args) a).map fun r => (r, h) := callV_pure rfl rfl args h

/-! 37: (*playpen/verify.Module).Legal -/
attribute [simp] Tryz.results37
theorem pu_37 {lent : Bool} {args : List V} {r : V} (hr : evK E (om E) 37 [] (Tryz.f37.body.getD .skip) (endK Tryz.prog Tryz.f37.results.toList (pureFin lent)) (args ++ pois (15 - args.length)) [[]] = some r) : pureV E (om E) 37 lent args = some r := pureV_of (dyn := []) rfl (by rw [E_P]; exact Tryz.func37) (by unfold Tryz.f37; rfl) (by kernel_rfl) (by rw [Tryz.ntmps37]; exact hr)
@[simp] theorem call_37 (args : List V) (h : Heap) : callV E (om E) 37 args h = (viewArgs h args).bind fun a => (pureV E (om E) 37 (!V.flatL args) a).map fun r => (r, h) := callV_pure rfl rfl args h

/-! 38: playpen/isa.Encode -/
attribute [simp] Tryz.results38
theorem pu_38 {lent : Bool} {args : List V} {r : V} (hr : evK E (om E) 38 [] (Tryz.f38.body.getD .skip) (endK Tryz.prog Tryz.f38.results.toList (pureFin lent)) (args ++ pois (42 - args.length)) [[]] = some r) : pureV E (om E) 38 lent args = some r := pureV_of (dyn := []) rfl (by rw [E_P]; exact Tryz.func38) (by unfold Tryz.f38; rfl) (by kernel_rfl) (by rw [Tryz.ntmps38]; exact hr)
@[simp] theorem call_38 (args : List V) (h : Heap) : callV E (om E) 38 args h = (viewArgs h args).bind fun a => (pureV E (om E) 38 (!V.flatL args) a).map fun r => (r, h) := callV_pure rfl rfl args h
@[simp] theorem hint_38_0 : E.hint 38 5 = [.promote 5 1, .forget 2, .forget 3, .forget 4, .forget 6, .forget 7, .forget 8, .forget 15, .forget 16, .forget 17, .forget 18, .forget 19, .forget 20, .forget 21, .forget 22, .forget 23, .forget 24, .forget 25, .forget 26, .forget 27, .forget 28, .forget 29, .forget 30, .forget 31, .forget 32, .forget 33, .forget 34, .forget 35, .forget 36, .forget 37, .forget 38, .forget 39, .forget 40] := rfl

/-! 39: slices.Concat[[]byte,byte] -/
attribute [simp] Tryz.results39
theorem bo_39 {args : List V} {h : Heap} {r : V × Heap} (hr : evK E (om E) 39 [] (Tryz.f39.body.getD .skip) (endK Tryz.prog Tryz.f39.results.toList bodyFin) (args ++ pois (36 - args.length)) h = some r) : bodyV E (om E) 39 args h = some r := bodyV_of (dyn := []) rfl (by rw [E_P]; exact Tryz.func39) (by unfold Tryz.f39; rfl) (by kernel_rfl) (by rw [Tryz.ntmps39]; exact hr)
theorem call_39 (args : List V) (h : Heap) : callV E (om E) 39 args h = (viewArgs h args).bind fun args' => (bodyV E (om E) 39 args' [[]]).bind fun x => if !V.flatL args && !V.own x.2 x.1 then none else some (V.out h.top.length x.1, h.setTop (h.top ++ x.2.top.map (outBlk h.top.length))) := callV_own rfl rfl args h
@[simp] theorem hint_39_0 : E.hint 39 3 = [.forget 5, .forget 12, .forget 13, .forget 14, .forget 15, .forget 16, .forget 17, .forget 18, .forget 19, .forget 20, .forget 21, .forget 22] := rfl
@[simp] theorem hint_39_1 : E.hint 39 11 = [.promote 6 1, .forget 8, .forget 28, .forget 29, .forget 30, .forget 31, .forget 32, .forget 33, .forget 34] := rfl

/-! 40: playpen/little.Put[uint32] -/
attribute [simp] Tryz.results40
theorem pu_40 {lent : Bool} {args : List V} {r : V} (hr : evK E (om E) 40 [] (Tryz.f40.body.getD .skip) (endK Tryz.prog Tryz.f40.results.toList (pureFin lent)) (args ++ pois (17 - args.length)) [[]] = some r) : pureV E (om E) 40 lent args = some r := pureV_of (dyn := []) rfl (by rw [E_P]; exact Tryz.func40) (by unfold Tryz.f40; rfl) (by kernel_rfl) (by rw [Tryz.ntmps40]; exact hr)
@[simp] theorem call_40 (args : List V) (h : Heap) : callV E (om E) 40 args h = (viewArgs h args).bind fun a => (pureV E (om E) 40 (!V.flatL args) a).map fun r => (r, h) := callV_pure rfl rfl args h
@[simp] theorem hint_40_0 : E.hint 40 3 = [.promote 3 1, .forget 5, .forget 9, .forget 10, .forget 11, .forget 12, .forget 13, .forget 14, .forget 15] := rfl

/-! 41: playpen/little.Put[uint8] -/
attribute [simp] Tryz.results41
theorem pu_41 {lent : Bool} {args : List V} {r : V} (hr : evK E (om E) 41 [] (Tryz.f41.body.getD .skip) (endK Tryz.prog Tryz.f41.results.toList (pureFin lent)) (args ++ pois (17 - args.length)) [[]] = some r) : pureV E (om E) 41 lent args = some r := pureV_of (dyn := []) rfl (by rw [E_P]; exact Tryz.func41) (by unfold Tryz.f41; rfl) (by kernel_rfl) (by rw [Tryz.ntmps41]; exact hr)
@[simp] theorem call_41 (args : List V) (h : Heap) : callV E (om E) 41 args h = (viewArgs h args).bind fun a => (pureV E (om E) 41 (!V.flatL args) a).map fun r => (r, h) := callV_pure rfl rfl args h
@[simp] theorem hint_41_0 : E.hint 41 3 = [.promote 3 1, .forget 5, .forget 9, .forget 10, .forget 11, .forget 12, .forget 13, .forget 14, .forget 15] := rfl

/-! 42: playpen/little.Lay -/
attribute [simp] Tryz.results42
theorem pu_42 {lent : Bool} {args : List V} {r : V} (hr : evK E (om E) 42 [] (Tryz.f42.body.getD .skip) (endK Tryz.prog Tryz.f42.results.toList (pureFin lent)) (args ++ pois (33 - args.length)) [[]] = some r) : pureV E (om E) 42 lent args = some r := pureV_of (dyn := []) rfl (by rw [E_P]; exact Tryz.func42) (by unfold Tryz.f42; rfl) (by kernel_rfl) (by rw [Tryz.ntmps42]; exact hr)
@[simp] theorem call_42 (args : List V) (h : Heap) : callV E (om E) 42 args h = (viewArgs h args).bind fun a => (pureV E (om E) 42 (!V.flatL args) a).map fun r => (r, h) := callV_pure rfl rfl args h
@[simp] theorem hint_42_0 : E.hint 42 4 = [.promote 7 2, .forget 4, .forget 5, .forget 9, .forget 15, .forget 16, .forget 17, .forget 18, .forget 19, .forget 20, .forget 21, .forget 22, .forget 23, .forget 24, .forget 25, .forget 26, .forget 27, .forget 28, .forget 29, .forget 30, .forget 31] := rfl

/-! 43: playpen/image.sealed -/
attribute [simp] Tryz.results43
theorem bo_43 {args : List V} {h : Heap} {r : V × Heap} (hr : evK E (om E) 43 [] (Tryz.f43.body.getD .skip) (endK Tryz.prog Tryz.f43.results.toList bodyFin) (args ++ pois (18 - args.length)) h = some r) : bodyV E (om E) 43 args h = some r := bodyV_of (dyn := []) rfl (by rw [E_P]; exact Tryz.func43) (by unfold Tryz.f43; rfl) (by kernel_rfl) (by rw [Tryz.ntmps43]; exact hr)
theorem call_43 (args : List V) (h : Heap) : callV E (om E) 43 args h = (viewArgs h args).bind fun args' => (bodyV E (om E) 43 args' [[]]).bind fun x => if !V.flatL args && !V.own x.2 x.1 then none else some (V.out h.top.length x.1, h.setTop (h.top ++ x.2.top.map (outBlk h.top.length))) := callV_own rfl rfl args h

/-! 44: playpen/image.Parse -/
attribute [simp] Tryz.results44
theorem pu_44 {lent : Bool} {args : List V} {r : V} (hr : evK E (om E) 44 [8, 14, 21] (Tryz.f44.body.getD .skip) (endK Tryz.prog Tryz.f44.results.toList (pureFin lent)) (args ++ pois (119 - args.length)) [[]] = some r) : pureV E (om E) 44 lent args = some r := pureV_of (dyn := [8, 14, 21]) rfl (by rw [E_P]; exact Tryz.func44) (by unfold Tryz.f44; rfl) (by kernel_rfl) (by rw [Tryz.ntmps44]; exact hr)
@[simp] theorem call_44 (args : List V) (h : Heap) : callV E (om E) 44 args h = (viewArgs h args).bind fun a => (pureV E (om E) 44 (!V.flatL args) a).map fun r => (r, h) := callV_pure rfl rfl args h

/-! 45: (playpen/verify.deep).Back -/
attribute [simp] Tryz.results45
theorem pu_45 {lent : Bool} {args : List V} {r : V} (hr : evK E (om E) 45 [] (Tryz.f45.body.getD .skip) (endK Tryz.prog Tryz.f45.results.toList (pureFin lent)) (args ++ pois (24 - args.length)) [[]] = some r) : pureV E (om E) 45 lent args = some r := pureV_of (dyn := []) rfl (by rw [E_P]; exact Tryz.func45) (by unfold Tryz.f45; rfl) (by kernel_rfl) (by rw [Tryz.ntmps45]; exact hr)
@[simp] theorem call_45 (args : List V) (h : Heap) : callV E (om E) 45 args h = (viewArgs h args).bind fun a => (pureV E (om E) 45 (!V.flatL args) a).map fun r => (r, h) := callV_pure rfl rfl args h

/-! 46: playpen/isa.Check -/
attribute [simp] Tryz.results46
theorem pu_46 {lent : Bool} {args : List V} {r : V} (hr : evK E (om E) 46 [] (Tryz.f46.body.getD .skip) (endK Tryz.prog Tryz.f46.results.toList (pureFin lent)) (args ++ pois (20 - args.length)) [[]] = some r) : pureV E (om E) 46 lent args = some r := pureV_of (dyn := []) rfl (by rw [E_P]; exact Tryz.func46) (by unfold Tryz.f46; rfl) (by kernel_rfl) (by rw [Tryz.ntmps46]; exact hr)
@[simp] theorem call_46 (args : List V) (h : Heap) : callV E (om E) 46 args h = (viewArgs h args).bind fun a => (pureV E (om E) 46 (!V.flatL args) a).map fun r => (r, h) := callV_pure rfl rfl args h

/-! 47: playpen/image.stackMay -/
attribute [simp] Tryz.results47
theorem pu_47 {lent : Bool} {args : List V} {r : V} (hr : evK E (om E) 47 [] (Tryz.f47.body.getD .skip) (endK Tryz.prog Tryz.f47.results.toList (pureFin lent)) (args ++ pois (14 - args.length)) [[]] = some r) : pureV E (om E) 47 lent args = some r := pureV_of (dyn := []) rfl (by rw [E_P]; exact Tryz.func47) (by unfold Tryz.f47; rfl) (by kernel_rfl) (by rw [Tryz.ntmps47]; exact hr)
@[simp] theorem call_47 (args : List V) (h : Heap) : callV E (om E) 47 args h = (viewArgs h args).bind fun a => (pureV E (om E) 47 (!V.flatL args) a).map fun r => (r, h) := callV_pure rfl rfl args h

/-! 48: playpen/image.room -/
attribute [simp] Tryz.results48
theorem pu_48 {lent : Bool} {args : List V} {r : V} (hr : evK E (om E) 48 [] (Tryz.f48.body.getD .skip) (endK Tryz.prog Tryz.f48.results.toList (pureFin lent)) (args ++ pois (15 - args.length)) [[]] = some r) : pureV E (om E) 48 lent args = some r := pureV_of (dyn := []) rfl (by rw [E_P]; exact Tryz.func48) (by unfold Tryz.f48; rfl) (by kernel_rfl) (by rw [Tryz.ntmps48]; exact hr)
@[simp] theorem call_48 (args : List V) (h : Heap) : callV E (om E) 48 args h = (viewArgs h args).bind fun a => (pureV E (om E) 48 (!V.flatL args) a).map fun r => (r, h) := callV_pure rfl rfl args h

/-! 49: playpen/image.nameMay -/
attribute [simp] Tryz.results49
theorem pu_49 {lent : Bool} {args : List V} {r : V} (hr : evK E (om E) 49 [] (Tryz.f49.body.getD .skip) (endK Tryz.prog Tryz.f49.results.toList (pureFin lent)) (args ++ pois (33 - args.length)) [[]] = some r) : pureV E (om E) 49 lent args = some r := pureV_of (dyn := []) rfl (by rw [E_P]; exact Tryz.func49) (by unfold Tryz.f49; rfl) (by kernel_rfl) (by rw [Tryz.ntmps49]; exact hr)
@[simp] theorem call_49 (args : List V) (h : Heap) : callV E (om E) 49 args h = (viewArgs h args).bind fun a => (pureV E (om E) 49 (!V.flatL args) a).map fun r => (r, h) := callV_pure rfl rfl args h

/-! 50: slices.Clone[[]playpen/api.Instr,playpen/api.Instr] -/
attribute [simp] Tryz.results50
@[simp] theorem call_50 (args : List V) (h : Heap) : callV E (om E) 50 args h = cloneWL 17592186044416 2 args h := callV_known rfl args h

/-! 51: slices.Clone[[]uint32,uint32] -/
attribute [simp] Tryz.results51
@[simp] theorem call_51 (args : List V) (h : Heap) : callV E (om E) 51 args h = cloneWL 35184372088832 1 args h := callV_known rfl args h

/-! 52: bytes.Clone -/
attribute [simp] Tryz.results52
@[simp] theorem call_52 (args : List V) (h : Heap) : callV E (om E) 52 args h = cloneWL 140737488355328 1 args h := callV_known rfl args h

/-! 53: slices.Clone[[]playpen/api.Export,playpen/api.Export] -/
attribute [simp] Tryz.results53
@[simp] theorem call_53 (args : List V) (h : Heap) : callV E (om E) 53 args h = cloneWL 5864062014805 2 args h := callV_known rfl args h

/-! 54: playpen/procs.cut -/
attribute [simp] Tryz.results54
theorem bo_54 {args : List V} {h : Heap} {r : V × Heap} (hr : evK E (om E) 54 [] (Tryz.f54.body.getD .skip) (endK Tryz.prog Tryz.f54.results.toList bodyFin) (args ++ pois (70 - args.length)) h = some r) : bodyV E (om E) 54 args h = some r := bodyV_of (dyn := []) rfl (by rw [E_P]; exact Tryz.func54) (by unfold Tryz.f54; rfl) (by kernel_rfl) (by rw [Tryz.ntmps54]; exact hr)
theorem call_54 (args : List V) (h : Heap) : callV E (om E) 54 args h = (bodyV E (om E) 54 (V.upL 1 args) ([] :: h)).bind fun x => some (V.out (Heap.top x.2.tail).length x.1, Heap.setTop x.2.tail (Heap.top x.2.tail ++ x.2.top.map (outBlk (Heap.top x.2.tail).length))) := callV_live rfl rfl args h
@[simp] theorem hint_54_0 : E.hint 54 3 = [.promoteBox 3 0 4, .promoteBox 3 1 1, .forget 4, .forget 5, .forget 6, .forget 12, .forget 13, .forget 14, .forget 15, .forget 16, .forget 17, .forget 18, .forget 19, .forget 20, .forget 21, .forget 22, .forget 23, .forget 24, .forget 25, .forget 26, .forget 27, .forget 28, .forget 29, .forget 30, .forget 31, .forget 32, .forget 33, .forget 34, .forget 35, .forget 36, .forget 37, .forget 38, .forget 39, .forget 40, .forget 41, .forget 42, .forget 43, .forget 44, .forget 45, .forget 46, .forget 47, .forget 48, .forget 49, .forget 50, .forget 51, .forget 52, .forget 53, .forget 54, .forget 55, .forget 56, .forget 57, .forget 58, .forget 59] := rfl

/-! 55: playpen/procs.fault -/
attribute [simp] Tryz.results55
theorem pu_55 {lent : Bool} {args : List V} {r : V} (hr : evK E (om E) 55 [] (Tryz.f55.body.getD .skip) (endK Tryz.prog Tryz.f55.results.toList (pureFin lent)) (args ++ pois (71 - args.length)) [[]] = some r) : pureV E (om E) 55 lent args = some r := pureV_of (dyn := []) rfl (by rw [E_P]; exact Tryz.func55) (by unfold Tryz.f55; rfl) (by kernel_rfl) (by rw [Tryz.ntmps55]; exact hr)
@[simp] theorem call_55 (args : List V) (h : Heap) : callV E (om E) 55 args h = (viewArgs h args).bind fun a => (pureV E (om E) 55 (!V.flatL args) a).map fun r => (r, h) := callV_pure rfl rfl args h

/-! 56: (*playpen/procs.Procs).aim -/
attribute [simp] Tryz.results56
theorem bo_56 {args : List V} {h : Heap} {r : V × Heap} (hr : evK E (om E) 56 [6] (Tryz.f56.body.getD .skip) (endK Tryz.prog Tryz.f56.results.toList bodyFin) (args ++ pois (84 - args.length)) h = some r) : bodyV E (om E) 56 args h = some r := bodyV_of (dyn := [6]) rfl (by rw [E_P]; exact Tryz.func56) (by unfold Tryz.f56; rfl) (by kernel_rfl) (by rw [Tryz.ntmps56]; exact hr)
theorem call_56 (args : List V) (h : Heap) : callV E (om E) 56 args h = bodyV E (om E) 56 args h := callV_inl rfl rfl args h
@[simp] theorem hint_56_0 : E.hint 56 2 = [.promoteAll 0 2 1, .forget 4, .forget 5, .forget 6, .forget 7, .forget 11, .forget 12, .forget 13, .forget 14, .forget 15, .forget 16, .forget 17, .forget 18, .forget 19, .forget 20, .forget 21, .forget 22, .forget 23, .forget 24, .forget 25, .forget 26, .forget 27, .forget 28, .forget 29, .forget 30, .forget 31, .forget 32, .forget 33, .forget 34, .forget 35, .forget 36, .forget 37, .forget 38, .forget 39, .forget 40, .forget 41, .forget 42, .forget 43, .forget 44, .forget 45, .forget 46, .forget 47, .forget 48, .forget 49, .forget 50, .forget 51, .forget 52, .forget 53, .forget 54, .forget 55, .forget 56, .forget 57, .forget 58, .forget 59, .forget 60, .forget 61, .forget 62, .forget 63, .forget 64, .forget 65, .forget 66, .forget 67, .forget 68, .forget 69, .forget 70, .forget 71, .forget 72, .forget 73, .forget 74, .forget 75, .forget 76, .forget 77, .forget 78, .forget 79, .forget 80, .forget 81, .forget 82, .forget 83] := rfl

/-! 57: (*playpen/procs.Procs).Begins -/
attribute [simp] Tryz.results57
theorem pu_57 {lent : Bool} {args : List V} {r : V} (hr : evK E (om E) 57 [] (Tryz.f57.body.getD .skip) (endK Tryz.prog Tryz.f57.results.toList (pureFin lent)) (args ++ pois (22 - args.length)) [[]] = some r) : pureV E (om E) 57 lent args = some r := pureV_of (dyn := []) rfl (by rw [E_P]; exact Tryz.func57) (by unfold Tryz.f57; rfl) (by kernel_rfl) (by rw [Tryz.ntmps57]; exact hr)
@[simp] theorem call_57 (args : List V) (h : Heap) : callV E (om E) 57 args h = (viewArgs h args).bind fun a => (pureV E (om E) 57 (!V.flatL args) a).map fun r => (r, h) := callV_pure rfl rfl args h

/-! 58: playpen/flow.found -/
attribute [simp] Tryz.results58
theorem pu_58 {lent : Bool} {args : List V} {r : V} (hr : evK E (om E) 58 [] (Tryz.f58.body.getD .skip) (endK Tryz.prog Tryz.f58.results.toList (pureFin lent)) (args ++ pois (28 - args.length)) [[]] = some r) : pureV E (om E) 58 lent args = some r := pureV_of (dyn := []) rfl (by rw [E_P]; exact Tryz.func58) (by unfold Tryz.f58; rfl) (by kernel_rfl) (by rw [Tryz.ntmps58]; exact hr)
@[simp] theorem call_58 (args : List V) (h : Heap) : callV E (om E) 58 args h = (viewArgs h args).bind fun a => (pureV E (om E) 58 (!V.flatL args) a).map fun r => (r, h) := callV_pure rfl rfl args h

/-! 59: (*playpen/flow.graph).depths -/
attribute [simp] Tryz.results59
theorem bo_59 {args : List V} {h : Heap} {r : V × Heap} (hr : evK E (om E) 59 [9] (Tryz.f59.body.getD .skip) (endK Tryz.prog Tryz.f59.results.toList bodyFin) (args ++ pois (47 - args.length)) h = some r) : bodyV E (om E) 59 args h = some r := bodyV_of (dyn := [9]) rfl (by rw [E_P]; exact Tryz.func59) (by unfold Tryz.f59; rfl) (by kernel_rfl) (by rw [Tryz.ntmps59]; exact hr)
theorem call_59 (args : List V) (h : Heap) : callV E (om E) 59 args h = (viewArgs h args).bind fun args' => (bodyV E (om E) 59 args' [[]]).bind fun x => if !V.flatL args && !V.own x.2 x.1 then none else some (V.out h.top.length x.1, h.setTop (h.top ++ x.2.top.map (outBlk h.top.length))) := callV_own rfl rfl args h
@[simp] theorem hint_59_0 : E.hint 59 4 = [.promoteBox 7 0 1] := rfl

/-! 60: playpen/playpenkit.markCode -/
attribute [simp] Tryz.results60
theorem pu_60 {lent : Bool} {args : List V} {r : V} (hr : evK E (om E) 60 [] (Tryz.f60.body.getD .skip) (endK Tryz.prog Tryz.f60.results.toList (pureFin lent)) (args ++ pois (16 - args.length)) [[]] = some r) : pureV E (om E) 60 lent args = some r := pureV_of (dyn := []) rfl (by rw [E_P]; exact Tryz.func60) (by unfold Tryz.f60; rfl) (by kernel_rfl) (by rw [Tryz.ntmps60]; exact hr)
@[simp] theorem call_60 (args : List V) (h : Heap) : callV E (om E) 60 args h = (viewArgs h args).bind fun a => (pureV E (om E) 60 (!V.flatL args) a).map fun r => (r, h) := callV_pure rfl rfl args h

/-! 61: playpen/playpenkit.markWords -/
attribute [simp] Tryz.results61
theorem pu_61 {lent : Bool} {args : List V} {r : V} (hr : evK E (om E) 61 [] (Tryz.f61.body.getD .skip) (endK Tryz.prog Tryz.f61.results.toList (pureFin lent)) (args ++ pois (11 - args.length)) [[]] = some r) : pureV E (om E) 61 lent args = some r := pureV_of (dyn := []) rfl (by rw [E_P]; exact Tryz.func61) (by unfold Tryz.f61; rfl) (by kernel_rfl) (by rw [Tryz.ntmps61]; exact hr)
@[simp] theorem call_61 (args : List V) (h : Heap) : callV E (om E) 61 args h = (viewArgs h args).bind fun a => (pureV E (om E) 61 (!V.flatL args) a).map fun r => (r, h) := callV_pure rfl rfl args h

/-! 62: playpen/playpenkit.markBytes -/
attribute [simp] Tryz.results62
theorem pu_62 {lent : Bool} {args : List V} {r : V} (hr : evK E (om E) 62 [] (Tryz.f62.body.getD .skip) (endK Tryz.prog Tryz.f62.results.toList (pureFin lent)) (args ++ pois (22 - args.length)) [[]] = some r) : pureV E (om E) 62 lent args = some r := pureV_of (dyn := []) rfl (by rw [E_P]; exact Tryz.func62) (by unfold Tryz.f62; rfl) (by kernel_rfl) (by rw [Tryz.ntmps62]; exact hr)
@[simp] theorem call_62 (args : List V) (h : Heap) : callV E (om E) 62 args h = (viewArgs h args).bind fun a => (pureV E (om E) 62 (!V.flatL args) a).map fun r => (r, h) := callV_pure rfl rfl args h

/-! 63: (*playpen/procs.Procs).Count -/
attribute [simp] Tryz.results63
theorem pu_63 {lent : Bool} {args : List V} {r : V} (hr : evK E (om E) 63 [] (Tryz.f63.body.getD .skip) (endK Tryz.prog Tryz.f63.results.toList (pureFin lent)) (args ++ pois (11 - args.length)) [[]] = some r) : pureV E (om E) 63 lent args = some r := pureV_of (dyn := []) rfl (by rw [E_P]; exact Tryz.func63) (by unfold Tryz.f63; rfl) (by kernel_rfl) (by rw [Tryz.ntmps63]; exact hr)
@[simp] theorem call_63 (args : List V) (h : Heap) : callV E (om E) 63 args h = (viewArgs h args).bind fun a => (pureV E (om E) 63 (!V.flatL args) a).map fun r => (r, h) := callV_pure rfl rfl args h
@[simp] theorem hint_63_0 : E.hint 63 3 = [] := rfl

/-! 64: (playpen/verify.where).proc -/
attribute [simp] Tryz.results64
theorem pu_64 {lent : Bool} {args : List V} {r : V} (hr : evK E (om E) 64 [] (Tryz.f64.body.getD .skip) (endK Tryz.prog Tryz.f64.results.toList (pureFin lent)) (args ++ pois (21 - args.length)) [[]] = some r) : pureV E (om E) 64 lent args = some r := pureV_of (dyn := []) rfl (by rw [E_P]; exact Tryz.func64) (by unfold Tryz.f64; rfl) (by kernel_rfl) (by rw [Tryz.ntmps64]; exact hr)
@[simp] theorem call_64 (args : List V) (h : Heap) : callV E (om E) 64 args h = (viewArgs h args).bind fun a => (pureV E (om E) 64 (!V.flatL args) a).map fun r => (r, h) := callV_pure rfl rfl args h

/-! 65: (playpen/verify.where).ProcOf -/
attribute [simp] Tryz.results65
theorem pu_65 {lent : Bool} {args : List V} {r : V} (hr : evK E (om E) 65 [] (Tryz.f65.body.getD .skip) (endK Tryz.prog Tryz.f65.results.toList (pureFin lent)) (args ++ pois (17 - args.length)) [[]] = some r) : pureV E (om E) 65 lent args = some r := pureV_of (dyn := []) rfl (by rw [E_P]; exact Tryz.func65) (by unfold Tryz.f65; rfl) (by kernel_rfl) (by rw [Tryz.ntmps65]; exact hr)
@[simp] theorem call_65 (args : List V) (h : Heap) : callV E (om E) 65 args h = (viewArgs h args).bind fun a => (pureV E (om E) 65 (!V.flatL args) a).map fun r => (r, h) := callV_pure rfl rfl args h

/-! 66: playpen/isa.rows -/
attribute [simp] Tryz.results66
theorem pu_66 {lent : Bool} {args : List V} {r : V} (hr : evK E (om E) 66 [] (Tryz.f66.body.getD .skip) (endK Tryz.prog Tryz.f66.results.toList (pureFin lent)) (args ++ pois (61 - args.length)) [[]] = some r) : pureV E (om E) 66 lent args = some r := pureV_of (dyn := []) rfl (by rw [E_P]; exact Tryz.func66) (by unfold Tryz.f66; rfl) (by kernel_rfl) (by rw [Tryz.ntmps66]; exact hr)
@[simp] theorem call_66 (args : List V) (h : Heap) : callV E (om E) 66 args h = (viewArgs h args).bind fun a => (pureV E (om E) 66 (!V.flatL args) a).map fun r => (r, h) := callV_pure rfl rfl args h

/-! 67: (playpen/verify.where).Begins -/
attribute [simp] Tryz.results67
theorem pu_67 {lent : Bool} {args : List V} {r : V} (hr : evK E (om E) 67 [] (Tryz.f67.body.getD .skip) (endK Tryz.prog Tryz.f67.results.toList (pureFin lent)) (args ++ pois (9 - args.length)) [[]] = some r) : pureV E (om E) 67 lent args = some r := pureV_of (dyn := []) rfl (by rw [E_P]; exact Tryz.func67) (by unfold Tryz.f67; rfl) (by kernel_rfl) (by rw [Tryz.ntmps67]; exact hr)
@[simp] theorem call_67 (args : List V) (h : Heap) : callV E (om E) 67 args h = (viewArgs h args).bind fun a => (pureV E (om E) 67 (!V.flatL args) a).map fun r => (r, h) := callV_pure rfl rfl args h

/-! 68: (playpen/verify.where).Legal -/
attribute [simp] Tryz.results68
theorem pu_68 {lent : Bool} {args : List V} {r : V} (hr : evK E (om E) 68 [] (Tryz.f68.body.getD .skip) (endK Tryz.prog Tryz.f68.results.toList (pureFin lent)) (args ++ pois (12 - args.length)) [[]] = some r) : pureV E (om E) 68 lent args = some r := pureV_of (dyn := []) rfl (by rw [E_P]; exact Tryz.func68) (by unfold Tryz.f68; rfl) (by kernel_rfl) (by rw [Tryz.ntmps68]; exact hr)
@[simp] theorem call_68 (args : List V) (h : Heap) : callV E (om E) 68 args h = (viewArgs h args).bind fun a => (pureV E (om E) 68 (!V.flatL args) a).map fun r => (r, h) := callV_pure rfl rfl args h

/-! 69: playpen/isa.Size -/
attribute [simp] Tryz.results69
theorem pu_69 {lent : Bool} {args : List V} {r : V} (hr : evK E (om E) 69 [] (Tryz.f69.body.getD .skip) (endK Tryz.prog Tryz.f69.results.toList (pureFin lent)) (args ++ pois (17 - args.length)) [[]] = some r) : pureV E (om E) 69 lent args = some r := pureV_of (dyn := []) rfl (by rw [E_P]; exact Tryz.func69) (by unfold Tryz.f69; rfl) (by kernel_rfl) (by rw [Tryz.ntmps69]; exact hr)
@[simp] theorem call_69 (args : List V) (h : Heap) : callV E (om E) 69 args h = (viewArgs h args).bind fun a => (pureV E (om E) 69 (!V.flatL args) a).map fun r => (r, h) := callV_pure rfl rfl args h

/-! 70: slices.Grow[[]byte,byte] -/
attribute [simp] Tryz.results70
theorem bo_70 {args : List V} {h : Heap} {r : V × Heap} (hr : evK E (om E) 70 [] (Tryz.f70.body.getD .skip) (endK Tryz.prog Tryz.f70.results.toList bodyFin) (args ++ pois (27 - args.length)) h = some r) : bodyV E (om E) 70 args h = some r := bodyV_of (dyn := []) rfl (by rw [E_P]; exact Tryz.func70) (by unfold Tryz.f70; rfl) (by kernel_rfl) (by rw [Tryz.ntmps70]; exact hr)
theorem call_70 (args : List V) (h : Heap) : callV E (om E) 70 args h = (bodyV E (om E) 70 (V.upL 1 args) ([] :: h)).bind fun x => some (V.out (Heap.top x.2.tail).length x.1, Heap.setTop x.2.tail (Heap.top x.2.tail ++ x.2.top.map (outBlk (Heap.top x.2.tail).length))) := callV_live rfl rfl args h

/-! 71: playpen/little.lay[uint32] -/
attribute [simp] Tryz.results71
theorem bo_71 {args : List V} {h : Heap} {r : V × Heap} (hr : evK E (om E) 71 [] (Tryz.f71.body.getD .skip) (endK Tryz.prog Tryz.f71.results.toList bodyFin) (args ++ pois (21 - args.length)) h = some r) : bodyV E (om E) 71 args h = some r := bodyV_of (dyn := []) rfl (by rw [E_P]; exact Tryz.func71) (by unfold Tryz.f71; rfl) (by kernel_rfl) (by rw [Tryz.ntmps71]; exact hr)
theorem he_71 {args : List V} {h : Heap} {r : V × Heap} (hr : evK E (om E) 71 [] (Tryz.f71.body.getD .skip) (endK Tryz.prog Tryz.f71.results.toList heapFin) (V.upL 1 args ++ pois (21 - (V.upL 1 args).length)) ([] :: h) = some r) : callV E (om E) 71 args h = some r := heap_of (dyn := []) rfl rfl rfl (by rw [E_P]; exact Tryz.func71) (by unfold Tryz.f71; rfl) (by kernel_rfl) (by rw [Tryz.ntmps71]; exact hr)
theorem call_71 (args : List V) (h : Heap) : callV E (om E) 71 args h = (bodyV E (om E) 71 (V.upL 1 args) ([] :: h)).bind fun x => (V.freeze [x.2.top] x.1).bind fun r' => some (r', x.2.tail) := callV_heap rfl rfl args h
@[simp] theorem hint_71_0 : E.hint 71 2 = [.promote 0 1, .forget 5, .forget 8, .forget 9, .forget 10, .forget 11, .forget 12, .forget 13, .forget 14, .forget 15, .forget 16, .forget 17, .forget 18, .forget 19] := rfl

/-! 72: playpen/little.lay[uint8] -/
attribute [simp] Tryz.results72
theorem bo_72 {args : List V} {h : Heap} {r : V × Heap} (hr : evK E (om E) 72 [] (Tryz.f72.body.getD .skip) (endK Tryz.prog Tryz.f72.results.toList bodyFin) (args ++ pois (21 - args.length)) h = some r) : bodyV E (om E) 72 args h = some r := bodyV_of (dyn := []) rfl (by rw [E_P]; exact Tryz.func72) (by unfold Tryz.f72; rfl) (by kernel_rfl) (by rw [Tryz.ntmps72]; exact hr)
theorem he_72 {args : List V} {h : Heap} {r : V × Heap} (hr : evK E (om E) 72 [] (Tryz.f72.body.getD .skip) (endK Tryz.prog Tryz.f72.results.toList heapFin) (V.upL 1 args ++ pois (21 - (V.upL 1 args).length)) ([] :: h) = some r) : callV E (om E) 72 args h = some r := heap_of (dyn := []) rfl rfl rfl (by rw [E_P]; exact Tryz.func72) (by unfold Tryz.f72; rfl) (by kernel_rfl) (by rw [Tryz.ntmps72]; exact hr)
theorem call_72 (args : List V) (h : Heap) : callV E (om E) 72 args h = (bodyV E (om E) 72 (V.upL 1 args) ([] :: h)).bind fun x => (V.freeze [x.2.top] x.1).bind fun r' => some (r', x.2.tail) := callV_heap rfl rfl args h
@[simp] theorem hint_72_0 : E.hint 72 2 = [.promote 0 1, .forget 5, .forget 8, .forget 9, .forget 10, .forget 11, .forget 12, .forget 13, .forget 14, .forget 15, .forget 16, .forget 17, .forget 18, .forget 19] := rfl

/-! 73: playpen/little.With[uint32] -/
attribute [simp] Tryz.results73
theorem bo_73 {args : List V} {h : Heap} {r : V × Heap} (hr : evK E (om E) 73 [] (Tryz.f73.body.getD .skip) (endK Tryz.prog Tryz.f73.results.toList bodyFin) (args ++ pois (22 - args.length)) h = some r) : bodyV E (om E) 73 args h = some r := bodyV_of (dyn := []) rfl (by rw [E_P]; exact Tryz.func73) (by unfold Tryz.f73; rfl) (by kernel_rfl) (by rw [Tryz.ntmps73]; exact hr)
theorem call_73 (args : List V) (h : Heap) : callV E (om E) 73 args h = (viewArgs h args).bind fun args' => (bodyV E (om E) 73 args' [[]]).bind fun x => if !V.flatL args && !V.own x.2 x.1 then none else some (V.out h.top.length x.1, h.setTop (h.top ++ x.2.top.map (outBlk h.top.length))) := callV_own rfl rfl args h

/-! 74: playpen/image.headed -/
attribute [simp] Tryz.results74
theorem pu_74 {lent : Bool} {args : List V} {r : V} (hr : evK E (om E) 74 [] (Tryz.f74.body.getD .skip) (endK Tryz.prog Tryz.f74.results.toList (pureFin lent)) (args ++ pois (79 - args.length)) [[]] = some r) : pureV E (om E) 74 lent args = some r := pureV_of (dyn := []) rfl (by rw [E_P]; exact Tryz.func74) (by unfold Tryz.f74; rfl) (by kernel_rfl) (by rw [Tryz.ntmps74]; exact hr)
@[simp] theorem call_74 (args : List V) (h : Heap) : callV E (om E) 74 args h = (viewArgs h args).bind fun a => (pureV E (om E) 74 (!V.flatL args) a).map fun r => (r, h) := callV_pure rfl rfl args h
@[simp] theorem hint_74_0 : E.hint 74 16 = [.forget 2, .forget 3, .forget 7, .forget 8, .forget 49, .forget 50, .forget 51, .forget 52, .forget 53, .forget 54, .forget 55, .forget 56, .forget 57, .forget 58, .forget 59, .forget 60, .forget 61, .forget 62] := rfl

/-! 75: playpen/image.spansOf -/
attribute [simp] Tryz.results75
theorem bo_75 {args : List V} {h : Heap} {r : V × Heap} (hr : evK E (om E) 75 [] (Tryz.f75.body.getD .skip) (endK Tryz.prog Tryz.f75.results.toList bodyFin) (args ++ pois (23 - args.length)) h = some r) : bodyV E (om E) 75 args h = some r := bodyV_of (dyn := []) rfl (by rw [E_P]; exact Tryz.func75) (by unfold Tryz.f75; rfl) (by kernel_rfl) (by rw [Tryz.ntmps75]; exact hr)
theorem call_75 (args : List V) (h : Heap) : callV E (om E) 75 args h = (viewArgs h args).bind fun args' => (bodyV E (om E) 75 args' [[]]).bind fun x => if !V.flatL args && !V.own x.2 x.1 then none else some (V.out h.top.length x.1, h.setTop (h.top ++ x.2.top.map (outBlk h.top.length))) := callV_own rfl rfl args h
@[simp] theorem hint_75_0 : E.hint 75 3 = [.promote 3 2, .forget 5, .forget 8, .forget 9, .forget 10, .forget 11, .forget 12, .forget 13, .forget 14, .forget 15, .forget 16, .forget 17, .forget 18, .forget 19, .forget 20, .forget 21] := rfl

/-! 76: playpen/image.Parse$1 -/
attribute [simp] Tryz.results76
theorem pu_76 {lent : Bool} {args : List V} {r : V} (hr : evK E (om E) 76 [] (Tryz.f76.body.getD .skip) (endK Tryz.prog Tryz.f76.results.toList (pureFin lent)) (args ++ pois (17 - args.length)) [[]] = some r) : pureV E (om E) 76 lent args = some r := pureV_of (dyn := []) rfl (by rw [E_P]; exact Tryz.func76) (by unfold Tryz.f76; rfl) (by kernel_rfl) (by rw [Tryz.ntmps76]; exact hr)
@[simp] theorem call_76 (args : List V) (h : Heap) : callV E (om E) 76 args h = (viewArgs h args).bind fun a => (pureV E (om E) 76 (!V.flatL args) a).map fun r => (r, h) := callV_pure rfl rfl args h

/-! 77: playpen/little.Cut -/
attribute [simp] Tryz.results77
theorem bo_77 {args : List V} {h : Heap} {r : V × Heap} (hr : evK E (om E) 77 [] (Tryz.f77.body.getD .skip) (endK Tryz.prog Tryz.f77.results.toList bodyFin) (args ++ pois (19 - args.length)) h = some r) : bodyV E (om E) 77 args h = some r := bodyV_of (dyn := []) rfl (by rw [E_P]; exact Tryz.func77) (by unfold Tryz.f77; rfl) (by kernel_rfl) (by rw [Tryz.ntmps77]; exact hr)
theorem call_77 (args : List V) (h : Heap) : callV E (om E) 77 args h = (viewArgs h args).bind fun args' => (bodyV E (om E) 77 args' [[]]).bind fun x => if !V.flatL args && !V.own x.2 x.1 then none else some (V.out h.top.length x.1, h.setTop (h.top ++ x.2.top.map (outBlk h.top.length))) := callV_own rfl rfl args h

/-! 78: playpen/isa.Decode -/
attribute [simp] Tryz.results78
theorem pu_78 {lent : Bool} {args : List V} {r : V} (hr : evK E (om E) 78 [] (Tryz.f78.body.getD .skip) (endK Tryz.prog Tryz.f78.results.toList (pureFin lent)) (args ++ pois (24 - args.length)) [[]] = some r) : pureV E (om E) 78 lent args = some r := pureV_of (dyn := []) rfl (by rw [E_P]; exact Tryz.func78) (by unfold Tryz.f78; rfl) (by kernel_rfl) (by rw [Tryz.ntmps78]; exact hr)
@[simp] theorem call_78 (args : List V) (h : Heap) : callV E (om E) 78 args h = (viewArgs h args).bind fun a => (pureV E (om E) 78 (!V.flatL args) a).map fun r => (r, h) := callV_pure rfl rfl args h
@[simp] theorem hint_78_0 : E.hint 78 4 = [.promoteBox 5 0 2] := rfl

/-! 79: playpen/image.word -/
attribute [simp] Tryz.results79
theorem pu_79 {lent : Bool} {args : List V} {r : V} (hr : evK E (om E) 79 [] (Tryz.f79.body.getD .skip) (endK Tryz.prog Tryz.f79.results.toList (pureFin lent)) (args ++ pois (14 - args.length)) [[]] = some r) : pureV E (om E) 79 lent args = some r := pureV_of (dyn := []) rfl (by rw [E_P]; exact Tryz.func79) (by unfold Tryz.f79; rfl) (by kernel_rfl) (by rw [Tryz.ntmps79]; exact hr)
@[simp] theorem call_79 (args : List V) (h : Heap) : callV E (om E) 79 args h = (viewArgs h args).bind fun a => (pureV E (om E) 79 (!V.flatL args) a).map fun r => (r, h) := callV_pure rfl rfl args h

/-! 80: playpen/little.All[uint32] -/
attribute [simp] Tryz.results80
theorem pu_80 {lent : Bool} {args : List V} {r : V} (hr : evK E (om E) 80 [] (Tryz.f80.body.getD .skip) (endK Tryz.prog Tryz.f80.results.toList (pureFin lent)) (args ++ pois (28 - args.length)) [[]] = some r) : pureV E (om E) 80 lent args = some r := pureV_of (dyn := []) rfl (by rw [E_P]; exact Tryz.func80) (by unfold Tryz.f80; rfl) (by kernel_rfl) (by rw [Tryz.ntmps80]; exact hr)
@[simp] theorem call_80 (args : List V) (h : Heap) : callV E (om E) 80 args h = (viewArgs h args).bind fun a => (pureV E (om E) 80 (!V.flatL args) a).map fun r => (r, h) := callV_pure rfl rfl args h
@[simp] theorem hint_80_0 : E.hint 80 6 = [.promote 5 1, .forget 13, .forget 14, .forget 15, .forget 16, .forget 17, .forget 18, .forget 19, .forget 20, .forget 21, .forget 22, .forget 23, .forget 24, .forget 25, .forget 26] := rfl

/-! 81: playpen/image.segments -/
attribute [simp] Tryz.results81
theorem pu_81 {lent : Bool} {args : List V} {r : V} (hr : evK E (om E) 81 [] (Tryz.f81.body.getD .skip) (endK Tryz.prog Tryz.f81.results.toList (pureFin lent)) (args ++ pois (2 - args.length)) [[]] = some r) : pureV E (om E) 81 lent args = some r := pureV_of (dyn := []) rfl (by rw [E_P]; exact Tryz.func81) (by unfold Tryz.f81; rfl) (by kernel_rfl) (by rw [Tryz.ntmps81]; exact hr)
@[simp] theorem call_81 (args : List V) (h : Heap) : callV E (om E) 81 args h = (viewArgs h args).bind fun a => (pureV E (om E) 81 (!V.flatL args) a).map fun r => (r, h) := callV_pure rfl rfl args h

/-! 82: playpen/image.exports -/
attribute [simp] Tryz.results82
theorem pu_82 {lent : Bool} {args : List V} {r : V} (hr : evK E (om E) 82 [] (Tryz.f82.body.getD .skip) (endK Tryz.prog Tryz.f82.results.toList (pureFin lent)) (args ++ pois (64 - args.length)) [[]] = some r) : pureV E (om E) 82 lent args = some r := pureV_of (dyn := []) rfl (by rw [E_P]; exact Tryz.func82) (by unfold Tryz.f82; rfl) (by kernel_rfl) (by rw [Tryz.ntmps82]; exact hr)
@[simp] theorem call_82 (args : List V) (h : Heap) : callV E (om E) 82 args h = (viewArgs h args).bind fun a => (pureV E (om E) 82 (!V.flatL args) a).map fun r => (r, h) := callV_pure rfl rfl args h
@[simp] theorem hint_82_0 : E.hint 82 3 = [.promote 5 2, .forget 7, .forget 8, .forget 9, .forget 10, .forget 11, .forget 12, .forget 13, .forget 14, .forget 15, .forget 16, .forget 17, .forget 18, .forget 19, .forget 20, .forget 21, .forget 22, .forget 23, .forget 24, .forget 25, .forget 26, .forget 27, .forget 28, .forget 29, .forget 30, .forget 31, .forget 32, .forget 33, .forget 34, .forget 35, .forget 36, .forget 37, .forget 38, .forget 39, .forget 40, .forget 41, .forget 42, .forget 43, .forget 44, .forget 45, .forget 46, .forget 47, .forget 48, .forget 49, .forget 50, .forget 51, .forget 52, .forget 53, .forget 54, .forget 55, .forget 56, .forget 57] := rfl

/-! 83: playpen/procs.inside -/
attribute [simp] Tryz.results83
theorem pu_83 {lent : Bool} {args : List V} {r : V} (hr : evK E (om E) 83 [] (Tryz.f83.body.getD .skip) (endK Tryz.prog Tryz.f83.results.toList (pureFin lent)) (args ++ pois (15 - args.length)) [[]] = some r) : pureV E (om E) 83 lent args = some r := pureV_of (dyn := []) rfl (by rw [E_P]; exact Tryz.func83) (by unfold Tryz.f83; rfl) (by kernel_rfl) (by rw [Tryz.ntmps83]; exact hr)
@[simp] theorem call_83 (args : List V) (h : Heap) : callV E (om E) 83 args h = (viewArgs h args).bind fun a => (pureV E (om E) 83 (!V.flatL args) a).map fun r => (r, h) := callV_pure rfl rfl args h

/-! 84: (*playpen/procs.Procs).Proc -/
attribute [simp] Tryz.results84
theorem pu_84 {lent : Bool} {args : List V} {r : V} (hr : evK E (om E) 84 [] (Tryz.f84.body.getD .skip) (endK Tryz.prog Tryz.f84.results.toList (pureFin lent)) (args ++ pois (29 - args.length)) [[]] = some r) : pureV E (om E) 84 lent args = some r := pureV_of (dyn := []) rfl (by rw [E_P]; exact Tryz.func84) (by unfold Tryz.f84; rfl) (by kernel_rfl) (by rw [Tryz.ntmps84]; exact hr)
@[simp] theorem call_84 (args : List V) (h : Heap) : callV E (om E) 84 args h = (viewArgs h args).bind fun a => (pureV E (om E) 84 (!V.flatL args) a).map fun r => (r, h) := callV_pure rfl rfl args h

/-! 85: (*playpen/procs.Procs).Of -/
attribute [simp] Tryz.results85
theorem pu_85 {lent : Bool} {args : List V} {r : V} (hr : evK E (om E) 85 [] (Tryz.f85.body.getD .skip) (endK Tryz.prog Tryz.f85.results.toList (pureFin lent)) (args ++ pois (24 - args.length)) [[]] = some r) : pureV E (om E) 85 lent args = some r := pureV_of (dyn := []) rfl (by rw [E_P]; exact Tryz.func85) (by unfold Tryz.f85; rfl) (by kernel_rfl) (by rw [Tryz.ntmps85]; exact hr)
@[simp] theorem call_85 (args : List V) (h : Heap) : callV E (om E) 85 args h = (viewArgs h args).bind fun a => (pureV E (om E) 85 (!V.flatL args) a).map fun r => (r, h) := callV_pure rfl rfl args h

/-! 86: slices.Repeat[[]int,int] -/
attribute [simp] Tryz.results86
theorem bo_86 {args : List V} {h : Heap} {r : V × Heap} (hr : evK E (om E) 86 [] (Tryz.f86.body.getD .skip) (endK Tryz.prog Tryz.f86.results.toList bodyFin) (args ++ pois (48 - args.length)) h = some r) : bodyV E (om E) 86 args h = some r := bodyV_of (dyn := []) rfl (by rw [E_P]; exact Tryz.func86) (by unfold Tryz.f86; rfl) (by kernel_rfl) (by rw [Tryz.ntmps86]; exact hr)
theorem call_86 (args : List V) (h : Heap) : callV E (om E) 86 args h = (viewArgs h args).bind fun args' => (bodyV E (om E) 86 args' [[]]).bind fun x => if !V.flatL args && !V.own x.2 x.1 then none else some (V.out h.top.length x.1, h.setTop (h.top ++ x.2.top.map (outBlk h.top.length))) := callV_own rfl rfl args h
@[simp] theorem hint_86_0 : E.hint 86 8 = [.forget 34, .forget 35, .forget 36, .forget 37, .forget 38, .forget 39, .forget 40, .forget 41, .forget 42, .forget 43, .forget 44, .forget 45, .forget 46] := rfl

/-! 87: (*playpen/procs.Procs).All -/
attribute [simp] Tryz.results87
theorem pu_87 {lent : Bool} {args : List V} {r : V} (hr : evK E (om E) 87 [] (Tryz.f87.body.getD .skip) (endK Tryz.prog Tryz.f87.results.toList (pureFin lent)) (args ++ pois (4 - args.length)) [[]] = some r) : pureV E (om E) 87 lent args = some r := pureV_of (dyn := []) rfl (by rw [E_P]; exact Tryz.func87) (by unfold Tryz.f87; rfl) (by kernel_rfl) (by rw [Tryz.ntmps87]; exact hr)
@[simp] theorem call_87 (args : List V) (h : Heap) : callV E (om E) 87 args h = (viewArgs h args).bind fun a => (pureV E (om E) 87 (!V.flatL args) a).map fun r => (r, h) := callV_pure rfl rfl args h

/-! 88: (*playpen/flow.graph).walk -/
attribute [simp] Tryz.results88
theorem bo_88 {args : List V} {h : Heap} {r : V × Heap} (hr : evK E (om E) 88 [6] (Tryz.f88.body.getD .skip) (endK Tryz.prog Tryz.f88.results.toList bodyFin) (args ++ pois (109 - args.length)) h = some r) : bodyV E (om E) 88 args h = some r := bodyV_of (dyn := [6]) rfl (by rw [E_P]; exact Tryz.func88) (by unfold Tryz.f88; rfl) (by kernel_rfl) (by rw [Tryz.ntmps88]; exact hr)
theorem he_88 {args : List V} {h : Heap} {r : V × Heap} (hr : evK E (om E) 88 [6] (Tryz.f88.body.getD .skip) (endK Tryz.prog Tryz.f88.results.toList heapFin) (V.upL 1 args ++ pois (109 - (V.upL 1 args).length)) ([] :: h) = some r) : callV E (om E) 88 args h = some r := heap_of (dyn := [6]) rfl rfl rfl (by rw [E_P]; exact Tryz.func88) (by unfold Tryz.f88; rfl) (by kernel_rfl) (by rw [Tryz.ntmps88]; exact hr)
theorem call_88 (args : List V) (h : Heap) : callV E (om E) 88 args h = (bodyV E (om E) 88 (V.upL 1 args) ([] :: h)).bind fun x => (V.freeze [x.2.top] x.1).bind fun r' => some (r', x.2.tail) := callV_heap rfl rfl args h
@[simp] theorem hint_88_0 : E.hint 88 4 = [.forget 13, .forget 14, .forget 15, .forget 17, .forget 24, .forget 25, .forget 26, .forget 27, .forget 28, .forget 29, .forget 30, .forget 31, .forget 32, .forget 33, .forget 34, .forget 35, .forget 36, .forget 37, .forget 38, .forget 39, .forget 40, .forget 41, .forget 42, .forget 43, .forget 44, .forget 45, .forget 46, .forget 47, .forget 48, .forget 49, .forget 50, .forget 51, .forget 52, .forget 53, .forget 54, .forget 55, .forget 56, .forget 57, .forget 58, .forget 59, .forget 60, .forget 61, .forget 62, .forget 63, .forget 64, .forget 65, .forget 66, .forget 67, .forget 68, .forget 69, .forget 70, .forget 71, .forget 72, .forget 73, .forget 74, .forget 75, .forget 76, .forget 77, .forget 78, .forget 79, .forget 80, .forget 81, .forget 82, .forget 83, .forget 84, .forget 85, .forget 86, .forget 87, .forget 88, .forget 89, .forget 90, .forget 91, .forget 92, .forget 93, .forget 94, .forget 95, .forget 96, .forget 97, .forget 98, .forget 99, .forget 100, .forget 101, .forget 102, .forget 103] := rfl
@[simp] theorem hint_88_1 : E.hint 88 16 = [.forget 17, .forget 72, .forget 73, .forget 74, .forget 75, .forget 76, .forget 77, .forget 78, .forget 79, .forget 80, .forget 81, .forget 82, .forget 83, .forget 84, .forget 85, .forget 86, .forget 87, .forget 88, .forget 89, .forget 90, .forget 91, .forget 92, .forget 93, .forget 94, .forget 95, .forget 96, .forget 97, .forget 98, .forget 99, .forget 100, .forget 101, .forget 102, .forget 103] := rfl

/-! 89: (*playpen/procs.Procs).Legal -/
attribute [simp] Tryz.results89
theorem pu_89 {lent : Bool} {args : List V} {r : V} (hr : evK E (om E) 89 [] (Tryz.f89.body.getD .skip) (endK Tryz.prog Tryz.f89.results.toList (pureFin lent)) (args ++ pois (28 - args.length)) [[]] = some r) : pureV E (om E) 89 lent args = some r := pureV_of (dyn := []) rfl (by rw [E_P]; exact Tryz.func89) (by unfold Tryz.f89; rfl) (by kernel_rfl) (by rw [Tryz.ntmps89]; exact hr)
@[simp] theorem call_89 (args : List V) (h : Heap) : callV E (om E) 89 args h = (viewArgs h args).bind fun a => (pureV E (om E) 89 (!V.flatL args) a).map fun r => (r, h) := callV_pure rfl rfl args h

/-! 90: playpen/little.width[uint32] -/
attribute [simp] Tryz.results90
theorem pu_90 {lent : Bool} {args : List V} {r : V} (hr : evK E (om E) 90 [] (Tryz.f90.body.getD .skip) (endK Tryz.prog Tryz.f90.results.toList (pureFin lent)) (args ++ pois (14 - args.length)) [[]] = some r) : pureV E (om E) 90 lent args = some r := pureV_of (dyn := []) rfl (by rw [E_P]; exact Tryz.func90) (by unfold Tryz.f90; rfl) (by kernel_rfl) (by rw [Tryz.ntmps90]; exact hr)
@[simp] theorem call_90 (args : List V) (h : Heap) : callV E (om E) 90 args h = (viewArgs h args).bind fun a => (pureV E (om E) 90 (!V.flatL args) a).map fun r => (r, h) := callV_pure rfl rfl args h
@[simp] theorem hint_90_0 : E.hint 90 3 = [.forget 5, .forget 6, .forget 7, .forget 8, .forget 9, .forget 10, .forget 11, .forget 12] := rfl

/-! 91: playpen/little.width[uint8] -/
attribute [simp] Tryz.results91
theorem pu_91 {lent : Bool} {args : List V} {r : V} (hr : evK E (om E) 91 [] (Tryz.f91.body.getD .skip) (endK Tryz.prog Tryz.f91.results.toList (pureFin lent)) (args ++ pois (14 - args.length)) [[]] = some r) : pureV E (om E) 91 lent args = some r := pureV_of (dyn := []) rfl (by rw [E_P]; exact Tryz.func91) (by unfold Tryz.f91; rfl) (by kernel_rfl) (by rw [Tryz.ntmps91]; exact hr)
@[simp] theorem call_91 (args : List V) (h : Heap) : callV E (om E) 91 args h = (viewArgs h args).bind fun a => (pureV E (om E) 91 (!V.flatL args) a).map fun r => (r, h) := callV_pure rfl rfl args h
@[simp] theorem hint_91_0 : E.hint 91 3 = [.forget 5, .forget 6, .forget 7, .forget 8, .forget 9, .forget 10, .forget 11, .forget 12] := rfl

/-! 92: playpen/little.has[uint32] -/
attribute [simp] Tryz.results92
theorem pu_92 {lent : Bool} {args : List V} {r : V} (hr : evK E (om E) 92 [] (Tryz.f92.body.getD .skip) (endK Tryz.prog Tryz.f92.results.toList (pureFin lent)) (args ++ pois (15 - args.length)) [[]] = some r) : pureV E (om E) 92 lent args = some r := pureV_of (dyn := []) rfl (by rw [E_P]; exact Tryz.func92) (by unfold Tryz.f92; rfl) (by kernel_rfl) (by rw [Tryz.ntmps92]; exact hr)
@[simp] theorem call_92 (args : List V) (h : Heap) : callV E (om E) 92 args h = (viewArgs h args).bind fun a => (pureV E (om E) 92 (!V.flatL args) a).map fun r => (r, h) := callV_pure rfl rfl args h

/-! 93: slices.Clone[[]byte,byte] -/
attribute [simp] Tryz.results93
@[simp] theorem call_93 (args : List V) (h : Heap) : callV E (om E) 93 args h = cloneWL 140737488355328 1 args h := callV_known rfl args h

/-! 94: playpen/image.sized -/
attribute [simp] Tryz.results94
theorem pu_94 {lent : Bool} {args : List V} {r : V} (hr : evK E (om E) 94 [] (Tryz.f94.body.getD .skip) (endK Tryz.prog Tryz.f94.results.toList (pureFin lent)) (args ++ pois (12 - args.length)) [[]] = some r) : pureV E (om E) 94 lent args = some r := pureV_of (dyn := []) rfl (by rw [E_P]; exact Tryz.func94) (by unfold Tryz.f94; rfl) (by kernel_rfl) (by rw [Tryz.ntmps94]; exact hr)
@[simp] theorem call_94 (args : List V) (h : Heap) : callV E (om E) 94 args h = (viewArgs h args).bind fun a => (pureV E (om E) 94 (!V.flatL args) a).map fun r => (r, h) := callV_pure rfl rfl args h

/-! 95: playpen/little.Within -/
attribute [simp] Tryz.results95
theorem pu_95 {lent : Bool} {args : List V} {r : V} (hr : evK E (om E) 95 [] (Tryz.f95.body.getD .skip) (endK Tryz.prog Tryz.f95.results.toList (pureFin lent)) (args ++ pois (10 - args.length)) [[]] = some r) : pureV E (om E) 95 lent args = some r := pureV_of (dyn := []) rfl (by rw [E_P]; exact Tryz.func95) (by unfold Tryz.f95; rfl) (by kernel_rfl) (by rw [Tryz.ntmps95]; exact hr)
@[simp] theorem call_95 (args : List V) (h : Heap) : callV E (om E) 95 args h = (viewArgs h args).bind fun a => (pureV E (om E) 95 (!V.flatL args) a).map fun r => (r, h) := callV_pure rfl rfl args h

/-! 96: playpen/little.Apart -/
attribute [simp] Tryz.results96
theorem pu_96 {lent : Bool} {args : List V} {r : V} (hr : evK E (om E) 96 [] (Tryz.f96.body.getD .skip) (endK Tryz.prog Tryz.f96.results.toList (pureFin lent)) (args ++ pois (32 - args.length)) [[]] = some r) : pureV E (om E) 96 lent args = some r := pureV_of (dyn := []) rfl (by rw [E_P]; exact Tryz.func96) (by unfold Tryz.f96; rfl) (by kernel_rfl) (by rw [Tryz.ntmps96]; exact hr)
@[simp] theorem call_96 (args : List V) (h : Heap) : callV E (om E) 96 args h = (viewArgs h args).bind fun a => (pureV E (om E) 96 (!V.flatL args) a).map fun r => (r, h) := callV_pure rfl rfl args h
@[simp] theorem hint_96_0 : E.hint 96 2 = [.forget 2, .forget 3, .forget 4, .forget 5, .forget 6, .forget 7, .forget 8, .forget 12, .forget 13, .forget 14, .forget 15, .forget 16, .forget 17, .forget 18, .forget 19, .forget 20, .forget 21, .forget 22, .forget 23, .forget 24, .forget 25, .forget 26, .forget 27, .forget 28, .forget 29, .forget 30, .forget 31] := rfl
@[simp] theorem hint_96_1 : E.hint 96 5 = [.forget 2, .forget 3, .forget 4, .forget 7, .forget 8, .forget 21, .forget 22, .forget 23, .forget 24, .forget 25, .forget 26, .forget 27, .forget 28, .forget 29, .forget 30] := rfl

/-! 97: slices.Concat[[]playpen/api.Span,playpen/api.Span] -/
attribute [simp] Tryz.results97
theorem pu_97 {lent : Bool} {args : List V} {r : V} (hr : evK E (om E) 97 [] (Tryz.f97.body.getD .skip) (endK Tryz.prog Tryz.f97.results.toList (pureFin lent)) (args ++ pois (36 - args.length)) [[]] = some r) : pureV E (om E) 97 lent args = some r := pureV_of (dyn := []) rfl (by rw [E_P]; exact Tryz.func97) (by unfold Tryz.f97; rfl) (by kernel_rfl) (by rw [Tryz.ntmps97]; exact hr)
@[simp] theorem call_97 (args : List V) (h : Heap) : callV E (om E) 97 args h = (viewArgs h args).bind fun a => (pureV E (om E) 97 (!V.flatL args) a).map fun r => (r, h) := callV_pure rfl rfl args h
@[simp] theorem hint_97_0 : E.hint 97 3 = [.forget 5, .forget 12, .forget 13, .forget 14, .forget 15, .forget 16, .forget 17, .forget 18, .forget 19, .forget 20, .forget 21, .forget 22] := rfl
@[simp] theorem hint_97_1 : E.hint 97 11 = [.promote 6 2, .forget 8, .forget 28, .forget 29, .forget 30, .forget 31, .forget 32, .forget 33, .forget 34] := rfl

/-! 98: playpen/little.end -/
attribute [simp] Tryz.results98
theorem pu_98 {lent : Bool} {args : List V} {r : V} (hr : evK E (om E) 98 [] (Tryz.f98.body.getD .skip) (endK Tryz.prog Tryz.f98.results.toList (pureFin lent)) (args ++ pois (10 - args.length)) [[]] = some r) : pureV E (om E) 98 lent args = some r := pureV_of (dyn := []) rfl (by rw [E_P]; exact Tryz.func98) (by unfold Tryz.f98; rfl) (by kernel_rfl) (by rw [Tryz.ntmps98]; exact hr)
@[simp] theorem call_98 (args : List V) (h : Heap) : callV E (om E) 98 args h = (viewArgs h args).bind fun a => (pureV E (om E) 98 (!V.flatL args) a).map fun r => (r, h) := callV_pure rfl rfl args h

/-! 99: playpen/isa.through -/
attribute [simp] Tryz.results99
theorem bo_99 {args : List V} {h : Heap} {r : V × Heap} (hr : evK E (om E) 99 [] (Tryz.f99.body.getD .skip) (endK Tryz.prog Tryz.f99.results.toList bodyFin) (args ++ pois (6 - args.length)) h = some r) : bodyV E (om E) 99 args h = some r := bodyV_of (dyn := []) rfl (by rw [E_P]; exact Tryz.func99) (by unfold Tryz.f99; rfl) (by kernel_rfl) (by rw [Tryz.ntmps99]; exact hr)
theorem call_99 (args : List V) (h : Heap) : callV E (om E) 99 args h = (bodyV E (om E) 99 (V.upL 1 args) ([] :: h)).bind fun x => some (V.out (Heap.top x.2.tail).length x.1, Heap.setTop x.2.tail (Heap.top x.2.tail ++ x.2.top.map (outBlk (Heap.top x.2.tail).length))) := callV_live rfl rfl args h

/-! 100: playpen/isa.Decode$1 -/
attribute [simp] Tryz.results100
theorem bo_100 {args : List V} {h : Heap} {r : V × Heap} (hr : evK E (om E) 100 [] (Tryz.f100.body.getD .skip) (endK Tryz.prog Tryz.f100.results.toList bodyFin) (args ++ pois (8 - args.length)) h = some r) : bodyV E (om E) 100 args h = some r := bodyV_of (dyn := []) rfl (by rw [E_P]; exact Tryz.func100) (by unfold Tryz.f100; rfl) (by kernel_rfl) (by rw [Tryz.ntmps100]; exact hr)
theorem he_100 {args : List V} {h : Heap} {r : V × Heap} (hr : evK E (om E) 100 [] (Tryz.f100.body.getD .skip) (endK Tryz.prog Tryz.f100.results.toList heapFin) (V.upL 1 args ++ pois (8 - (V.upL 1 args).length)) ([] :: h) = some r) : callV E (om E) 100 args h = some r := heap_of (dyn := []) rfl rfl rfl (by rw [E_P]; exact Tryz.func100) (by unfold Tryz.f100; rfl) (by kernel_rfl) (by rw [Tryz.ntmps100]; exact hr)
theorem call_100 (args : List V) (h : Heap) : callV E (om E) 100 args h = (bodyV E (om E) 100 (V.upL 1 args) ([] :: h)).bind fun x => (V.freeze [x.2.top] x.1).bind fun r' => some (r', x.2.tail) := callV_heap rfl rfl args h

/-! 101: playpen/little.At[uint32] -/
attribute [simp] Tryz.results101
theorem pu_101 {lent : Bool} {args : List V} {r : V} (hr : evK E (om E) 101 [] (Tryz.f101.body.getD .skip) (endK Tryz.prog Tryz.f101.results.toList (pureFin lent)) (args ++ pois (14 - args.length)) [[]] = some r) : pureV E (om E) 101 lent args = some r := pureV_of (dyn := []) rfl (by rw [E_P]; exact Tryz.func101) (by unfold Tryz.f101; rfl) (by kernel_rfl) (by rw [Tryz.ntmps101]; exact hr)
@[simp] theorem call_101 (args : List V) (h : Heap) : callV E (om E) 101 args h = (viewArgs h args).bind fun a => (pureV E (om E) 101 (!V.flatL args) a).map fun r => (r, h) := callV_pure rfl rfl args h

/-! 102: playpen/little.take[uint32] -/
attribute [simp] Tryz.results102
theorem pu_102 {lent : Bool} {args : List V} {r : V} (hr : evK E (om E) 102 [] (Tryz.f102.body.getD .skip) (endK Tryz.prog Tryz.f102.results.toList (pureFin lent)) (args ++ pois (22 - args.length)) [[]] = some r) : pureV E (om E) 102 lent args = some r := pureV_of (dyn := []) rfl (by rw [E_P]; exact Tryz.func102) (by unfold Tryz.f102; rfl) (by kernel_rfl) (by rw [Tryz.ntmps102]; exact hr)
@[simp] theorem call_102 (args : List V) (h : Heap) : callV E (om E) 102 args h = (viewArgs h args).bind fun a => (pureV E (om E) 102 (!V.flatL args) a).map fun r => (r, h) := callV_pure rfl rfl args h
@[simp] theorem hint_102_0 : E.hint 102 3 = [.forget 4, .forget 7, .forget 8, .forget 9, .forget 10, .forget 11, .forget 12, .forget 13, .forget 14, .forget 15, .forget 16, .forget 17, .forget 18, .forget 19] := rfl

/-! 103: math/bits.Mul -/
attribute [simp] Tryz.results103
theorem pu_103 {lent : Bool} {args : List V} {r : V} (hr : evK E (om E) 103 [] (Tryz.f103.body.getD .skip) (endK Tryz.prog Tryz.f103.results.toList (pureFin lent)) (args ++ pois (30 - args.length)) [[]] = some r) : pureV E (om E) 103 lent args = some r := pureV_of (dyn := []) rfl (by rw [E_P]; exact Tryz.func103) (by unfold Tryz.f103; rfl) (by kernel_rfl) (by rw [Tryz.ntmps103]; exact hr)
@[simp] theorem call_103 (args : List V) (h : Heap) : callV E (om E) 103 args h = (viewArgs h args).bind fun a => (pureV E (om E) 103 (!V.flatL args) a).map fun r => (r, h) := callV_pure rfl rfl args h

/-! 104: (*playpen/procs.Procs).All$1 -/
attribute [simp] Tryz.results104
theorem bo_104 {args : List V} {h : Heap} {r : V × Heap} (hr : evK E (om E) 104 [] (Tryz.f104.body.getD .skip) (endK Tryz.prog Tryz.f104.results.toList bodyFin) (args ++ pois (23 - args.length)) h = some r) : bodyV E (om E) 104 args h = some r := bodyV_of (dyn := []) rfl (by rw [E_P]; exact Tryz.func104) (by unfold Tryz.f104; rfl) (by kernel_rfl) (by rw [Tryz.ntmps104]; exact hr)
theorem he_104 {args : List V} {h : Heap} {r : V × Heap} (hr : evK E (om E) 104 [] (Tryz.f104.body.getD .skip) (endK Tryz.prog Tryz.f104.results.toList heapFin) (V.upL 1 args ++ pois (23 - (V.upL 1 args).length)) ([] :: h) = some r) : callV E (om E) 104 args h = some r := heap_of (dyn := []) rfl rfl rfl (by rw [E_P]; exact Tryz.func104) (by unfold Tryz.f104; rfl) (by kernel_rfl) (by rw [Tryz.ntmps104]; exact hr)
theorem call_104 (args : List V) (h : Heap) : callV E (om E) 104 args h = (bodyV E (om E) 104 (V.upL 1 args) ([] :: h)).bind fun x => (V.freeze [x.2.top] x.1).bind fun r' => some (r', x.2.tail) := callV_heap rfl rfl args h
@[simp] theorem hint_104_0 : E.hint 104 2 = [.forget 3, .forget 4, .forget 13, .forget 14, .forget 15, .forget 16, .forget 17, .forget 18, .forget 19, .forget 20, .forget 21, .forget 22] := rfl

/-! 105: (playpen/flow.indices).Len -/
attribute [simp] Tryz.results105
theorem pu_105 {lent : Bool} {args : List V} {r : V} (hr : evK E (om E) 105 [] (Tryz.f105.body.getD .skip) (endK Tryz.prog Tryz.f105.results.toList (pureFin lent)) (args ++ pois (5 - args.length)) [[]] = some r) : pureV E (om E) 105 lent args = some r := pureV_of (dyn := []) rfl (by rw [E_P]; exact Tryz.func105) (by unfold Tryz.f105; rfl) (by kernel_rfl) (by rw [Tryz.ntmps105]; exact hr)
@[simp] theorem call_105 (args : List V) (h : Heap) : callV E (om E) 105 args h = (viewArgs h args).bind fun a => (pureV E (om E) 105 (!V.flatL args) a).map fun r => (r, h) := callV_pure rfl rfl args h

/-! 106: container/heap.Pop -/
attribute [simp] Tryz.results106
theorem bo_106 {args : List V} {h : Heap} {r : V × Heap} (hr : evK E (om E) 106 [] (Tryz.f106.body.getD .skip) (endK Tryz.prog Tryz.f106.results.toList bodyFin) (args ++ pois (15 - args.length)) h = some r) : bodyV E (om E) 106 args h = some r := bodyV_of (dyn := []) rfl (by rw [E_P]; exact Tryz.func106) (by unfold Tryz.f106; rfl) (by kernel_rfl) (by rw [Tryz.ntmps106]; exact hr)
theorem he_106 {args : List V} {h : Heap} {r : V × Heap} (hr : evK E (om E) 106 [] (Tryz.f106.body.getD .skip) (endK Tryz.prog Tryz.f106.results.toList heapFin) (V.upL 1 args ++ pois (15 - (V.upL 1 args).length)) ([] :: h) = some r) : callV E (om E) 106 args h = some r := heap_of (dyn := []) rfl rfl rfl (by rw [E_P]; exact Tryz.func106) (by unfold Tryz.f106; rfl) (by kernel_rfl) (by rw [Tryz.ntmps106]; exact hr)
theorem call_106 (args : List V) (h : Heap) : callV E (om E) 106 args h = (bodyV E (om E) 106 (V.upL 1 args) ([] :: h)).bind fun x => (V.freeze [x.2.top] x.1).bind fun r' => some (r', x.2.tail) := callV_heap rfl rfl args h

/-! 107: (*playpen/flow.graph).info -/
attribute [simp] Tryz.results107
theorem pu_107 {lent : Bool} {args : List V} {r : V} (hr : evK E (om E) 107 [] (Tryz.f107.body.getD .skip) (endK Tryz.prog Tryz.f107.results.toList (pureFin lent)) (args ++ pois (20 - args.length)) [[]] = some r) : pureV E (om E) 107 lent args = some r := pureV_of (dyn := []) rfl (by rw [E_P]; exact Tryz.func107) (by unfold Tryz.f107; rfl) (by kernel_rfl) (by rw [Tryz.ntmps107]; exact hr)
@[simp] theorem call_107 (args : List V) (h : Heap) : callV E (om E) 107 args h = (viewArgs h args).bind fun a => (pureV E (om E) 107 (!V.flatL args) a).map fun r => (r, h) := callV_pure rfl rfl args h

/-! 108: (*playpen/flow.graph).next -/
attribute [simp] Tryz.results108
theorem pu_108 {lent : Bool} {args : List V} {r : V} (hr : evK E (om E) 108 [] (Tryz.f108.body.getD .skip) (endK Tryz.prog Tryz.f108.results.toList (pureFin lent)) (args ++ pois (58 - args.length)) [[]] = some r) : pureV E (om E) 108 lent args = some r := pureV_of (dyn := []) rfl (by rw [E_P]; exact Tryz.func108) (by unfold Tryz.f108; rfl) (by kernel_rfl) (by rw [Tryz.ntmps108]; exact hr)
@[simp] theorem call_108 (args : List V) (h : Heap) : callV E (om E) 108 args h = (viewArgs h args).bind fun a => (pureV E (om E) 108 (!V.flatL args) a).map fun r => (r, h) := callV_pure rfl rfl args h

/-! 109: container/heap.Push -/
attribute [simp] Tryz.results109
theorem bo_109 {args : List V} {h : Heap} {r : V × Heap} (hr : evK E (om E) 109 [] (Tryz.f109.body.getD .skip) (endK Tryz.prog Tryz.f109.results.toList bodyFin) (args ++ pois (12 - args.length)) h = some r) : bodyV E (om E) 109 args h = some r := bodyV_of (dyn := []) rfl (by rw [E_P]; exact Tryz.func109) (by unfold Tryz.f109; rfl) (by kernel_rfl) (by rw [Tryz.ntmps109]; exact hr)
theorem he_109 {args : List V} {h : Heap} {r : V × Heap} (hr : evK E (om E) 109 [] (Tryz.f109.body.getD .skip) (endK Tryz.prog Tryz.f109.results.toList heapFin) (V.upL 1 args ++ pois (12 - (V.upL 1 args).length)) ([] :: h) = some r) : callV E (om E) 109 args h = some r := heap_of (dyn := []) rfl rfl rfl (by rw [E_P]; exact Tryz.func109) (by unfold Tryz.f109; rfl) (by kernel_rfl) (by rw [Tryz.ntmps109]; exact hr)
theorem call_109 (args : List V) (h : Heap) : callV E (om E) 109 args h = (bodyV E (om E) 109 (V.upL 1 args) ([] :: h)).bind fun x => (V.freeze [x.2.top] x.1).bind fun r' => some (r', x.2.tail) := callV_heap rfl rfl args h

/-! 110: slices.BinarySearch[[]uint32,uint32] -/
attribute [simp] Tryz.results110
theorem pu_110 {lent : Bool} {args : List V} {r : V} (hr : evK E (om E) 110 [] (Tryz.f110.body.getD .skip) (endK Tryz.prog Tryz.f110.results.toList (pureFin lent)) (args ++ pois (54 - args.length)) [[]] = some r) : pureV E (om E) 110 lent args = some r := pureV_of (dyn := []) rfl (by rw [E_P]; exact Tryz.func110) (by unfold Tryz.f110; rfl) (by kernel_rfl) (by rw [Tryz.ntmps110]; exact hr)
@[simp] theorem call_110 (args : List V) (h : Heap) : callV E (om E) 110 args h = (viewArgs h args).bind fun a => (pureV E (om E) 110 (!V.flatL args) a).map fun r => (r, h) := callV_pure rfl rfl args h
@[simp] theorem hint_110_0 : E.hint 110 3 = [.forget 9, .forget 13, .forget 14, .forget 15, .forget 16, .forget 17, .forget 18, .forget 19, .forget 20, .forget 21, .forget 22, .forget 23, .forget 24, .forget 25, .forget 26, .forget 27, .forget 28, .forget 29, .forget 30] := rfl

/-! 111: playpen/little.Lap -/
attribute [simp] Tryz.results111
theorem pu_111 {lent : Bool} {args : List V} {r : V} (hr : evK E (om E) 111 [] (Tryz.f111.body.getD .skip) (endK Tryz.prog Tryz.f111.results.toList (pureFin lent)) (args ++ pois (29 - args.length)) [[]] = some r) : pureV E (om E) 111 lent args = some r := pureV_of (dyn := []) rfl (by rw [E_P]; exact Tryz.func111) (by unfold Tryz.f111; rfl) (by kernel_rfl) (by rw [Tryz.ntmps111]; exact hr)
@[simp] theorem call_111 (args : List V) (h : Heap) : callV E (om E) 111 args h = (viewArgs h args).bind fun a => (pureV E (om E) 111 (!V.flatL args) a).map fun r => (r, h) := callV_pure rfl rfl args h

/-! 112: slices.Grow[[]playpen/api.Span,playpen/api.Span] -/
attribute [simp] Tryz.results112
theorem bo_112 {args : List V} {h : Heap} {r : V × Heap} (hr : evK E (om E) 112 [] (Tryz.f112.body.getD .skip) (endK Tryz.prog Tryz.f112.results.toList bodyFin) (args ++ pois (27 - args.length)) h = some r) : bodyV E (om E) 112 args h = some r := bodyV_of (dyn := []) rfl (by rw [E_P]; exact Tryz.func112) (by unfold Tryz.f112; rfl) (by kernel_rfl) (by rw [Tryz.ntmps112]; exact hr)
theorem call_112 (args : List V) (h : Heap) : callV E (om E) 112 args h = (bodyV E (om E) 112 (V.upL 1 args) ([] :: h)).bind fun x => some (V.out (Heap.top x.2.tail).length x.1, Heap.setTop x.2.tail (Heap.top x.2.tail ++ x.2.top.map (outBlk (Heap.top x.2.tail).length))) := callV_live rfl rfl args h

/-! 113: playpen/isa.through$1 -/
attribute [simp] Tryz.results113
theorem bo_113 {args : List V} {h : Heap} {r : V × Heap} (hr : evK E (om E) 113 [] (Tryz.f113.body.getD .skip) (endK Tryz.prog Tryz.f113.results.toList bodyFin) (args ++ pois (43 - args.length)) h = some r) : bodyV E (om E) 113 args h = some r := bodyV_of (dyn := []) rfl (by rw [E_P]; exact Tryz.func113) (by unfold Tryz.f113; rfl) (by kernel_rfl) (by rw [Tryz.ntmps113]; exact hr)
theorem he_113 {args : List V} {h : Heap} {r : V × Heap} (hr : evK E (om E) 113 [] (Tryz.f113.body.getD .skip) (endK Tryz.prog Tryz.f113.results.toList heapFin) (V.upL 1 args ++ pois (43 - (V.upL 1 args).length)) ([] :: h) = some r) : callV E (om E) 113 args h = some r := heap_of (dyn := []) rfl rfl rfl (by rw [E_P]; exact Tryz.func113) (by unfold Tryz.f113; rfl) (by kernel_rfl) (by rw [Tryz.ntmps113]; exact hr)
theorem call_113 (args : List V) (h : Heap) : callV E (om E) 113 args h = (bodyV E (om E) 113 (V.upL 1 args) ([] :: h)).bind fun x => (V.freeze [x.2.top] x.1).bind fun r' => some (r', x.2.tail) := callV_heap rfl rfl args h
@[simp] theorem hint_113_0 : E.hint 113 2 = [.forget 6, .forget 7, .forget 8, .forget 9, .forget 10, .forget 11, .forget 12, .forget 13, .forget 14, .forget 15, .forget 16, .forget 17, .forget 18, .forget 19, .forget 20, .forget 21, .forget 22, .forget 23, .forget 24, .forget 25, .forget 26, .forget 27, .forget 28, .forget 29, .forget 30, .forget 31, .forget 32, .forget 33, .forget 34, .forget 35, .forget 36, .forget 37, .forget 38, .forget 39, .forget 40] := rfl

/-! 114: playpen/isa.read -/
attribute [simp] Tryz.results114
theorem pu_114 {lent : Bool} {args : List V} {r : V} (hr : evK E (om E) 114 [13] (Tryz.f114.body.getD .skip) (endK Tryz.prog Tryz.f114.results.toList (pureFin lent)) (args ++ pois (64 - args.length)) [[]] = some r) : pureV E (om E) 114 lent args = some r := pureV_of (dyn := [13]) rfl (by rw [E_P]; exact Tryz.func114) (by unfold Tryz.f114; rfl) (by kernel_rfl) (by rw [Tryz.ntmps114]; exact hr)
@[simp] theorem call_114 (args : List V) (h : Heap) : callV E (om E) 114 args h = (viewArgs h args).bind fun a => (pureV E (om E) 114 (!V.flatL args) a).map fun r => (r, h) := callV_pure rfl rfl args h
@[simp] theorem hint_114_0 : E.hint 114 8 = [.forget 38, .forget 39, .forget 40, .forget 41, .forget 42, .forget 43, .forget 44, .forget 45, .forget 46, .forget 47, .forget 48, .forget 49, .forget 50, .forget 51, .forget 52, .forget 53] := rfl

/-! 115: math/bits.Mul32 -/
attribute [simp] Tryz.results115
theorem pu_115 {lent : Bool} {args : List V} {r : V} (hr : evK E (om E) 115 [] (Tryz.f115.body.getD .skip) (endK Tryz.prog Tryz.f115.results.toList (pureFin lent)) (args ++ pois (17 - args.length)) [[]] = some r) : pureV E (om E) 115 lent args = some r := pureV_of (dyn := []) rfl (by rw [E_P]; exact Tryz.func115) (by unfold Tryz.f115; rfl) (by kernel_rfl) (by rw [Tryz.ntmps115]; exact hr)
@[simp] theorem call_115 (args : List V) (h : Heap) : callV E (om E) 115 args h = (viewArgs h args).bind fun a => (pureV E (om E) 115 (!V.flatL args) a).map fun r => (r, h) := callV_pure rfl rfl args h

/-! 116: math/bits.Mul64 -/
attribute [simp] Tryz.results116
theorem pu_116 {lent : Bool} {args : List V} {r : V} (hr : evK E (om E) 116 [] (Tryz.f116.body.getD .skip) (endK Tryz.prog Tryz.f116.results.toList (pureFin lent)) (args ++ pois (51 - args.length)) [[]] = some r) : pureV E (om E) 116 lent args = some r := pureV_of (dyn := []) rfl (by rw [E_P]; exact Tryz.func116) (by unfold Tryz.f116; rfl) (by kernel_rfl) (by rw [Tryz.ntmps116]; exact hr)
@[simp] theorem call_116 (args : List V) (h : Heap) : callV E (om E) 116 args h = (viewArgs h args).bind fun a => (pureV E (om E) 116 (!V.flatL args) a).map fun r => (r, h) := callV_pure rfl rfl args h

/-! 117: container/heap.down -/
attribute [simp] Tryz.results117
theorem bo_117 {args : List V} {h : Heap} {r : V × Heap} (hr : evK E (om E) 117 [] (Tryz.f117.body.getD .skip) (endK Tryz.prog Tryz.f117.results.toList bodyFin) (args ++ pois (48 - args.length)) h = some r) : bodyV E (om E) 117 args h = some r := bodyV_of (dyn := []) rfl (by rw [E_P]; exact Tryz.func117) (by unfold Tryz.f117; rfl) (by kernel_rfl) (by rw [Tryz.ntmps117]; exact hr)
theorem he_117 {args : List V} {h : Heap} {r : V × Heap} (hr : evK E (om E) 117 [] (Tryz.f117.body.getD .skip) (endK Tryz.prog Tryz.f117.results.toList heapFin) (V.upL 1 args ++ pois (48 - (V.upL 1 args).length)) ([] :: h) = some r) : callV E (om E) 117 args h = some r := heap_of (dyn := []) rfl rfl rfl (by rw [E_P]; exact Tryz.func117) (by unfold Tryz.f117; rfl) (by kernel_rfl) (by rw [Tryz.ntmps117]; exact hr)
theorem call_117 (args : List V) (h : Heap) : callV E (om E) 117 args h = (bodyV E (om E) 117 (V.upL 1 args) ([] :: h)).bind fun x => (V.freeze [x.2.top] x.1).bind fun r' => some (r', x.2.tail) := callV_heap rfl rfl args h
@[simp] theorem hint_117_0 : E.hint 117 2 = [.forget 8, .forget 9, .forget 10, .forget 12, .forget 13, .forget 14, .forget 15, .forget 16, .forget 17, .forget 18, .forget 19, .forget 20, .forget 21, .forget 22, .forget 23, .forget 24, .forget 25, .forget 26, .forget 27, .forget 28, .forget 29, .forget 30, .forget 31, .forget 32, .forget 33, .forget 34, .forget 35, .forget 36, .forget 37, .forget 38, .forget 39, .forget 40, .forget 41, .forget 42, .forget 43, .forget 44] := rfl

/-! 118: slices.Compact[[]uint32,uint32] -/
attribute [simp] Tryz.results118
theorem bo_118 {args : List V} {h : Heap} {r : V × Heap} (hr : evK E (om E) 118 [] (Tryz.f118.body.getD .skip) (endK Tryz.prog Tryz.f118.results.toList bodyFin) (args ++ pois (61 - args.length)) h = some r) : bodyV E (om E) 118 args h = some r := bodyV_of (dyn := []) rfl (by rw [E_P]; exact Tryz.func118) (by unfold Tryz.f118; rfl) (by kernel_rfl) (by rw [Tryz.ntmps118]; exact hr)
theorem he_118 {args : List V} {h : Heap} {r : V × Heap} (hr : evK E (om E) 118 [] (Tryz.f118.body.getD .skip) (endK Tryz.prog Tryz.f118.results.toList heapFin) (V.upL 1 args ++ pois (61 - (V.upL 1 args).length)) ([] :: h) = some r) : callV E (om E) 118 args h = some r := heap_of (dyn := []) rfl rfl rfl (by rw [E_P]; exact Tryz.func118) (by unfold Tryz.f118; rfl) (by kernel_rfl) (by rw [Tryz.ntmps118]; exact hr)
theorem call_118 (args : List V) (h : Heap) : callV E (om E) 118 args h = (bodyV E (om E) 118 (V.upL 1 args) ([] :: h)).bind fun x => (V.freeze [x.2.top] x.1).bind fun r' => some (r', x.2.tail) := callV_heap rfl rfl args h
@[simp] theorem hint_118_0 : E.hint 118 4 = [.forget 2, .forget 4, .forget 5, .forget 10, .forget 11, .forget 12, .forget 13, .forget 14, .forget 15, .forget 16, .forget 17, .forget 18, .forget 19, .forget 20, .forget 21, .forget 22, .forget 23, .forget 24, .forget 25, .forget 26, .forget 27, .forget 28, .forget 29, .forget 30, .forget 31, .forget 32, .forget 33, .forget 34, .forget 35, .forget 36, .forget 37, .forget 38, .forget 39, .forget 40, .forget 41, .forget 42, .forget 43, .forget 44, .forget 45, .forget 46, .forget 47, .forget 48, .forget 49, .forget 50, .forget 51, .forget 52, .forget 53, .forget 54, .forget 55, .forget 56, .forget 57, .forget 58, .forget 59] := rfl
@[simp] theorem hint_118_1 : E.hint 118 9 = [.forget 29, .forget 30, .forget 31, .forget 32, .forget 33, .forget 34, .forget 35, .forget 36, .forget 37, .forget 38, .forget 39, .forget 40, .forget 41, .forget 42, .forget 43, .forget 44, .forget 45, .forget 46, .forget 47, .forget 48, .forget 49, .forget 50, .forget 51, .forget 52, .forget 53] := rfl

/-! 119: (*playpen/procs.Procs).Targets -/
attribute [simp] Tryz.results119
theorem pu_119 {lent : Bool} {args : List V} {r : V} (hr : evK E (om E) 119 [] (Tryz.f119.body.getD .skip) (endK Tryz.prog Tryz.f119.results.toList (pureFin lent)) (args ++ pois (23 - args.length)) [[]] = some r) : pureV E (om E) 119 lent args = some r := pureV_of (dyn := []) rfl (by rw [E_P]; exact Tryz.func119) (by unfold Tryz.f119; rfl) (by kernel_rfl) (by rw [Tryz.ntmps119]; exact hr)
@[simp] theorem call_119 (args : List V) (h : Heap) : callV E (om E) 119 args h = (viewArgs h args).bind fun a => (pureV E (om E) 119 (!V.flatL args) a).map fun r => (r, h) := callV_pure rfl rfl args h

/-! 120: container/heap.up -/
attribute [simp] Tryz.results120
theorem bo_120 {args : List V} {h : Heap} {r : V × Heap} (hr : evK E (om E) 120 [] (Tryz.f120.body.getD .skip) (endK Tryz.prog Tryz.f120.results.toList bodyFin) (args ++ pois (23 - args.length)) h = some r) : bodyV E (om E) 120 args h = some r := bodyV_of (dyn := []) rfl (by rw [E_P]; exact Tryz.func120) (by unfold Tryz.f120; rfl) (by kernel_rfl) (by rw [Tryz.ntmps120]; exact hr)
theorem he_120 {args : List V} {h : Heap} {r : V × Heap} (hr : evK E (om E) 120 [] (Tryz.f120.body.getD .skip) (endK Tryz.prog Tryz.f120.results.toList heapFin) (V.upL 1 args ++ pois (23 - (V.upL 1 args).length)) ([] :: h) = some r) : callV E (om E) 120 args h = some r := heap_of (dyn := []) rfl rfl rfl (by rw [E_P]; exact Tryz.func120) (by unfold Tryz.f120; rfl) (by kernel_rfl) (by rw [Tryz.ntmps120]; exact hr)
theorem call_120 (args : List V) (h : Heap) : callV E (om E) 120 args h = (bodyV E (om E) 120 (V.upL 1 args) ([] :: h)).bind fun x => (V.freeze [x.2.top] x.1).bind fun r' => some (r', x.2.tail) := callV_heap rfl rfl args h
@[simp] theorem hint_120_0 : E.hint 120 0 = [.forget 4, .forget 5, .forget 6, .forget 7, .forget 8, .forget 9, .forget 10, .forget 11, .forget 12, .forget 13, .forget 14, .forget 15, .forget 16, .forget 17, .forget 18, .forget 19, .forget 20, .forget 21, .forget 22] := rfl

/-! 121: cmp.Less[uint32] -/
attribute [simp] Tryz.results121
theorem pu_121 {lent : Bool} {args : List V} {r : V} (hr : evK E (om E) 121 [] (Tryz.f121.body.getD .skip) (endK Tryz.prog Tryz.f121.results.toList (pureFin lent)) (args ++ pois (17 - args.length)) [[]] = some r) : pureV E (om E) 121 lent args = some r := pureV_of (dyn := []) rfl (by rw [E_P]; exact Tryz.func121) (by unfold Tryz.f121; rfl) (by kernel_rfl) (by rw [Tryz.ntmps121]; exact hr)
@[simp] theorem call_121 (args : List V) (h : Heap) : callV E (om E) 121 args h = (viewArgs h args).bind fun a => (pureV E (om E) 121 (!V.flatL args) a).map fun r => (r, h) := callV_pure rfl rfl args h

/-! 122: slices.isNaN[uint32] -/
attribute [simp] Tryz.results122
theorem pu_122 {lent : Bool} {args : List V} {r : V} (hr : evK E (om E) 122 [] (Tryz.f122.body.getD .skip) (endK Tryz.prog Tryz.f122.results.toList (pureFin lent)) (args ++ pois (6 - args.length)) [[]] = some r) : pureV E (om E) 122 lent args = some r := pureV_of (dyn := []) rfl (by rw [E_P]; exact Tryz.func122) (by unfold Tryz.f122; rfl) (by kernel_rfl) (by rw [Tryz.ntmps122]; exact hr)
@[simp] theorem call_122 (args : List V) (h : Heap) : callV E (om E) 122 args h = (viewArgs h args).bind fun a => (pureV E (om E) 122 (!V.flatL args) a).map fun r => (r, h) := callV_pure rfl rfl args h

/-! 123: cmp.isNaN[uint32] -/
attribute [simp] Tryz.results123
theorem pu_123 {lent : Bool} {args : List V} {r : V} (hr : evK E (om E) 123 [] (Tryz.f123.body.getD .skip) (endK Tryz.prog Tryz.f123.results.toList (pureFin lent)) (args ++ pois (6 - args.length)) [[]] = some r) : pureV E (om E) 123 lent args = some r := pureV_of (dyn := []) rfl (by rw [E_P]; exact Tryz.func123) (by unfold Tryz.f123; rfl) (by kernel_rfl) (by rw [Tryz.ntmps123]; exact hr)
@[simp] theorem call_123 (args : List V) (h : Heap) : callV E (om E) 123 args h = (viewArgs h args).bind fun a => (pureV E (om E) 123 (!V.flatL args) a).map fun r => (r, h) := callV_pure rfl rfl args h

/-! 143: (playpen/flow.indices).Less -/
attribute [simp] Tryz.results143
theorem pu_143 {lent : Bool} {args : List V} {r : V} (hr : evK E (om E) 143 [] (Tryz.f143.body.getD .skip) (endK Tryz.prog Tryz.f143.results.toList (pureFin lent)) (args ++ pois (16 - args.length)) [[]] = some r) : pureV E (om E) 143 lent args = some r := pureV_of (dyn := []) rfl (by rw [E_P]; exact Tryz.func143) (by unfold Tryz.f143; rfl) (by kernel_rfl) (by rw [Tryz.ntmps143]; exact hr)
@[simp] theorem call_143 (args : List V) (h : Heap) : callV E (om E) 143 args h = (viewArgs h args).bind fun a => (pureV E (om E) 143 (!V.flatL args) a).map fun r => (r, h) := callV_pure rfl rfl args h

/-! 144: (*playpen/flow.indices).Pop -/
attribute [simp] Tryz.results144
theorem bo_144 {args : List V} {h : Heap} {r : V × Heap} (hr : evK E (om E) 144 [] (Tryz.f144.body.getD .skip) (endK Tryz.prog Tryz.f144.results.toList bodyFin) (args ++ pois (27 - args.length)) h = some r) : bodyV E (om E) 144 args h = some r := bodyV_of (dyn := []) rfl (by rw [E_P]; exact Tryz.func144) (by unfold Tryz.f144; rfl) (by kernel_rfl) (by rw [Tryz.ntmps144]; exact hr)
theorem he_144 {args : List V} {h : Heap} {r : V × Heap} (hr : evK E (om E) 144 [] (Tryz.f144.body.getD .skip) (endK Tryz.prog Tryz.f144.results.toList heapFin) (V.upL 1 args ++ pois (27 - (V.upL 1 args).length)) ([] :: h) = some r) : callV E (om E) 144 args h = some r := heap_of (dyn := []) rfl rfl rfl (by rw [E_P]; exact Tryz.func144) (by unfold Tryz.f144; rfl) (by kernel_rfl) (by rw [Tryz.ntmps144]; exact hr)
theorem call_144 (args : List V) (h : Heap) : callV E (om E) 144 args h = (bodyV E (om E) 144 (V.upL 1 args) ([] :: h)).bind fun x => (V.freeze [x.2.top] x.1).bind fun r' => some (r', x.2.tail) := callV_heap rfl rfl args h

/-! 145: (*playpen/flow.indices).Push -/
attribute [simp] Tryz.results145
theorem bo_145 {args : List V} {h : Heap} {r : V × Heap} (hr : evK E (om E) 145 [] (Tryz.f145.body.getD .skip) (endK Tryz.prog Tryz.f145.results.toList bodyFin) (args ++ pois (13 - args.length)) h = some r) : bodyV E (om E) 145 args h = some r := bodyV_of (dyn := []) rfl (by rw [E_P]; exact Tryz.func145) (by unfold Tryz.f145; rfl) (by kernel_rfl) (by rw [Tryz.ntmps145]; exact hr)
theorem he_145 {args : List V} {h : Heap} {r : V × Heap} (hr : evK E (om E) 145 [] (Tryz.f145.body.getD .skip) (endK Tryz.prog Tryz.f145.results.toList heapFin) (V.upL 1 args ++ pois (13 - (V.upL 1 args).length)) ([] :: h) = some r) : callV E (om E) 145 args h = some r := heap_of (dyn := []) rfl rfl rfl (by rw [E_P]; exact Tryz.func145) (by unfold Tryz.f145; rfl) (by kernel_rfl) (by rw [Tryz.ntmps145]; exact hr)
theorem call_145 (args : List V) (h : Heap) : callV E (om E) 145 args h = (bodyV E (om E) 145 (V.upL 1 args) ([] :: h)).bind fun x => (V.freeze [x.2.top] x.1).bind fun r' => some (r', x.2.tail) := callV_heap rfl rfl args h

/-! 146: (playpen/flow.indices).Swap -/
attribute [simp] Tryz.results146
theorem bo_146 {args : List V} {h : Heap} {r : V × Heap} (hr : evK E (om E) 146 [] (Tryz.f146.body.getD .skip) (endK Tryz.prog Tryz.f146.results.toList bodyFin) (args ++ pois (20 - args.length)) h = some r) : bodyV E (om E) 146 args h = some r := bodyV_of (dyn := []) rfl (by rw [E_P]; exact Tryz.func146) (by unfold Tryz.f146; rfl) (by kernel_rfl) (by rw [Tryz.ntmps146]; exact hr)
theorem he_146 {args : List V} {h : Heap} {r : V × Heap} (hr : evK E (om E) 146 [] (Tryz.f146.body.getD .skip) (endK Tryz.prog Tryz.f146.results.toList heapFin) (V.upL 1 args ++ pois (20 - (V.upL 1 args).length)) ([] :: h) = some r) : callV E (om E) 146 args h = some r := heap_of (dyn := []) rfl rfl rfl (by rw [E_P]; exact Tryz.func146) (by unfold Tryz.f146; rfl) (by kernel_rfl) (by rw [Tryz.ntmps146]; exact hr)
theorem call_146 (args : List V) (h : Heap) : callV E (om E) 146 args h = (bodyV E (om E) 146 (V.upL 1 args) ([] :: h)).bind fun x => (V.freeze [x.2.top] x.1).bind fun r' => some (r', x.2.tail) := callV_heap rfl rfl args h
end Go.Proofs.YtnojknodojjnnaaGreat
end
section
namespace Go.Proofs.YtnojknodojjnnaaGreat
open Go Go.Sim
set_option maxRecDepth 100000
set_option linter.unusedVariables false
set_option linter.unusedSimpArgs false

theorem fnOk : FnOk E (fun _ => true) where
  frame := by
    intro g F hg hF
    exact absurd hg Bool.false_ne_true
  good := by
    have h : (Tryz.prog.funcs.toList.all fun fn => match fn.body with | none => true | some c => goodCode (fun _ => true) c && !(fn.name == "runtime.NumGoroutine")) = true := by kernel_rfl
    intro f fn c hf h1 h2
    rw [E_P] at h1
    have := List.all_eq_true.1 h fn (Array.mem_toList_iff.2 (Array.mem_of_getElem? h1))
    rw [h2] at this
    simpa using this
theorem eqOk : EqOk E := by
  have h : (E.eqTypes.all fun t => !Tryz.prog.stoodInHeld t && !Tryz.prog.eqGuardType Tryz.prog.depth t) = true := by kernel_rfl
  intro t ht
  have := List.all_eq_true.1 h t (by simpa using ht)
  simpa using this
theorem knownOk : KnownOk E (fun _ => true) := by
  intro f F hF
  change knownT f = some F at hF
  unfold knownT at hF
  split at hF
  · obtain rfl := (Option.some.inj hF).symm
    exact known_50
  · obtain rfl := (Option.some.inj hF).symm
    exact known_51
  · obtain rfl := (Option.some.inj hF).symm
    exact known_52
  · obtain rfl := (Option.some.inj hF).symm
    exact known_53
  · obtain rfl := (Option.some.inj hF).symm
    exact known_93
  · cases hF
theorem knownIn : KnownIn E := by
  intro f F hF
  change knownT f = some F at hF
  unfold knownT at hF
  split at hF
  · exact ⟨Tryz.f50, Tryz.f50.body.getD .skip, Tryz.func50, by kernel_rfl, by simp [Tryz.f50]⟩
  · exact ⟨Tryz.f51, Tryz.f51.body.getD .skip, Tryz.func51, by kernel_rfl, by simp [Tryz.f51]⟩
  · exact ⟨Tryz.f52, Tryz.f52.body.getD .skip, Tryz.func52, by kernel_rfl, by simp [Tryz.f52]⟩
  · exact ⟨Tryz.f53, Tryz.f53.body.getD .skip, Tryz.func53, by kernel_rfl, by simp [Tryz.f53]⟩
  · exact ⟨Tryz.f93, Tryz.f93.body.getD .skip, Tryz.func93, by kernel_rfl, by simp [Tryz.f93]⟩
  · cases hF
end Go.Proofs.YtnojknodojjnnaaGreat
end
