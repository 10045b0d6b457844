/-
  The machine's settings over this seat's program. Printed by program.
  What the machine of values takes for known is so; what it asks of the program's functions. Printed by program.
-/
import Derived.Test.YtpfodignhibjgaaNa
section
namespace Go.Proofs.Ytpfodignhibjgaa
open Go Go.Sim
set_option maxRecDepth 100000
set_option linter.unusedVariables false
set_option linter.unusedSimpArgs false
def modeT (f : Nat) : Sim.Mode :=
  match f with
  | 49 => .heap
  | 51 => .heap
  | 58 => .heap
  | 57 => .heap
  | 78 => .heap
  | 79 => .heap
  | 80 => .heap
  | 48 => .pure
  | 77 => .pure
  | 35 => .heap
  | 53 => .heap
  | 34 => .own
  | 22 => .live
  | 24 => .inl
  | 41 => .heap
  | 45 => .heap
  | 30 => .heap
  | 46 => .heap
  | 52 => .heap
  | 20 => .own
  | 7 => .own
  | _ => .pure
def hintT (f r : Nat) : List Hint :=
  match f, r with
  | 3, 11 => [.promote 10 2, .forget 59, .forget 60, .forget 61, .forget 62, .forget 63, .forget 64, .forget 65, .forget 66, .forget 67, .forget 68, .forget 69, .forget 70, .forget 71, .forget 72, .forget 73, .forget 74, .forget 75, .forget 76, .forget 77, .forget 78, .forget 79, .forget 80]
  | 4, 12 => [.forget 2, .forget 11, .forget 67, .forget 68, .forget 69, .forget 70, .forget 71, .forget 72, .forget 73, .forget 74, .forget 75, .forget 76, .forget 77, .forget 78, .forget 79, .forget 80, .forget 81, .forget 82, .forget 83, .forget 84, .forget 85, .forget 86, .forget 87, .forget 88, .forget 89, .forget 90, .forget 91, .forget 92, .forget 93, .forget 94, .forget 95, .forget 96, .forget 97, .forget 98, .forget 99, .forget 100, .forget 101, .forget 102, .forget 103, .forget 104, .forget 105, .forget 106, .forget 107, .forget 108, .forget 109, .forget 110, .forget 111, .forget 112, .forget 113, .forget 114, .forget 115, .forget 116, .forget 117, .forget 118, .forget 119, .forget 120, .forget 121, .forget 122, .forget 123, .forget 124, .forget 125, .forget 126, .forget 127]
  | 5, 14 => [.forget 2, .forget 15, .forget 77, .forget 78, .forget 79, .forget 80, .forget 81, .forget 82, .forget 83, .forget 84, .forget 85, .forget 86, .forget 87, .forget 88, .forget 89, .forget 90, .forget 91, .forget 92, .forget 93, .forget 94, .forget 95, .forget 96, .forget 97, .forget 98, .forget 99, .forget 100, .forget 101, .forget 102, .forget 103, .forget 104, .forget 105, .forget 106, .forget 107, .forget 108, .forget 109, .forget 110, .forget 111, .forget 112, .forget 113, .forget 114, .forget 115, .forget 116, .forget 117, .forget 118, .forget 119, .forget 120, .forget 121, .forget 122, .forget 123, .forget 124, .forget 125, .forget 126, .forget 127, .forget 128, .forget 129, .forget 130, .forget 131, .forget 132, .forget 133]
  | 9, 8 => [.forget 6, .forget 7, .forget 8, .forget 13, .forget 14, .forget 15, .forget 45, .forget 46, .forget 47, .forget 48, .forget 49, .forget 50, .forget 51, .forget 52, .forget 53, .forget 54, .forget 55, .forget 56, .forget 57, .forget 58, .forget 59, .forget 60, .forget 61, .forget 62, .forget 63, .forget 64, .forget 65, .forget 66, .forget 67, .forget 68, .forget 69, .forget 70]
  | 9, 18 => [.forget 6, .forget 7, .forget 8, .forget 18, .forget 19, .forget 84, .forget 85, .forget 86, .forget 87, .forget 88, .forget 89, .forget 90, .forget 91, .forget 92, .forget 93, .forget 94]
  | 10, 4 => [.forget 4, .forget 11, .forget 12, .forget 13, .forget 14, .forget 15, .forget 16, .forget 17, .forget 18, .forget 19, .forget 20, .forget 21, .forget 22, .forget 23, .forget 24, .forget 25]
  | 13, 10 => [.forget 8, .forget 92, .forget 93, .forget 94, .forget 95, .forget 96, .forget 97, .forget 98, .forget 99, .forget 100, .forget 101, .forget 102, .forget 103, .forget 104, .forget 105, .forget 106, .forget 107, .forget 108, .forget 109, .forget 110, .forget 111, .forget 112, .forget 113, .forget 114, .forget 115, .forget 116, .forget 117, .forget 118]
  | 15, 9 => [.promoteBox 70 5 1, .promoteBox 79 4 1, .forget 13, .forget 14, .forget 57, .forget 58, .forget 59, .forget 60, .forget 61, .forget 62, .forget 63, .forget 64, .forget 65, .forget 66, .forget 67, .forget 68, .forget 69, .forget 70, .forget 71, .forget 72, .forget 73, .forget 74, .forget 75, .forget 76, .forget 77, .forget 78, .forget 79, .forget 80, .forget 81, .forget 82, .forget 83, .forget 84, .forget 85, .forget 86, .forget 87]
  | 15, 17 => [.promoteAll 128 2 1, .forget 15, .forget 16, .forget 18, .forget 103, .forget 104, .forget 105, .forget 106, .forget 107, .forget 108, .forget 109, .forget 110, .forget 111, .forget 112, .forget 113, .forget 114, .forget 115, .forget 116, .forget 117, .forget 118, .forget 119, .forget 120, .forget 121, .forget 122, .forget 123, .forget 124, .forget 125, .forget 126, .forget 127, .forget 128, .forget 129, .forget 130, .forget 131, .forget 132, .forget 133, .forget 134, .forget 135, .forget 136, .forget 137, .forget 138, .forget 139, .forget 140, .forget 141, .forget 142, .forget 143, .forget 144, .forget 145, .forget 146]
  | 15, 21 => [.promoteAll 128 2 1, .forget 18, .forget 114, .forget 115, .forget 116, .forget 117, .forget 118, .forget 119, .forget 120, .forget 121, .forget 122, .forget 123, .forget 124, .forget 125, .forget 126, .forget 127, .forget 128, .forget 129, .forget 130, .forget 131, .forget 132, .forget 133, .forget 134, .forget 135, .forget 136, .forget 137, .forget 138, .forget 139, .forget 140, .forget 141, .forget 142, .forget 143, .forget 144, .forget 145]
  | 16, 2 => [.forget 6, .forget 8, .forget 9, .forget 12, .forget 13, .forget 14, .forget 15, .forget 16, .forget 17, .forget 18, .forget 19, .forget 20, .forget 21, .forget 22, .forget 23, .forget 24, .forget 25, .forget 26, .forget 27, .forget 28, .forget 29, .forget 30, .forget 31, .forget 32, .forget 33, .forget 34, .forget 35, .forget 36, .forget 37, .forget 38, .forget 39, .forget 40, .forget 41, .forget 42, .forget 43, .forget 44, .forget 45, .forget 46, .forget 47, .forget 48, .forget 49, .forget 50, .forget 51, .forget 52, .forget 53, .forget 54, .forget 55, .forget 56, .forget 57, .forget 58, .forget 59, .forget 60, .forget 61, .forget 62, .forget 63, .forget 64, .forget 65, .forget 66, .forget 67, .forget 68, .forget 69, .forget 70]
  | 17, 4 => [.forget 8, .forget 35, .forget 36, .forget 37, .forget 38, .forget 39, .forget 40, .forget 41, .forget 42, .forget 43, .forget 44, .forget 45, .forget 46, .forget 47, .forget 48, .forget 49, .forget 50, .forget 51, .forget 52, .forget 53, .forget 54, .forget 55, .forget 56, .forget 57, .forget 58, .forget 59, .forget 60, .forget 61, .forget 62, .forget 63, .forget 64, .forget 65, .forget 66, .forget 67, .forget 68, .forget 69, .forget 70, .forget 71, .forget 72, .forget 73, .forget 74, .forget 75]
  | 20, 4 => [.promoteBox 7 0 1]
  | 21, 5 => [.promote 5 1, .forget 2, .forget 3, .forget 4, .forget 6, .forget 7, .forget 8, .forget 15, .forget 16, .forget 17, .forget 18, .forget 19, .forget 20, .forget 21, .forget 22, .forget 23, .forget 24, .forget 25, .forget 26, .forget 27, .forget 28, .forget 29, .forget 30, .forget 31, .forget 32, .forget 33, .forget 34, .forget 35, .forget 36, .forget 37, .forget 38, .forget 39, .forget 40]
  | 22, 3 => [.promoteBox 3 0 4, .promoteBox 3 1 1, .forget 4, .forget 5, .forget 6, .forget 12, .forget 13, .forget 14, .forget 15, .forget 16, .forget 17, .forget 18, .forget 19, .forget 20, .forget 21, .forget 22, .forget 23, .forget 24, .forget 25, .forget 26, .forget 27, .forget 28, .forget 29, .forget 30, .forget 31, .forget 32, .forget 33, .forget 34, .forget 35, .forget 36, .forget 37, .forget 38, .forget 39, .forget 40, .forget 41, .forget 42, .forget 43, .forget 44, .forget 45, .forget 46, .forget 47, .forget 48, .forget 49, .forget 50, .forget 51, .forget 52, .forget 53, .forget 54, .forget 55, .forget 56, .forget 57, .forget 58, .forget 59]
  | 24, 2 => [.promoteAll 0 2 1, .forget 4, .forget 5, .forget 6, .forget 7, .forget 11, .forget 12, .forget 13, .forget 14, .forget 15, .forget 16, .forget 17, .forget 18, .forget 19, .forget 20, .forget 21, .forget 22, .forget 23, .forget 24, .forget 25, .forget 26, .forget 27, .forget 28, .forget 29, .forget 30, .forget 31, .forget 32, .forget 33, .forget 34, .forget 35, .forget 36, .forget 37, .forget 38, .forget 39, .forget 40, .forget 41, .forget 42, .forget 43, .forget 44, .forget 45, .forget 46, .forget 47, .forget 48, .forget 49, .forget 50, .forget 51, .forget 52, .forget 53, .forget 54, .forget 55, .forget 56, .forget 57, .forget 58, .forget 59, .forget 60, .forget 61, .forget 62, .forget 63, .forget 64, .forget 65, .forget 66, .forget 67, .forget 68, .forget 69, .forget 70, .forget 71, .forget 72, .forget 73, .forget 74, .forget 75, .forget 76, .forget 77, .forget 78, .forget 79, .forget 80, .forget 81, .forget 82, .forget 83]
  | 29, 4 => [.promote 6 4, .forget 7, .forget 17, .forget 18, .forget 19, .forget 20, .forget 21, .forget 22, .forget 23, .forget 24, .forget 25, .forget 26, .forget 27, .forget 28, .forget 29, .forget 30, .forget 31, .forget 32, .forget 33, .forget 34, .forget 35, .forget 36, .forget 37, .forget 38, .forget 39, .forget 40, .forget 41, .forget 42, .forget 43]
  | 29, 11 => [.forget 8, .forget 47, .forget 48, .forget 49, .forget 50, .forget 51, .forget 52, .forget 53, .forget 54, .forget 55, .forget 56, .forget 57, .forget 58, .forget 59, .forget 60, .forget 61, .forget 62]
  | 30, 3 => [.promote 5 1, .forget 19, .forget 20, .forget 21, .forget 22, .forget 23, .forget 24, .forget 25, .forget 26, .forget 27, .forget 28, .forget 29, .forget 30, .forget 31, .forget 32, .forget 33, .forget 34, .forget 35, .forget 36, .forget 37, .forget 38, .forget 39, .forget 40]
  | 30, 9 => [.forget 9, .forget 10, .forget 12, .forget 48, .forget 49, .forget 50, .forget 51, .forget 52, .forget 53, .forget 54, .forget 55, .forget 56, .forget 57, .forget 58, .forget 59, .forget 60, .forget 61, .forget 62, .forget 63, .forget 64, .forget 65, .forget 66, .forget 67, .forget 68, .forget 69, .forget 70, .forget 71, .forget 72, .forget 73, .forget 74, .forget 75, .forget 76, .forget 77, .forget 78, .forget 79, .forget 80, .forget 81, .forget 82, .forget 83, .forget 84, .forget 85, .forget 86, .forget 87, .forget 88, .forget 89, .forget 90, .forget 91, .forget 92, .forget 93, .forget 94, .forget 95, .forget 96, .forget 97, .forget 98, .forget 99, .forget 100, .forget 101, .forget 102]
  | 30, 12 => [.forget 9, .forget 10, .forget 12, .forget 53, .forget 54, .forget 55, .forget 56, .forget 57, .forget 58, .forget 59, .forget 60, .forget 61, .forget 62, .forget 63, .forget 64, .forget 65, .forget 66, .forget 67, .forget 68, .forget 69, .forget 70, .forget 71, .forget 72, .forget 73, .forget 74, .forget 75, .forget 76, .forget 77, .forget 78, .forget 79, .forget 80, .forget 81, .forget 82, .forget 83, .forget 84, .forget 85, .forget 86, .forget 87, .forget 88, .forget 89, .forget 90, .forget 91, .forget 92, .forget 93, .forget 94, .forget 95, .forget 96, .forget 97, .forget 98, .forget 99, .forget 100, .forget 101, .forget 102]
  | 30, 16 => [.forget 12, .forget 65, .forget 66, .forget 67, .forget 68, .forget 69, .forget 70, .forget 71, .forget 72, .forget 73, .forget 74, .forget 75, .forget 76, .forget 77, .forget 78, .forget 79, .forget 80, .forget 81, .forget 82, .forget 83, .forget 84, .forget 85]
  | 31, 4 => [.forget 4, .forget 11, .forget 12, .forget 13, .forget 14, .forget 15, .forget 16, .forget 17, .forget 18, .forget 19, .forget 20, .forget 21, .forget 22, .forget 23, .forget 24, .forget 25]
  | 34, 8 => [.forget 34, .forget 35, .forget 36, .forget 37, .forget 38, .forget 39, .forget 40, .forget 41, .forget 42, .forget 43, .forget 44, .forget 45, .forget 46]
  | 35, 4 => [.forget 13, .forget 14, .forget 15, .forget 17, .forget 24, .forget 25, .forget 26, .forget 27, .forget 28, .forget 29, .forget 30, .forget 31, .forget 32, .forget 33, .forget 34, .forget 35, .forget 36, .forget 37, .forget 38, .forget 39, .forget 40, .forget 41, .forget 42, .forget 43, .forget 44, .forget 45, .forget 46, .forget 47, .forget 48, .forget 49, .forget 50, .forget 51, .forget 52, .forget 53, .forget 54, .forget 55, .forget 56, .forget 57, .forget 58, .forget 59, .forget 60, .forget 61, .forget 62, .forget 63, .forget 64, .forget 65, .forget 66, .forget 67, .forget 68, .forget 69, .forget 70, .forget 71, .forget 72, .forget 73, .forget 74, .forget 75, .forget 76, .forget 77, .forget 78, .forget 79, .forget 80, .forget 81, .forget 82, .forget 83, .forget 84, .forget 85, .forget 86, .forget 87, .forget 88, .forget 89, .forget 90, .forget 91, .forget 92, .forget 93, .forget 94, .forget 95, .forget 96, .forget 97, .forget 98, .forget 99, .forget 100, .forget 101, .forget 102, .forget 103]
  | 35, 16 => [.forget 17, .forget 72, .forget 73, .forget 74, .forget 75, .forget 76, .forget 77, .forget 78, .forget 79, .forget 80, .forget 81, .forget 82, .forget 83, .forget 84, .forget 85, .forget 86, .forget 87, .forget 88, .forget 89, .forget 90, .forget 91, .forget 92, .forget 93, .forget 94, .forget 95, .forget 96, .forget 97, .forget 98, .forget 99, .forget 100, .forget 101, .forget 102, .forget 103]
  | 37, 3 => [.promote 3 1, .forget 5, .forget 9, .forget 10, .forget 11, .forget 12, .forget 13, .forget 14, .forget 15]
  | 41, 2 => [.forget 3, .forget 4, .forget 13, .forget 14, .forget 15, .forget 16, .forget 17, .forget 18, .forget 19, .forget 20, .forget 21, .forget 22]
  | 44, 6 => [.forget 7, .forget 33, .forget 34, .forget 35, .forget 36, .forget 37, .forget 38, .forget 39]
  | 44, 11 => [.forget 8, .forget 46, .forget 47, .forget 48, .forget 49, .forget 50, .forget 51, .forget 52, .forget 53, .forget 54, .forget 55, .forget 56, .forget 57, .forget 58, .forget 59, .forget 60, .forget 61, .forget 62, .forget 63, .forget 64, .forget 65, .forget 66, .forget 67, .forget 68, .forget 69, .forget 70, .forget 71, .forget 72, .forget 73, .forget 74, .forget 75, .forget 76, .forget 77, .forget 78]
  | 45, 4 => [.promote 5 1, .promote 6 2, .forget 7, .forget 8, .forget 9, .forget 19, .forget 20, .forget 21, .forget 22, .forget 23, .forget 24, .forget 25, .forget 26, .forget 27, .forget 28, .forget 29, .forget 30, .forget 31, .forget 32, .forget 33, .forget 34, .forget 35, .forget 36, .forget 37, .forget 38, .forget 39, .forget 40, .forget 41, .forget 42, .forget 43, .forget 44, .forget 45, .forget 46, .forget 47, .forget 48, .forget 49, .forget 50, .forget 51, .forget 52, .forget 53, .forget 54, .forget 55, .forget 56, .forget 57, .forget 58, .forget 59, .forget 60, .forget 61, .forget 62, .forget 63, .forget 64, .forget 65, .forget 66, .forget 67, .forget 68, .forget 69, .forget 70, .forget 71, .forget 72, .forget 73, .forget 74, .forget 75, .forget 76, .forget 77, .forget 78, .forget 79, .forget 80, .forget 81, .forget 82, .forget 83, .forget 84, .forget 85, .forget 86, .forget 87, .forget 88, .forget 89, .forget 90, .forget 91, .forget 92, .forget 93, .forget 94, .forget 95]
  | 46, 1 => [.forget 7, .forget 8, .forget 9, .forget 10, .forget 11, .forget 12, .forget 13, .forget 14, .forget 15, .forget 16, .forget 17, .forget 18, .forget 19, .forget 20, .forget 21, .forget 22, .forget 23, .forget 24, .forget 25, .forget 26, .forget 27, .forget 28, .forget 29, .forget 30, .forget 31, .forget 32, .forget 33, .forget 34, .forget 35, .forget 36, .forget 37, .forget 38, .forget 39, .forget 40, .forget 41, .forget 42, .forget 43, .forget 44, .forget 45, .forget 46, .forget 47, .forget 48, .forget 49, .forget 50, .forget 51, .forget 52, .forget 53]
  | 46, 2 => [.forget 10, .forget 11, .forget 12, .forget 13, .forget 14, .forget 15, .forget 16, .forget 17, .forget 18, .forget 19, .forget 20, .forget 21, .forget 22, .forget 23, .forget 24, .forget 25, .forget 26, .forget 27, .forget 28, .forget 29, .forget 30, .forget 31]
  | 46, 4 => [.forget 32, .forget 33, .forget 34, .forget 35, .forget 36, .forget 37, .forget 38, .forget 39, .forget 40, .forget 41, .forget 42, .forget 43, .forget 44, .forget 45, .forget 46, .forget 47, .forget 48, .forget 49, .forget 50, .forget 51, .forget 52, .forget 53]
  | 52, 2 => [.promote 0 1, .forget 5, .forget 8, .forget 9, .forget 10, .forget 11, .forget 12, .forget 13, .forget 14, .forget 15, .forget 16, .forget 17, .forget 18, .forget 19]
  | 53, 4 => [.forget 2, .forget 4, .forget 5, .forget 10, .forget 11, .forget 12, .forget 13, .forget 14, .forget 15, .forget 16, .forget 17, .forget 18, .forget 19, .forget 20, .forget 21, .forget 22, .forget 23, .forget 24, .forget 25, .forget 26, .forget 27, .forget 28, .forget 29, .forget 30, .forget 31, .forget 32, .forget 33, .forget 34, .forget 35, .forget 36, .forget 37, .forget 38, .forget 39, .forget 40, .forget 41, .forget 42, .forget 43, .forget 44, .forget 45, .forget 46, .forget 47, .forget 48, .forget 49, .forget 50, .forget 51, .forget 52, .forget 53, .forget 54, .forget 55, .forget 56, .forget 57, .forget 58, .forget 59]
  | 53, 9 => [.forget 29, .forget 30, .forget 31, .forget 32, .forget 33, .forget 34, .forget 35, .forget 36, .forget 37, .forget 38, .forget 39, .forget 40, .forget 41, .forget 42, .forget 43, .forget 44, .forget 45, .forget 46, .forget 47, .forget 48, .forget 49, .forget 50, .forget 51, .forget 52, .forget 53]
  | 57, 2 => [.forget 8, .forget 9, .forget 10, .forget 12, .forget 13, .forget 14, .forget 15, .forget 16, .forget 17, .forget 18, .forget 19, .forget 20, .forget 21, .forget 22, .forget 23, .forget 24, .forget 25, .forget 26, .forget 27, .forget 28, .forget 29, .forget 30, .forget 31, .forget 32, .forget 33, .forget 34, .forget 35, .forget 36, .forget 37, .forget 38, .forget 39, .forget 40, .forget 41, .forget 42, .forget 43, .forget 44]
  | 58, 0 => [.forget 4, .forget 5, .forget 6, .forget 7, .forget 8, .forget 9, .forget 10, .forget 11, .forget 12, .forget 13, .forget 14, .forget 15, .forget 16, .forget 17, .forget 18, .forget 19, .forget 20, .forget 21, .forget 22]
  | 59, 3 => [.forget 5, .forget 6, .forget 7, .forget 8, .forget 9, .forget 10, .forget 11, .forget 12]
  | _, _ => []
noncomputable def knownT (f : Nat) : Option (List V → Heap → Option (V × Heap)) :=
  match f with
  | 32 => some (cloneWL 17592186044416 2)
  | 33 => some (cloneWL 35184372088832 1)
  | _ => none
noncomputable def E : Env := { P := Try.prog, mode := modeT, hint := hintT, known := knownT, eqTypes := [], fns := fun f => Nat.blt f 82 }
@[simp] theorem E_P : E.P = Try.prog := rfl
/-! 2: gosem.cut.init -/
attribute [simp] Try.results2
theorem pu_2 {lent : Bool} {args : List V} {r : V} (hr : evK E (om E) 2 [] (Try.f2.body.getD .skip) (endK Try.prog Try.f2.results.toList (pureFin lent)) (args ++ pois (1 - args.length)) [[]] = some r) : pureV E (om E) 2 lent args = some r := pureV_of (dyn := []) rfl (by rw [E_P]; exact Try.func2) (by unfold Try.f2; rfl) (by kernel_rfl) (by rw [Try.ntmps2]; exact hr)
@[simp] theorem call_2 (args : List V) (h : Heap) : callV E (om E) 2 args h = (viewArgs h args).bind fun a => (pureV E (om E) 2 (!V.flatL args) a).map fun r => (r, h) := callV_pure rfl rfl args h

/-! 3: playpen/playpenlaw14.FlowNops -/
attribute [simp] Try.results3
theorem pu_3 {lent : Bool} {args : List V} {r : V} (hr : evK E (om E) 3 [] (Try.f3.body.getD .skip) (endK Try.prog Try.f3.results.toList (pureFin lent)) (args ++ pois (112 - args.length)) [[]] = some r) : pureV E (om E) 3 lent args = some r := pureV_of (dyn := []) rfl (by rw [E_P]; exact Try.func3) (by unfold Try.f3; rfl) (by kernel_rfl) (by rw [Try.ntmps3]; exact hr)
@[simp] theorem call_3 (args : List V) (h : Heap) : callV E (om E) 3 args h = (viewArgs h args).bind fun a => (pureV E (om E) 3 (!V.flatL args) a).map fun r => (r, h) := callV_pure rfl rfl args h
@[simp] theorem hint_3_0 : E.hint 3 11 = [.promote 10 2, .forget 59, .forget 60, .forget 61, .forget 62, .forget 63, .forget 64, .forget 65, .forget 66, .forget 67, .forget 68, .forget 69, .forget 70, .forget 71, .forget 72, .forget 73, .forget 74, .forget 75, .forget 76, .forget 77, .forget 78, .forget 79, .forget 80] := rfl

/-! 4: playpen/playpenlaw14.FlowSound -/
attribute [simp] Try.results4
theorem pu_4 {lent : Bool} {args : List V} {r : V} (hr : evK E (om E) 4 [] (Try.f4.body.getD .skip) (endK Try.prog Try.f4.results.toList (pureFin lent)) (args ++ pois (128 - args.length)) [[]] = some r) : pureV E (om E) 4 lent args = some r := pureV_of (dyn := []) rfl (by rw [E_P]; exact Try.func4) (by unfold Try.f4; rfl) (by kernel_rfl) (by rw [Try.ntmps4]; exact hr)
@[simp] theorem call_4 (args : List V) (h : Heap) : callV E (om E) 4 args h = (viewArgs h args).bind fun a => (pureV E (om E) 4 (!V.flatL args) a).map fun r => (r, h) := callV_pure rfl rfl args h
@[simp] theorem hint_4_0 : E.hint 4 12 = [.forget 2, .forget 11, .forget 67, .forget 68, .forget 69, .forget 70, .forget 71, .forget 72, .forget 73, .forget 74, .forget 75, .forget 76, .forget 77, .forget 78, .forget 79, .forget 80, .forget 81, .forget 82, .forget 83, .forget 84, .forget 85, .forget 86, .forget 87, .forget 88, .forget 89, .forget 90, .forget 91, .forget 92, .forget 93, .forget 94, .forget 95, .forget 96, .forget 97, .forget 98, .forget 99, .forget 100, .forget 101, .forget 102, .forget 103, .forget 104, .forget 105, .forget 106, .forget 107, .forget 108, .forget 109, .forget 110, .forget 111, .forget 112, .forget 113, .forget 114, .forget 115, .forget 116, .forget 117, .forget 118, .forget 119, .forget 120, .forget 121, .forget 122, .forget 123, .forget 124, .forget 125, .forget 126, .forget 127] := rfl

/-! 5: playpen/playpenlaw14.FlowTiles -/
attribute [simp] Try.results5
theorem pu_5 {lent : Bool} {args : List V} {r : V} (hr : evK E (om E) 5 [] (Try.f5.body.getD .skip) (endK Try.prog Try.f5.results.toList (pureFin lent)) (args ++ pois (141 - args.length)) [[]] = some r) : pureV E (om E) 5 lent args = some r := pureV_of (dyn := []) rfl (by rw [E_P]; exact Try.func5) (by unfold Try.f5; rfl) (by kernel_rfl) (by rw [Try.ntmps5]; exact hr)
@[simp] theorem call_5 (args : List V) (h : Heap) : callV E (om E) 5 args h = (viewArgs h args).bind fun a => (pureV E (om E) 5 (!V.flatL args) a).map fun r => (r, h) := callV_pure rfl rfl args h
@[simp] theorem hint_5_0 : E.hint 5 14 = [.forget 2, .forget 15, .forget 77, .forget 78, .forget 79, .forget 80, .forget 81, .forget 82, .forget 83, .forget 84, .forget 85, .forget 86, .forget 87, .forget 88, .forget 89, .forget 90, .forget 91, .forget 92, .forget 93, .forget 94, .forget 95, .forget 96, .forget 97, .forget 98, .forget 99, .forget 100, .forget 101, .forget 102, .forget 103, .forget 104, .forget 105, .forget 106, .forget 107, .forget 108, .forget 109, .forget 110, .forget 111, .forget 112, .forget 113, .forget 114, .forget 115, .forget 116, .forget 117, .forget 118, .forget 119, .forget 120, .forget 121, .forget 122, .forget 123, .forget 124, .forget 125, .forget 126, .forget 127, .forget 128, .forget 129, .forget 130, .forget 131, .forget 132, .forget 133] := rfl

/-! 6: playpen/playpenlaw14.lives -/
attribute [simp] Try.results6
theorem pu_6 {lent : Bool} {args : List V} {r : V} (hr : evK E (om E) 6 [] (Try.f6.body.getD .skip) (endK Try.prog Try.f6.results.toList (pureFin lent)) (args ++ pois (28 - args.length)) [[]] = some r) : pureV E (om E) 6 lent args = some r := pureV_of (dyn := []) rfl (by rw [E_P]; exact Try.func6) (by unfold Try.f6; rfl) (by kernel_rfl) (by rw [Try.ntmps6]; exact hr)
@[simp] theorem call_6 (args : List V) (h : Heap) : callV E (om E) 6 args h = (viewArgs h args).bind fun a => (pureV E (om E) 6 (!V.flatL args) a).map fun r => (r, h) := callV_pure rfl rfl args h

/-! 7: playpen/flow.Depths -/
attribute [simp] Try.results7
theorem bo_7 {args : List V} {h : Heap} {r : V × Heap} (hr : evK E (om E) 7 [] (Try.f7.body.getD .skip) (endK Try.prog Try.f7.results.toList bodyFin) (args ++ pois (28 - args.length)) h = some r) : bodyV E (om E) 7 args h = some r := bodyV_of (dyn := []) rfl (by rw [E_P]; exact Try.func7) (by unfold Try.f7; rfl) (by kernel_rfl) (by rw [Try.ntmps7]; exact hr)
theorem call_7 (args : List V) (h : Heap) : callV E (om E) 7 args h = (viewArgs h args).bind fun args' => (bodyV E (om E) 7 args' [[]]).bind fun x => if !V.flatL args && !V.own x.2 x.1 then none else some (V.out h.top.length x.1, h.setTop (h.top ++ x.2.top.map (outBlk h.top.length))) := callV_own rfl rfl args h

/-! 8: playpen/playpenkit.Pick -/
attribute [simp] Try.results8
theorem pu_8 {lent : Bool} {args : List V} {r : V} (hr : evK E (om E) 8 [] (Try.f8.body.getD .skip) (endK Try.prog Try.f8.results.toList (pureFin lent)) (args ++ pois (16 - args.length)) [[]] = some r) : pureV E (om E) 8 lent args = some r := pureV_of (dyn := []) rfl (by rw [E_P]; exact Try.func8) (by unfold Try.f8; rfl) (by kernel_rfl) (by rw [Try.ntmps8]; exact hr)
@[simp] theorem call_8 (args : List V) (h : Heap) : callV E (om E) 8 args h = (viewArgs h args).bind fun a => (pureV E (om E) 8 (!V.flatL args) a).map fun r => (r, h) := callV_pure rfl rfl args h

/-! 9: playpen/procs.Find -/
attribute [simp] Try.results9
theorem pu_9 {lent : Bool} {args : List V} {r : V} (hr : evK E (om E) 9 [] (Try.f9.body.getD .skip) (endK Try.prog Try.f9.results.toList (pureFin lent)) (args ++ pois (96 - args.length)) [[]] = some r) : pureV E (om E) 9 lent args = some r := pureV_of (dyn := []) rfl (by rw [E_P]; exact Try.func9) (by unfold Try.f9; rfl) (by kernel_rfl) (by rw [Try.ntmps9]; exact hr)
@[simp] theorem call_9 (args : List V) (h : Heap) : callV E (om E) 9 args h = (viewArgs h args).bind fun a => (pureV E (om E) 9 (!V.flatL args) a).map fun r => (r, h) := callV_pure rfl rfl args h
@[simp] theorem hint_9_0 : E.hint 9 8 = [.forget 6, .forget 7, .forget 8, .forget 13, .forget 14, .forget 15, .forget 45, .forget 46, .forget 47, .forget 48, .forget 49, .forget 50, .forget 51, .forget 52, .forget 53, .forget 54, .forget 55, .forget 56, .forget 57, .forget 58, .forget 59, .forget 60, .forget 61, .forget 62, .forget 63, .forget 64, .forget 65, .forget 66, .forget 67, .forget 68, .forget 69, .forget 70] := rfl
@[simp] theorem hint_9_1 : E.hint 9 18 = [.forget 6, .forget 7, .forget 8, .forget 18, .forget 19, .forget 84, .forget 85, .forget 86, .forget 87, .forget 88, .forget 89, .forget 90, .forget 91, .forget 92, .forget 93, .forget 94] := rfl

/-! 10: playpen/playpenkit.SameInts -/
attribute [simp] Try.results10
theorem pu_10 {lent : Bool} {args : List V} {r : V} (hr : evK E (om E) 10 [] (Try.f10.body.getD .skip) (endK Try.prog Try.f10.results.toList (pureFin lent)) (args ++ pois (26 - args.length)) [[]] = some r) : pureV E (om E) 10 lent args = some r := pureV_of (dyn := []) rfl (by rw [E_P]; exact Try.func10) (by unfold Try.f10; rfl) (by kernel_rfl) (by rw [Try.ntmps10]; exact hr)
@[simp] theorem call_10 (args : List V) (h : Heap) : callV E (om E) 10 args h = (viewArgs h args).bind fun a => (pureV E (om E) 10 (!V.flatL args) a).map fun r => (r, h) := callV_pure rfl rfl args h
@[simp] theorem hint_10_0 : E.hint 10 4 = [.forget 4, .forget 11, .forget 12, .forget 13, .forget 14, .forget 15, .forget 16, .forget 17, .forget 18, .forget 19, .forget 20, .forget 21, .forget 22, .forget 23, .forget 24, .forget 25] := rfl

/-! 11: (*playpen/procs.Procs).Count -/
attribute [simp] Try.results11
theorem pu_11 {lent : Bool} {args : List V} {r : V} (hr : evK E (om E) 11 [] (Try.f11.body.getD .skip) (endK Try.prog Try.f11.results.toList (pureFin lent)) (args ++ pois (11 - args.length)) [[]] = some r) : pureV E (om E) 11 lent args = some r := pureV_of (dyn := []) rfl (by rw [E_P]; exact Try.func11) (by unfold Try.f11; rfl) (by kernel_rfl) (by rw [Try.ntmps11]; exact hr)
@[simp] theorem call_11 (args : List V) (h : Heap) : callV E (om E) 11 args h = (viewArgs h args).bind fun a => (pureV E (om E) 11 (!V.flatL args) a).map fun r => (r, h) := callV_pure rfl rfl args h
@[simp] theorem hint_11_0 : E.hint 11 3 = [] := rfl

/-! 12: (*playpen/procs.Procs).Of -/
attribute [simp] Try.results12
theorem pu_12 {lent : Bool} {args : List V} {r : V} (hr : evK E (om E) 12 [] (Try.f12.body.getD .skip) (endK Try.prog Try.f12.results.toList (pureFin lent)) (args ++ pois (24 - args.length)) [[]] = some r) : pureV E (om E) 12 lent args = some r := pureV_of (dyn := []) rfl (by rw [E_P]; exact Try.func12) (by unfold Try.f12; rfl) (by kernel_rfl) (by rw [Try.ntmps12]; exact hr)
@[simp] theorem call_12 (args : List V) (h : Heap) : callV E (om E) 12 args h = (viewArgs h args).bind fun a => (pureV E (om E) 12 (!V.flatL args) a).map fun r => (r, h) := callV_pure rfl rfl args h

/-! 13: playpen/playpenlaw14.goes -/
attribute [simp] Try.results13
theorem pu_13 {lent : Bool} {args : List V} {r : V} (hr : evK E (om E) 13 [] (Try.f13.body.getD .skip) (endK Try.prog Try.f13.results.toList (pureFin lent)) (args ++ pois (119 - args.length)) [[]] = some r) : pureV E (om E) 13 lent args = some r := pureV_of (dyn := []) rfl (by rw [E_P]; exact Try.func13) (by unfold Try.f13; rfl) (by kernel_rfl) (by rw [Try.ntmps13]; exact hr)
@[simp] theorem call_13 (args : List V) (h : Heap) : callV E (om E) 13 args h = (viewArgs h args).bind fun a => (pureV E (om E) 13 (!V.flatL args) a).map fun r => (r, h) := callV_pure rfl rfl args h
@[simp] theorem hint_13_0 : E.hint 13 10 = [.forget 8, .forget 92, .forget 93, .forget 94, .forget 95, .forget 96, .forget 97, .forget 98, .forget 99, .forget 100, .forget 101, .forget 102, .forget 103, .forget 104, .forget 105, .forget 106, .forget 107, .forget 108, .forget 109, .forget 110, .forget 111, .forget 112, .forget 113, .forget 114, .forget 115, .forget 116, .forget 117, .forget 118] := rfl

/-! 14: playpen/flow.Blocks -/
attribute [simp] Try.results14
theorem pu_14 {lent : Bool} {args : List V} {r : V} (hr : evK E (om E) 14 [] (Try.f14.body.getD .skip) (endK Try.prog Try.f14.results.toList (pureFin lent)) (args ++ pois (37 - args.length)) [[]] = some r) : pureV E (om E) 14 lent args = some r := pureV_of (dyn := []) rfl (by rw [E_P]; exact Try.func14) (by unfold Try.f14; rfl) (by kernel_rfl) (by rw [Try.ntmps14]; exact hr)
@[simp] theorem call_14 (args : List V) (h : Heap) : callV E (om E) 14 args h = (viewArgs h args).bind fun a => (pureV E (om E) 14 (!V.flatL args) a).map fun r => (r, h) := callV_pure rfl rfl args h

/-! 15: playpen/flow.Heads -/
attribute [simp] Try.results15
theorem pu_15 {lent : Bool} {args : List V} {r : V} (hr : evK E (om E) 15 [12, 13, 23, 28] (Try.f15.body.getD .skip) (endK Try.prog Try.f15.results.toList (pureFin lent)) (args ++ pois (168 - args.length)) [[]] = some r) : pureV E (om E) 15 lent args = some r := pureV_of (dyn := [12, 13, 23, 28]) rfl (by rw [E_P]; exact Try.func15) (by unfold Try.f15; rfl) (by kernel_rfl) (by rw [Try.ntmps15]; exact hr)
@[simp] theorem call_15 (args : List V) (h : Heap) : callV E (om E) 15 args h = (viewArgs h args).bind fun a => (pureV E (om E) 15 (!V.flatL args) a).map fun r => (r, h) := callV_pure rfl rfl args h
@[simp] theorem hint_15_0 : E.hint 15 9 = [.promoteBox 70 5 1, .promoteBox 79 4 1, .forget 13, .forget 14, .forget 57, .forget 58, .forget 59, .forget 60, .forget 61, .forget 62, .forget 63, .forget 64, .forget 65, .forget 66, .forget 67, .forget 68, .forget 69, .forget 70, .forget 71, .forget 72, .forget 73, .forget 74, .forget 75, .forget 76, .forget 77, .forget 78, .forget 79, .forget 80, .forget 81, .forget 82, .forget 83, .forget 84, .forget 85, .forget 86, .forget 87] := rfl
@[simp] theorem hint_15_1 : E.hint 15 17 = [.promoteAll 128 2 1, .forget 15, .forget 16, .forget 18, .forget 103, .forget 104, .forget 105, .forget 106, .forget 107, .forget 108, .forget 109, .forget 110, .forget 111, .forget 112, .forget 113, .forget 114, .forget 115, .forget 116, .forget 117, .forget 118, .forget 119, .forget 120, .forget 121, .forget 122, .forget 123, .forget 124, .forget 125, .forget 126, .forget 127, .forget 128, .forget 129, .forget 130, .forget 131, .forget 132, .forget 133, .forget 134, .forget 135, .forget 136, .forget 137, .forget 138, .forget 139, .forget 140, .forget 141, .forget 142, .forget 143, .forget 144, .forget 145, .forget 146] := rfl
@[simp] theorem hint_15_2 : E.hint 15 21 = [.promoteAll 128 2 1, .forget 18, .forget 114, .forget 115, .forget 116, .forget 117, .forget 118, .forget 119, .forget 120, .forget 121, .forget 122, .forget 123, .forget 124, .forget 125, .forget 126, .forget 127, .forget 128, .forget 129, .forget 130, .forget 131, .forget 132, .forget 133, .forget 134, .forget 135, .forget 136, .forget 137, .forget 138, .forget 139, .forget 140, .forget 141, .forget 142, .forget 143, .forget 144, .forget 145] := rfl
@[simp] theorem hint_15_3 : E.hint 15 27 = [] := rfl

/-! 16: playpen/playpenlaw14.inside -/
attribute [simp] Try.results16
theorem pu_16 {lent : Bool} {args : List V} {r : V} (hr : evK E (om E) 16 [] (Try.f16.body.getD .skip) (endK Try.prog Try.f16.results.toList (pureFin lent)) (args ++ pois (71 - args.length)) [[]] = some r) : pureV E (om E) 16 lent args = some r := pureV_of (dyn := []) rfl (by rw [E_P]; exact Try.func16) (by unfold Try.f16; rfl) (by kernel_rfl) (by rw [Try.ntmps16]; exact hr)
@[simp] theorem call_16 (args : List V) (h : Heap) : callV E (om E) 16 args h = (viewArgs h args).bind fun a => (pureV E (om E) 16 (!V.flatL args) a).map fun r => (r, h) := callV_pure rfl rfl args h
@[simp] theorem hint_16_0 : E.hint 16 2 = [.forget 6, .forget 8, .forget 9, .forget 12, .forget 13, .forget 14, .forget 15, .forget 16, .forget 17, .forget 18, .forget 19, .forget 20, .forget 21, .forget 22, .forget 23, .forget 24, .forget 25, .forget 26, .forget 27, .forget 28, .forget 29, .forget 30, .forget 31, .forget 32, .forget 33, .forget 34, .forget 35, .forget 36, .forget 37, .forget 38, .forget 39, .forget 40, .forget 41, .forget 42, .forget 43, .forget 44, .forget 45, .forget 46, .forget 47, .forget 48, .forget 49, .forget 50, .forget 51, .forget 52, .forget 53, .forget 54, .forget 55, .forget 56, .forget 57, .forget 58, .forget 59, .forget 60, .forget 61, .forget 62, .forget 63, .forget 64, .forget 65, .forget 66, .forget 67, .forget 68, .forget 69, .forget 70] := rfl

/-! 17: playpen/playpenlaw14.up -/
attribute [simp] Try.results17
theorem pu_17 {lent : Bool} {args : List V} {r : V} (hr : evK E (om E) 17 [] (Try.f17.body.getD .skip) (endK Try.prog Try.f17.results.toList (pureFin lent)) (args ++ pois (76 - args.length)) [[]] = some r) : pureV E (om E) 17 lent args = some r := pureV_of (dyn := []) rfl (by rw [E_P]; exact Try.func17) (by unfold Try.f17; rfl) (by kernel_rfl) (by rw [Try.ntmps17]; exact hr)
@[simp] theorem call_17 (args : List V) (h : Heap) : callV E (om E) 17 args h = (viewArgs h args).bind fun a => (pureV E (om E) 17 (!V.flatL args) a).map fun r => (r, h) := callV_pure rfl rfl args h
@[simp] theorem hint_17_0 : E.hint 17 4 = [.forget 8, .forget 35, .forget 36, .forget 37, .forget 38, .forget 39, .forget 40, .forget 41, .forget 42, .forget 43, .forget 44, .forget 45, .forget 46, .forget 47, .forget 48, .forget 49, .forget 50, .forget 51, .forget 52, .forget 53, .forget 54, .forget 55, .forget 56, .forget 57, .forget 58, .forget 59, .forget 60, .forget 61, .forget 62, .forget 63, .forget 64, .forget 65, .forget 66, .forget 67, .forget 68, .forget 69, .forget 70, .forget 71, .forget 72, .forget 73, .forget 74, .forget 75] := rfl

/-! 18: playpen/playpenlaw14.fixed -/
attribute [simp] Try.results18
theorem pu_18 {lent : Bool} {args : List V} {r : V} (hr : evK E (om E) 18 [] (Try.f18.body.getD .skip) (endK Try.prog Try.f18.results.toList (pureFin lent)) (args ++ pois (5 - args.length)) [[]] = some r) : pureV E (om E) 18 lent args = some r := pureV_of (dyn := []) rfl (by rw [E_P]; exact Try.func18) (by unfold Try.f18; rfl) (by kernel_rfl) (by rw [Try.ntmps18]; exact hr)
@[simp] theorem call_18 (args : List V) (h : Heap) : callV E (om E) 18 args h = (viewArgs h args).bind fun a => (pureV E (om E) 18 (!V.flatL args) a).map fun r => (r, h) := callV_pure rfl rfl args h

/-! 19: playpen/flow.found -/
attribute [simp] Try.results19
theorem pu_19 {lent : Bool} {args : List V} {r : V} (hr : evK E (om E) 19 [] (Try.f19.body.getD .skip) (endK Try.prog Try.f19.results.toList (pureFin lent)) (args ++ pois (28 - args.length)) [[]] = some r) : pureV E (om E) 19 lent args = some r := pureV_of (dyn := []) rfl (by rw [E_P]; exact Try.func19) (by unfold Try.f19; rfl) (by kernel_rfl) (by rw [Try.ntmps19]; exact hr)
@[simp] theorem call_19 (args : List V) (h : Heap) : callV E (om E) 19 args h = (viewArgs h args).bind fun a => (pureV E (om E) 19 (!V.flatL args) a).map fun r => (r, h) := callV_pure rfl rfl args h

/-! 20: (*playpen/flow.graph).depths -/
attribute [simp] Try.results20
theorem bo_20 {args : List V} {h : Heap} {r : V × Heap} (hr : evK E (om E) 20 [9] (Try.f20.body.getD .skip) (endK Try.prog Try.f20.results.toList bodyFin) (args ++ pois (47 - args.length)) h = some r) : bodyV E (om E) 20 args h = some r := bodyV_of (dyn := [9]) rfl (by rw [E_P]; exact Try.func20) (by unfold Try.f20; rfl) (by kernel_rfl) (by rw [Try.ntmps20]; exact hr)
theorem call_20 (args : List V) (h : Heap) : callV E (om E) 20 args h = (viewArgs h args).bind fun args' => (bodyV E (om E) 20 args' [[]]).bind fun x => if !V.flatL args && !V.own x.2 x.1 then none else some (V.out h.top.length x.1, h.setTop (h.top ++ x.2.top.map (outBlk h.top.length))) := callV_own rfl rfl args h
@[simp] theorem hint_20_0 : E.hint 20 4 = [.promoteBox 7 0 1] := rfl

/-! 21: playpen/isa.Encode -/
attribute [simp] Try.results21
theorem pu_21 {lent : Bool} {args : List V} {r : V} (hr : evK E (om E) 21 [] (Try.f21.body.getD .skip) (endK Try.prog Try.f21.results.toList (pureFin lent)) (args ++ pois (42 - args.length)) [[]] = some r) : pureV E (om E) 21 lent args = some r := pureV_of (dyn := []) rfl (by rw [E_P]; exact Try.func21) (by unfold Try.f21; rfl) (by kernel_rfl) (by rw [Try.ntmps21]; exact hr)
@[simp] theorem call_21 (args : List V) (h : Heap) : callV E (om E) 21 args h = (viewArgs h args).bind fun a => (pureV E (om E) 21 (!V.flatL args) a).map fun r => (r, h) := callV_pure rfl rfl args h
@[simp] theorem hint_21_0 : E.hint 21 5 = [.promote 5 1, .forget 2, .forget 3, .forget 4, .forget 6, .forget 7, .forget 8, .forget 15, .forget 16, .forget 17, .forget 18, .forget 19, .forget 20, .forget 21, .forget 22, .forget 23, .forget 24, .forget 25, .forget 26, .forget 27, .forget 28, .forget 29, .forget 30, .forget 31, .forget 32, .forget 33, .forget 34, .forget 35, .forget 36, .forget 37, .forget 38, .forget 39, .forget 40] := rfl

/-! 22: playpen/procs.cut -/
attribute [simp] Try.results22
theorem bo_22 {args : List V} {h : Heap} {r : V × Heap} (hr : evK E (om E) 22 [] (Try.f22.body.getD .skip) (endK Try.prog Try.f22.results.toList bodyFin) (args ++ pois (70 - args.length)) h = some r) : bodyV E (om E) 22 args h = some r := bodyV_of (dyn := []) rfl (by rw [E_P]; exact Try.func22) (by unfold Try.f22; rfl) (by kernel_rfl) (by rw [Try.ntmps22]; exact hr)
theorem call_22 (args : List V) (h : Heap) : callV E (om E) 22 args h = (bodyV E (om E) 22 (V.upL 1 args) ([] :: h)).bind fun x => some (V.out (Heap.top x.2.tail).length x.1, Heap.setTop x.2.tail (Heap.top x.2.tail ++ x.2.top.map (outBlk (Heap.top x.2.tail).length))) := callV_live rfl rfl args h
@[simp] theorem hint_22_0 : E.hint 22 3 = [.promoteBox 3 0 4, .promoteBox 3 1 1, .forget 4, .forget 5, .forget 6, .forget 12, .forget 13, .forget 14, .forget 15, .forget 16, .forget 17, .forget 18, .forget 19, .forget 20, .forget 21, .forget 22, .forget 23, .forget 24, .forget 25, .forget 26, .forget 27, .forget 28, .forget 29, .forget 30, .forget 31, .forget 32, .forget 33, .forget 34, .forget 35, .forget 36, .forget 37, .forget 38, .forget 39, .forget 40, .forget 41, .forget 42, .forget 43, .forget 44, .forget 45, .forget 46, .forget 47, .forget 48, .forget 49, .forget 50, .forget 51, .forget 52, .forget 53, .forget 54, .forget 55, .forget 56, .forget 57, .forget 58, .forget 59] := rfl

/-! 23: playpen/procs.fault -/
attribute [simp] Try.results23
theorem pu_23 {lent : Bool} {args : List V} {r : V} (hr : evK E (om E) 23 [] (Try.f23.body.getD .skip) (endK Try.prog Try.f23.results.toList (pureFin lent)) (args ++ pois (71 - args.length)) [[]] = some r) : pureV E (om E) 23 lent args = some r := pureV_of (dyn := []) rfl (by rw [E_P]; exact Try.func23) (by unfold Try.f23; rfl) (by kernel_rfl) (by rw [Try.ntmps23]; exact hr)
@[simp] theorem call_23 (args : List V) (h : Heap) : callV E (om E) 23 args h = (viewArgs h args).bind fun a => (pureV E (om E) 23 (!V.flatL args) a).map fun r => (r, h) := callV_pure rfl rfl args h

/-! 24: (*playpen/procs.Procs).aim -/
attribute [simp] Try.results24
theorem bo_24 {args : List V} {h : Heap} {r : V × Heap} (hr : evK E (om E) 24 [6] (Try.f24.body.getD .skip) (endK Try.prog Try.f24.results.toList bodyFin) (args ++ pois (84 - args.length)) h = some r) : bodyV E (om E) 24 args h = some r := bodyV_of (dyn := [6]) rfl (by rw [E_P]; exact Try.func24) (by unfold Try.f24; rfl) (by kernel_rfl) (by rw [Try.ntmps24]; exact hr)
theorem call_24 (args : List V) (h : Heap) : callV E (om E) 24 args h = bodyV E (om E) 24 args h := callV_inl rfl rfl args h
@[simp] theorem hint_24_0 : E.hint 24 2 = [.promoteAll 0 2 1, .forget 4, .forget 5, .forget 6, .forget 7, .forget 11, .forget 12, .forget 13, .forget 14, .forget 15, .forget 16, .forget 17, .forget 18, .forget 19, .forget 20, .forget 21, .forget 22, .forget 23, .forget 24, .forget 25, .forget 26, .forget 27, .forget 28, .forget 29, .forget 30, .forget 31, .forget 32, .forget 33, .forget 34, .forget 35, .forget 36, .forget 37, .forget 38, .forget 39, .forget 40, .forget 41, .forget 42, .forget 43, .forget 44, .forget 45, .forget 46, .forget 47, .forget 48, .forget 49, .forget 50, .forget 51, .forget 52, .forget 53, .forget 54, .forget 55, .forget 56, .forget 57, .forget 58, .forget 59, .forget 60, .forget 61, .forget 62, .forget 63, .forget 64, .forget 65, .forget 66, .forget 67, .forget 68, .forget 69, .forget 70, .forget 71, .forget 72, .forget 73, .forget 74, .forget 75, .forget 76, .forget 77, .forget 78, .forget 79, .forget 80, .forget 81, .forget 82, .forget 83] := rfl

/-! 25: (*playpen/procs.Procs).Begins -/
attribute [simp] Try.results25
theorem pu_25 {lent : Bool} {args : List V} {r : V} (hr : evK E (om E) 25 [] (Try.f25.body.getD .skip) (endK Try.prog Try.f25.results.toList (pureFin lent)) (args ++ pois (22 - args.length)) [[]] = some r) : pureV E (om E) 25 lent args = some r := pureV_of (dyn := []) rfl (by rw [E_P]; exact Try.func25) (by unfold Try.f25; rfl) (by kernel_rfl) (by rw [Try.ntmps25]; exact hr)
@[simp] theorem call_25 (args : List V) (h : Heap) : callV E (om E) 25 args h = (viewArgs h args).bind fun a => (pureV E (om E) 25 (!V.flatL args) a).map fun r => (r, h) := callV_pure rfl rfl args h

/-! 26: (*playpen/procs.Procs).All -/
attribute [simp] Try.results26
theorem pu_26 {lent : Bool} {args : List V} {r : V} (hr : evK E (om E) 26 [] (Try.f26.body.getD .skip) (endK Try.prog Try.f26.results.toList (pureFin lent)) (args ++ pois (4 - args.length)) [[]] = some r) : pureV E (om E) 26 lent args = some r := pureV_of (dyn := []) rfl (by rw [E_P]; exact Try.func26) (by unfold Try.f26; rfl) (by kernel_rfl) (by rw [Try.ntmps26]; exact hr)
@[simp] theorem call_26 (args : List V) (h : Heap) : callV E (om E) 26 args h = (viewArgs h args).bind fun a => (pureV E (om E) 26 (!V.flatL args) a).map fun r => (r, h) := callV_pure rfl rfl args h

/-! 27: playpen/isa.Info -/
attribute [simp] Try.results27
theorem pu_27 {lent : Bool} {args : List V} {r : V} (hr : evK E (om E) 27 [] (Try.f27.body.getD .skip) (endK Try.prog Try.f27.results.toList (pureFin lent)) (args ++ pois (16 - args.length)) [[]] = some r) : pureV E (om E) 27 lent args = some r := pureV_of (dyn := []) rfl (by rw [E_P]; exact Try.func27) (by unfold Try.f27; rfl) (by kernel_rfl) (by rw [Try.ntmps27]; exact hr)
@[simp] theorem call_27 (args : List V) (h : Heap) : callV E (om E) 27 args h = (viewArgs h args).bind fun a => (pureV E (om E) 27 (!V.flatL args) a).map fun r => (r, h) := callV_pure rfl rfl args h

/-! 28: playpen/flow.Next -/
attribute [simp] Try.results28
theorem pu_28 {lent : Bool} {args : List V} {r : V} (hr : evK E (om E) 28 [] (Try.f28.body.getD .skip) (endK Try.prog Try.f28.results.toList (pureFin lent)) (args ++ pois (30 - args.length)) [[]] = some r) : pureV E (om E) 28 lent args = some r := pureV_of (dyn := []) rfl (by rw [E_P]; exact Try.func28) (by unfold Try.f28; rfl) (by kernel_rfl) (by rw [Try.ntmps28]; exact hr)
@[simp] theorem call_28 (args : List V) (h : Heap) : callV E (om E) 28 args h = (viewArgs h args).bind fun a => (pureV E (om E) 28 (!V.flatL args) a).map fun r => (r, h) := callV_pure rfl rfl args h

/-! 29: (*playpen/flow.graph).blocks -/
attribute [simp] Try.results29
theorem pu_29 {lent : Bool} {args : List V} {r : V} (hr : evK E (om E) 29 [] (Try.f29.body.getD .skip) (endK Try.prog Try.f29.results.toList (pureFin lent)) (args ++ pois (64 - args.length)) [[]] = some r) : pureV E (om E) 29 lent args = some r := pureV_of (dyn := []) rfl (by rw [E_P]; exact Try.func29) (by unfold Try.f29; rfl) (by kernel_rfl) (by rw [Try.ntmps29]; exact hr)
@[simp] theorem call_29 (args : List V) (h : Heap) : callV E (om E) 29 args h = (viewArgs h args).bind fun a => (pureV E (om E) 29 (!V.flatL args) a).map fun r => (r, h) := callV_pure rfl rfl args h
@[simp] theorem hint_29_0 : E.hint 29 4 = [.promote 6 4, .forget 7, .forget 17, .forget 18, .forget 19, .forget 20, .forget 21, .forget 22, .forget 23, .forget 24, .forget 25, .forget 26, .forget 27, .forget 28, .forget 29, .forget 30, .forget 31, .forget 32, .forget 33, .forget 34, .forget 35, .forget 36, .forget 37, .forget 38, .forget 39, .forget 40, .forget 41, .forget 42, .forget 43] := rfl
@[simp] theorem hint_29_1 : E.hint 29 11 = [.forget 8, .forget 47, .forget 48, .forget 49, .forget 50, .forget 51, .forget 52, .forget 53, .forget 54, .forget 55, .forget 56, .forget 57, .forget 58, .forget 59, .forget 60, .forget 61, .forget 62] := rfl

/-! 30: (*playpen/flow.tree).settle -/
attribute [simp] Try.results30
theorem bo_30 {args : List V} {h : Heap} {r : V × Heap} (hr : evK E (om E) 30 [] (Try.f30.body.getD .skip) (endK Try.prog Try.f30.results.toList bodyFin) (args ++ pois (109 - args.length)) h = some r) : bodyV E (om E) 30 args h = some r := bodyV_of (dyn := []) rfl (by rw [E_P]; exact Try.func30) (by unfold Try.f30; rfl) (by kernel_rfl) (by rw [Try.ntmps30]; exact hr)
theorem he_30 {args : List V} {h : Heap} {r : V × Heap} (hr : evK E (om E) 30 [] (Try.f30.body.getD .skip) (endK Try.prog Try.f30.results.toList heapFin) (V.upL 1 args ++ pois (109 - (V.upL 1 args).length)) ([] :: h) = some r) : callV E (om E) 30 args h = some r := heap_of (dyn := []) rfl rfl rfl (by rw [E_P]; exact Try.func30) (by unfold Try.f30; rfl) (by kernel_rfl) (by rw [Try.ntmps30]; exact hr)
theorem call_30 (args : List V) (h : Heap) : callV E (om E) 30 args h = (bodyV E (om E) 30 (V.upL 1 args) ([] :: h)).bind fun x => (V.freeze [x.2.top] x.1).bind fun r' => some (r', x.2.tail) := callV_heap rfl rfl args h
@[simp] theorem hint_30_0 : E.hint 30 3 = [.promote 5 1, .forget 19, .forget 20, .forget 21, .forget 22, .forget 23, .forget 24, .forget 25, .forget 26, .forget 27, .forget 28, .forget 29, .forget 30, .forget 31, .forget 32, .forget 33, .forget 34, .forget 35, .forget 36, .forget 37, .forget 38, .forget 39, .forget 40] := rfl
@[simp] theorem hint_30_1 : E.hint 30 9 = [.forget 9, .forget 10, .forget 12, .forget 48, .forget 49, .forget 50, .forget 51, .forget 52, .forget 53, .forget 54, .forget 55, .forget 56, .forget 57, .forget 58, .forget 59, .forget 60, .forget 61, .forget 62, .forget 63, .forget 64, .forget 65, .forget 66, .forget 67, .forget 68, .forget 69, .forget 70, .forget 71, .forget 72, .forget 73, .forget 74, .forget 75, .forget 76, .forget 77, .forget 78, .forget 79, .forget 80, .forget 81, .forget 82, .forget 83, .forget 84, .forget 85, .forget 86, .forget 87, .forget 88, .forget 89, .forget 90, .forget 91, .forget 92, .forget 93, .forget 94, .forget 95, .forget 96, .forget 97, .forget 98, .forget 99, .forget 100, .forget 101, .forget 102] := rfl
@[simp] theorem hint_30_2 : E.hint 30 12 = [.forget 9, .forget 10, .forget 12, .forget 53, .forget 54, .forget 55, .forget 56, .forget 57, .forget 58, .forget 59, .forget 60, .forget 61, .forget 62, .forget 63, .forget 64, .forget 65, .forget 66, .forget 67, .forget 68, .forget 69, .forget 70, .forget 71, .forget 72, .forget 73, .forget 74, .forget 75, .forget 76, .forget 77, .forget 78, .forget 79, .forget 80, .forget 81, .forget 82, .forget 83, .forget 84, .forget 85, .forget 86, .forget 87, .forget 88, .forget 89, .forget 90, .forget 91, .forget 92, .forget 93, .forget 94, .forget 95, .forget 96, .forget 97, .forget 98, .forget 99, .forget 100, .forget 101, .forget 102] := rfl
@[simp] theorem hint_30_3 : E.hint 30 16 = [.forget 12, .forget 65, .forget 66, .forget 67, .forget 68, .forget 69, .forget 70, .forget 71, .forget 72, .forget 73, .forget 74, .forget 75, .forget 76, .forget 77, .forget 78, .forget 79, .forget 80, .forget 81, .forget 82, .forget 83, .forget 84, .forget 85] := rfl

/-! 31: playpen/playpenkit.SameWords -/
attribute [simp] Try.results31
theorem pu_31 {lent : Bool} {args : List V} {r : V} (hr : evK E (om E) 31 [] (Try.f31.body.getD .skip) (endK Try.prog Try.f31.results.toList (pureFin lent)) (args ++ pois (26 - args.length)) [[]] = some r) : pureV E (om E) 31 lent args = some r := pureV_of (dyn := []) rfl (by rw [E_P]; exact Try.func31) (by unfold Try.f31; rfl) (by kernel_rfl) (by rw [Try.ntmps31]; exact hr)
@[simp] theorem call_31 (args : List V) (h : Heap) : callV E (om E) 31 args h = (viewArgs h args).bind fun a => (pureV E (om E) 31 (!V.flatL args) a).map fun r => (r, h) := callV_pure rfl rfl args h
@[simp] theorem hint_31_0 : E.hint 31 4 = [.forget 4, .forget 11, .forget 12, .forget 13, .forget 14, .forget 15, .forget 16, .forget 17, .forget 18, .forget 19, .forget 20, .forget 21, .forget 22, .forget 23, .forget 24, .forget 25] := rfl

/-! 32: slices.Clone[[]playpen/api.Instr,playpen/api.Instr] -/
attribute [simp] Try.results32
@[simp] theorem call_32 (args : List V) (h : Heap) : callV E (om E) 32 args h = cloneWL 17592186044416 2 args h := callV_known rfl args h

/-! 33: slices.Clone[[]uint32,uint32] -/
attribute [simp] Try.results33
@[simp] theorem call_33 (args : List V) (h : Heap) : callV E (om E) 33 args h = cloneWL 35184372088832 1 args h := callV_known rfl args h

/-! 34: slices.Repeat[[]int,int] -/
attribute [simp] Try.results34
theorem bo_34 {args : List V} {h : Heap} {r : V × Heap} (hr : evK E (om E) 34 [] (Try.f34.body.getD .skip) (endK Try.prog Try.f34.results.toList bodyFin) (args ++ pois (48 - args.length)) h = some r) : bodyV E (om E) 34 args h = some r := bodyV_of (dyn := []) rfl (by rw [E_P]; exact Try.func34) (by unfold Try.f34; rfl) (by kernel_rfl) (by rw [Try.ntmps34]; exact hr)
theorem call_34 (args : List V) (h : Heap) : callV E (om E) 34 args h = (viewArgs h args).bind fun args' => (bodyV E (om E) 34 args' [[]]).bind fun x => if !V.flatL args && !V.own x.2 x.1 then none else some (V.out h.top.length x.1, h.setTop (h.top ++ x.2.top.map (outBlk h.top.length))) := callV_own rfl rfl args h
@[simp] theorem hint_34_0 : E.hint 34 8 = [.forget 34, .forget 35, .forget 36, .forget 37, .forget 38, .forget 39, .forget 40, .forget 41, .forget 42, .forget 43, .forget 44, .forget 45, .forget 46] := rfl

/-! 35: (*playpen/flow.graph).walk -/
attribute [simp] Try.results35
theorem bo_35 {args : List V} {h : Heap} {r : V × Heap} (hr : evK E (om E) 35 [6] (Try.f35.body.getD .skip) (endK Try.prog Try.f35.results.toList bodyFin) (args ++ pois (109 - args.length)) h = some r) : bodyV E (om E) 35 args h = some r := bodyV_of (dyn := [6]) rfl (by rw [E_P]; exact Try.func35) (by unfold Try.f35; rfl) (by kernel_rfl) (by rw [Try.ntmps35]; exact hr)
theorem he_35 {args : List V} {h : Heap} {r : V × Heap} (hr : evK E (om E) 35 [6] (Try.f35.body.getD .skip) (endK Try.prog Try.f35.results.toList heapFin) (V.upL 1 args ++ pois (109 - (V.upL 1 args).length)) ([] :: h) = some r) : callV E (om E) 35 args h = some r := heap_of (dyn := [6]) rfl rfl rfl (by rw [E_P]; exact Try.func35) (by unfold Try.f35; rfl) (by kernel_rfl) (by rw [Try.ntmps35]; exact hr)
theorem call_35 (args : List V) (h : Heap) : callV E (om E) 35 args h = (bodyV E (om E) 35 (V.upL 1 args) ([] :: h)).bind fun x => (V.freeze [x.2.top] x.1).bind fun r' => some (r', x.2.tail) := callV_heap rfl rfl args h
@[simp] theorem hint_35_0 : E.hint 35 4 = [.forget 13, .forget 14, .forget 15, .forget 17, .forget 24, .forget 25, .forget 26, .forget 27, .forget 28, .forget 29, .forget 30, .forget 31, .forget 32, .forget 33, .forget 34, .forget 35, .forget 36, .forget 37, .forget 38, .forget 39, .forget 40, .forget 41, .forget 42, .forget 43, .forget 44, .forget 45, .forget 46, .forget 47, .forget 48, .forget 49, .forget 50, .forget 51, .forget 52, .forget 53, .forget 54, .forget 55, .forget 56, .forget 57, .forget 58, .forget 59, .forget 60, .forget 61, .forget 62, .forget 63, .forget 64, .forget 65, .forget 66, .forget 67, .forget 68, .forget 69, .forget 70, .forget 71, .forget 72, .forget 73, .forget 74, .forget 75, .forget 76, .forget 77, .forget 78, .forget 79, .forget 80, .forget 81, .forget 82, .forget 83, .forget 84, .forget 85, .forget 86, .forget 87, .forget 88, .forget 89, .forget 90, .forget 91, .forget 92, .forget 93, .forget 94, .forget 95, .forget 96, .forget 97, .forget 98, .forget 99, .forget 100, .forget 101, .forget 102, .forget 103] := rfl
@[simp] theorem hint_35_1 : E.hint 35 16 = [.forget 17, .forget 72, .forget 73, .forget 74, .forget 75, .forget 76, .forget 77, .forget 78, .forget 79, .forget 80, .forget 81, .forget 82, .forget 83, .forget 84, .forget 85, .forget 86, .forget 87, .forget 88, .forget 89, .forget 90, .forget 91, .forget 92, .forget 93, .forget 94, .forget 95, .forget 96, .forget 97, .forget 98, .forget 99, .forget 100, .forget 101, .forget 102, .forget 103] := rfl

/-! 36: playpen/isa.Check -/
attribute [simp] Try.results36
theorem pu_36 {lent : Bool} {args : List V} {r : V} (hr : evK E (om E) 36 [] (Try.f36.body.getD .skip) (endK Try.prog Try.f36.results.toList (pureFin lent)) (args ++ pois (20 - args.length)) [[]] = some r) : pureV E (om E) 36 lent args = some r := pureV_of (dyn := []) rfl (by rw [E_P]; exact Try.func36) (by unfold Try.f36; rfl) (by kernel_rfl) (by rw [Try.ntmps36]; exact hr)
@[simp] theorem call_36 (args : List V) (h : Heap) : callV E (om E) 36 args h = (viewArgs h args).bind fun a => (pureV E (om E) 36 (!V.flatL args) a).map fun r => (r, h) := callV_pure rfl rfl args h

/-! 37: playpen/little.Put[uint32] -/
attribute [simp] Try.results37
theorem pu_37 {lent : Bool} {args : List V} {r : V} (hr : evK E (om E) 37 [] (Try.f37.body.getD .skip) (endK Try.prog Try.f37.results.toList (pureFin lent)) (args ++ pois (17 - args.length)) [[]] = some r) : pureV E (om E) 37 lent args = some r := pureV_of (dyn := []) rfl (by rw [E_P]; exact Try.func37) (by unfold Try.f37; rfl) (by kernel_rfl) (by rw [Try.ntmps37]; exact hr)
@[simp] theorem call_37 (args : List V) (h : Heap) : callV E (om E) 37 args h = (viewArgs h args).bind fun a => (pureV E (om E) 37 (!V.flatL args) a).map fun r => (r, h) := callV_pure rfl rfl args h
@[simp] theorem hint_37_0 : E.hint 37 3 = [.promote 3 1, .forget 5, .forget 9, .forget 10, .forget 11, .forget 12, .forget 13, .forget 14, .forget 15] := rfl

/-! 38: playpen/isa.Size -/
attribute [simp] Try.results38
theorem pu_38 {lent : Bool} {args : List V} {r : V} (hr : evK E (om E) 38 [] (Try.f38.body.getD .skip) (endK Try.prog Try.f38.results.toList (pureFin lent)) (args ++ pois (17 - args.length)) [[]] = some r) : pureV E (om E) 38 lent args = some r := pureV_of (dyn := []) rfl (by rw [E_P]; exact Try.func38) (by unfold Try.f38; rfl) (by kernel_rfl) (by rw [Try.ntmps38]; exact hr)
@[simp] theorem call_38 (args : List V) (h : Heap) : callV E (om E) 38 args h = (viewArgs h args).bind fun a => (pureV E (om E) 38 (!V.flatL args) a).map fun r => (r, h) := callV_pure rfl rfl args h

/-! 39: playpen/procs.inside -/
attribute [simp] Try.results39
theorem pu_39 {lent : Bool} {args : List V} {r : V} (hr : evK E (om E) 39 [] (Try.f39.body.getD .skip) (endK Try.prog Try.f39.results.toList (pureFin lent)) (args ++ pois (15 - args.length)) [[]] = some r) : pureV E (om E) 39 lent args = some r := pureV_of (dyn := []) rfl (by rw [E_P]; exact Try.func39) (by unfold Try.f39; rfl) (by kernel_rfl) (by rw [Try.ntmps39]; exact hr)
@[simp] theorem call_39 (args : List V) (h : Heap) : callV E (om E) 39 args h = (viewArgs h args).bind fun a => (pureV E (om E) 39 (!V.flatL args) a).map fun r => (r, h) := callV_pure rfl rfl args h

/-! 40: (*playpen/procs.Procs).Proc -/
attribute [simp] Try.results40
theorem pu_40 {lent : Bool} {args : List V} {r : V} (hr : evK E (om E) 40 [] (Try.f40.body.getD .skip) (endK Try.prog Try.f40.results.toList (pureFin lent)) (args ++ pois (29 - args.length)) [[]] = some r) : pureV E (om E) 40 lent args = some r := pureV_of (dyn := []) rfl (by rw [E_P]; exact Try.func40) (by unfold Try.f40; rfl) (by kernel_rfl) (by rw [Try.ntmps40]; exact hr)
@[simp] theorem call_40 (args : List V) (h : Heap) : callV E (om E) 40 args h = (viewArgs h args).bind fun a => (pureV E (om E) 40 (!V.flatL args) a).map fun r => (r, h) := callV_pure rfl rfl args h

/-! 41: (*playpen/procs.Procs).All$1 -/
attribute [simp] Try.results41
theorem bo_41 {args : List V} {h : Heap} {r : V × Heap} (hr : evK E (om E) 41 [] (Try.f41.body.getD .skip) (endK Try.prog Try.f41.results.toList bodyFin) (args ++ pois (23 - args.length)) h = some r) : bodyV E (om E) 41 args h = some r := bodyV_of (dyn := []) rfl (by rw [E_P]; exact Try.func41) (by unfold Try.f41; rfl) (by kernel_rfl) (by rw [Try.ntmps41]; exact hr)
theorem he_41 {args : List V} {h : Heap} {r : V × Heap} (hr : evK E (om E) 41 [] (Try.f41.body.getD .skip) (endK Try.prog Try.f41.results.toList heapFin) (V.upL 1 args ++ pois (23 - (V.upL 1 args).length)) ([] :: h) = some r) : callV E (om E) 41 args h = some r := heap_of (dyn := []) rfl rfl rfl (by rw [E_P]; exact Try.func41) (by unfold Try.f41; rfl) (by kernel_rfl) (by rw [Try.ntmps41]; exact hr)
theorem call_41 (args : List V) (h : Heap) : callV E (om E) 41 args h = (bodyV E (om E) 41 (V.upL 1 args) ([] :: h)).bind fun x => (V.freeze [x.2.top] x.1).bind fun r' => some (r', x.2.tail) := callV_heap rfl rfl args h
@[simp] theorem hint_41_0 : E.hint 41 2 = [.forget 3, .forget 4, .forget 13, .forget 14, .forget 15, .forget 16, .forget 17, .forget 18, .forget 19, .forget 20, .forget 21, .forget 22] := rfl

/-! 42: playpen/isa.rows -/
attribute [simp] Try.results42
theorem pu_42 {lent : Bool} {args : List V} {r : V} (hr : evK E (om E) 42 [] (Try.f42.body.getD .skip) (endK Try.prog Try.f42.results.toList (pureFin lent)) (args ++ pois (61 - args.length)) [[]] = some r) : pureV E (om E) 42 lent args = some r := pureV_of (dyn := []) rfl (by rw [E_P]; exact Try.func42) (by unfold Try.f42; rfl) (by kernel_rfl) (by rw [Try.ntmps42]; exact hr)
@[simp] theorem call_42 (args : List V) (h : Heap) : callV E (om E) 42 args h = (viewArgs h args).bind fun a => (pureV E (om E) 42 (!V.flatL args) a).map fun r => (r, h) := callV_pure rfl rfl args h

/-! 43: (*playpen/flow.graph).next -/
attribute [simp] Try.results43
theorem pu_43 {lent : Bool} {args : List V} {r : V} (hr : evK E (om E) 43 [] (Try.f43.body.getD .skip) (endK Try.prog Try.f43.results.toList (pureFin lent)) (args ++ pois (58 - args.length)) [[]] = some r) : pureV E (om E) 43 lent args = some r := pureV_of (dyn := []) rfl (by rw [E_P]; exact Try.func43) (by unfold Try.f43; rfl) (by kernel_rfl) (by rw [Try.ntmps43]; exact hr)
@[simp] theorem call_43 (args : List V) (h : Heap) : callV E (om E) 43 args h = (viewArgs h args).bind fun a => (pureV E (om E) 43 (!V.flatL args) a).map fun r => (r, h) := callV_pure rfl rfl args h

/-! 44: (*playpen/flow.graph).leaders -/
attribute [simp] Try.results44
theorem pu_44 {lent : Bool} {args : List V} {r : V} (hr : evK E (om E) 44 [] (Try.f44.body.getD .skip) (endK Try.prog Try.f44.results.toList (pureFin lent)) (args ++ pois (80 - args.length)) [[]] = some r) : pureV E (om E) 44 lent args = some r := pureV_of (dyn := []) rfl (by rw [E_P]; exact Try.func44) (by unfold Try.f44; rfl) (by kernel_rfl) (by rw [Try.ntmps44]; exact hr)
@[simp] theorem call_44 (args : List V) (h : Heap) : callV E (om E) 44 args h = (viewArgs h args).bind fun a => (pureV E (om E) 44 (!V.flatL args) a).map fun r => (r, h) := callV_pure rfl rfl args h
@[simp] theorem hint_44_0 : E.hint 44 3 = [] := rfl
@[simp] theorem hint_44_1 : E.hint 44 6 = [.forget 7, .forget 33, .forget 34, .forget 35, .forget 36, .forget 37, .forget 38, .forget 39] := rfl
@[simp] theorem hint_44_2 : E.hint 44 11 = [.forget 8, .forget 46, .forget 47, .forget 48, .forget 49, .forget 50, .forget 51, .forget 52, .forget 53, .forget 54, .forget 55, .forget 56, .forget 57, .forget 58, .forget 59, .forget 60, .forget 61, .forget 62, .forget 63, .forget 64, .forget 65, .forget 66, .forget 67, .forget 68, .forget 69, .forget 70, .forget 71, .forget 72, .forget 73, .forget 74, .forget 75, .forget 76, .forget 77, .forget 78] := rfl

/-! 45: (*playpen/flow.tree).come -/
attribute [simp] Try.results45
theorem bo_45 {args : List V} {h : Heap} {r : V × Heap} (hr : evK E (om E) 45 [] (Try.f45.body.getD .skip) (endK Try.prog Try.f45.results.toList bodyFin) (args ++ pois (97 - args.length)) h = some r) : bodyV E (om E) 45 args h = some r := bodyV_of (dyn := []) rfl (by rw [E_P]; exact Try.func45) (by unfold Try.f45; rfl) (by kernel_rfl) (by rw [Try.ntmps45]; exact hr)
theorem he_45 {args : List V} {h : Heap} {r : V × Heap} (hr : evK E (om E) 45 [] (Try.f45.body.getD .skip) (endK Try.prog Try.f45.results.toList heapFin) (V.upL 1 args ++ pois (97 - (V.upL 1 args).length)) ([] :: h) = some r) : callV E (om E) 45 args h = some r := heap_of (dyn := []) rfl rfl rfl (by rw [E_P]; exact Try.func45) (by unfold Try.f45; rfl) (by kernel_rfl) (by rw [Try.ntmps45]; exact hr)
theorem call_45 (args : List V) (h : Heap) : callV E (om E) 45 args h = (bodyV E (om E) 45 (V.upL 1 args) ([] :: h)).bind fun x => (V.freeze [x.2.top] x.1).bind fun r' => some (r', x.2.tail) := callV_heap rfl rfl args h
@[simp] theorem hint_45_0 : E.hint 45 4 = [.promote 5 1, .promote 6 2, .forget 7, .forget 8, .forget 9, .forget 19, .forget 20, .forget 21, .forget 22, .forget 23, .forget 24, .forget 25, .forget 26, .forget 27, .forget 28, .forget 29, .forget 30, .forget 31, .forget 32, .forget 33, .forget 34, .forget 35, .forget 36, .forget 37, .forget 38, .forget 39, .forget 40, .forget 41, .forget 42, .forget 43, .forget 44, .forget 45, .forget 46, .forget 47, .forget 48, .forget 49, .forget 50, .forget 51, .forget 52, .forget 53, .forget 54, .forget 55, .forget 56, .forget 57, .forget 58, .forget 59, .forget 60, .forget 61, .forget 62, .forget 63, .forget 64, .forget 65, .forget 66, .forget 67, .forget 68, .forget 69, .forget 70, .forget 71, .forget 72, .forget 73, .forget 74, .forget 75, .forget 76, .forget 77, .forget 78, .forget 79, .forget 80, .forget 81, .forget 82, .forget 83, .forget 84, .forget 85, .forget 86, .forget 87, .forget 88, .forget 89, .forget 90, .forget 91, .forget 92, .forget 93, .forget 94, .forget 95] := rfl

/-! 46: (*playpen/flow.tree).meet -/
attribute [simp] Try.results46
theorem bo_46 {args : List V} {h : Heap} {r : V × Heap} (hr : evK E (om E) 46 [] (Try.f46.body.getD .skip) (endK Try.prog Try.f46.results.toList bodyFin) (args ++ pois (55 - args.length)) h = some r) : bodyV E (om E) 46 args h = some r := bodyV_of (dyn := []) rfl (by rw [E_P]; exact Try.func46) (by unfold Try.f46; rfl) (by kernel_rfl) (by rw [Try.ntmps46]; exact hr)
theorem he_46 {args : List V} {h : Heap} {r : V × Heap} (hr : evK E (om E) 46 [] (Try.f46.body.getD .skip) (endK Try.prog Try.f46.results.toList heapFin) (V.upL 1 args ++ pois (55 - (V.upL 1 args).length)) ([] :: h) = some r) : callV E (om E) 46 args h = some r := heap_of (dyn := []) rfl rfl rfl (by rw [E_P]; exact Try.func46) (by unfold Try.f46; rfl) (by kernel_rfl) (by rw [Try.ntmps46]; exact hr)
theorem call_46 (args : List V) (h : Heap) : callV E (om E) 46 args h = (bodyV E (om E) 46 (V.upL 1 args) ([] :: h)).bind fun x => (V.freeze [x.2.top] x.1).bind fun r' => some (r', x.2.tail) := callV_heap rfl rfl args h
@[simp] theorem hint_46_0 : E.hint 46 1 = [.forget 7, .forget 8, .forget 9, .forget 10, .forget 11, .forget 12, .forget 13, .forget 14, .forget 15, .forget 16, .forget 17, .forget 18, .forget 19, .forget 20, .forget 21, .forget 22, .forget 23, .forget 24, .forget 25, .forget 26, .forget 27, .forget 28, .forget 29, .forget 30, .forget 31, .forget 32, .forget 33, .forget 34, .forget 35, .forget 36, .forget 37, .forget 38, .forget 39, .forget 40, .forget 41, .forget 42, .forget 43, .forget 44, .forget 45, .forget 46, .forget 47, .forget 48, .forget 49, .forget 50, .forget 51, .forget 52, .forget 53] := rfl
@[simp] theorem hint_46_1 : E.hint 46 2 = [.forget 10, .forget 11, .forget 12, .forget 13, .forget 14, .forget 15, .forget 16, .forget 17, .forget 18, .forget 19, .forget 20, .forget 21, .forget 22, .forget 23, .forget 24, .forget 25, .forget 26, .forget 27, .forget 28, .forget 29, .forget 30, .forget 31] := rfl
@[simp] theorem hint_46_2 : E.hint 46 4 = [.forget 32, .forget 33, .forget 34, .forget 35, .forget 36, .forget 37, .forget 38, .forget 39, .forget 40, .forget 41, .forget 42, .forget 43, .forget 44, .forget 45, .forget 46, .forget 47, .forget 48, .forget 49, .forget 50, .forget 51, .forget 52, .forget 53] := rfl

/-! 47: math/bits.Mul -/
attribute [simp] Try.results47
theorem pu_47 {lent : Bool} {args : List V} {r : V} (hr : evK E (om E) 47 [] (Try.f47.body.getD .skip) (endK Try.prog Try.f47.results.toList (pureFin lent)) (args ++ pois (30 - args.length)) [[]] = some r) : pureV E (om E) 47 lent args = some r := pureV_of (dyn := []) rfl (by rw [E_P]; exact Try.func47) (by unfold Try.f47; rfl) (by kernel_rfl) (by rw [Try.ntmps47]; exact hr)
@[simp] theorem call_47 (args : List V) (h : Heap) : callV E (om E) 47 args h = (viewArgs h args).bind fun a => (pureV E (om E) 47 (!V.flatL args) a).map fun r => (r, h) := callV_pure rfl rfl args h

/-! 48: (playpen/flow.indices).Len -/
attribute [simp] Try.results48
theorem pu_48 {lent : Bool} {args : List V} {r : V} (hr : evK E (om E) 48 [] (Try.f48.body.getD .skip) (endK Try.prog Try.f48.results.toList (pureFin lent)) (args ++ pois (5 - args.length)) [[]] = some r) : pureV E (om E) 48 lent args = some r := pureV_of (dyn := []) rfl (by rw [E_P]; exact Try.func48) (by unfold Try.f48; rfl) (by kernel_rfl) (by rw [Try.ntmps48]; exact hr)
@[simp] theorem call_48 (args : List V) (h : Heap) : callV E (om E) 48 args h = (viewArgs h args).bind fun a => (pureV E (om E) 48 (!V.flatL args) a).map fun r => (r, h) := callV_pure rfl rfl args h

/-! 49: container/heap.Pop -/
attribute [simp] Try.results49
theorem bo_49 {args : List V} {h : Heap} {r : V × Heap} (hr : evK E (om E) 49 [] (Try.f49.body.getD .skip) (endK Try.prog Try.f49.results.toList bodyFin) (args ++ pois (15 - args.length)) h = some r) : bodyV E (om E) 49 args h = some r := bodyV_of (dyn := []) rfl (by rw [E_P]; exact Try.func49) (by unfold Try.f49; rfl) (by kernel_rfl) (by rw [Try.ntmps49]; exact hr)
theorem he_49 {args : List V} {h : Heap} {r : V × Heap} (hr : evK E (om E) 49 [] (Try.f49.body.getD .skip) (endK Try.prog Try.f49.results.toList heapFin) (V.upL 1 args ++ pois (15 - (V.upL 1 args).length)) ([] :: h) = some r) : callV E (om E) 49 args h = some r := heap_of (dyn := []) rfl rfl rfl (by rw [E_P]; exact Try.func49) (by unfold Try.f49; rfl) (by kernel_rfl) (by rw [Try.ntmps49]; exact hr)
theorem call_49 (args : List V) (h : Heap) : callV E (om E) 49 args h = (bodyV E (om E) 49 (V.upL 1 args) ([] :: h)).bind fun x => (V.freeze [x.2.top] x.1).bind fun r' => some (r', x.2.tail) := callV_heap rfl rfl args h

/-! 50: (*playpen/flow.graph).info -/
attribute [simp] Try.results50
theorem pu_50 {lent : Bool} {args : List V} {r : V} (hr : evK E (om E) 50 [] (Try.f50.body.getD .skip) (endK Try.prog Try.f50.results.toList (pureFin lent)) (args ++ pois (20 - args.length)) [[]] = some r) : pureV E (om E) 50 lent args = some r := pureV_of (dyn := []) rfl (by rw [E_P]; exact Try.func50) (by unfold Try.f50; rfl) (by kernel_rfl) (by rw [Try.ntmps50]; exact hr)
@[simp] theorem call_50 (args : List V) (h : Heap) : callV E (om E) 50 args h = (viewArgs h args).bind fun a => (pureV E (om E) 50 (!V.flatL args) a).map fun r => (r, h) := callV_pure rfl rfl args h

/-! 51: container/heap.Push -/
attribute [simp] Try.results51
theorem bo_51 {args : List V} {h : Heap} {r : V × Heap} (hr : evK E (om E) 51 [] (Try.f51.body.getD .skip) (endK Try.prog Try.f51.results.toList bodyFin) (args ++ pois (12 - args.length)) h = some r) : bodyV E (om E) 51 args h = some r := bodyV_of (dyn := []) rfl (by rw [E_P]; exact Try.func51) (by unfold Try.f51; rfl) (by kernel_rfl) (by rw [Try.ntmps51]; exact hr)
theorem he_51 {args : List V} {h : Heap} {r : V × Heap} (hr : evK E (om E) 51 [] (Try.f51.body.getD .skip) (endK Try.prog Try.f51.results.toList heapFin) (V.upL 1 args ++ pois (12 - (V.upL 1 args).length)) ([] :: h) = some r) : callV E (om E) 51 args h = some r := heap_of (dyn := []) rfl rfl rfl (by rw [E_P]; exact Try.func51) (by unfold Try.f51; rfl) (by kernel_rfl) (by rw [Try.ntmps51]; exact hr)
theorem call_51 (args : List V) (h : Heap) : callV E (om E) 51 args h = (bodyV E (om E) 51 (V.upL 1 args) ([] :: h)).bind fun x => (V.freeze [x.2.top] x.1).bind fun r' => some (r', x.2.tail) := callV_heap rfl rfl args h

/-! 52: playpen/little.lay[uint32] -/
attribute [simp] Try.results52
theorem bo_52 {args : List V} {h : Heap} {r : V × Heap} (hr : evK E (om E) 52 [] (Try.f52.body.getD .skip) (endK Try.prog Try.f52.results.toList bodyFin) (args ++ pois (21 - args.length)) h = some r) : bodyV E (om E) 52 args h = some r := bodyV_of (dyn := []) rfl (by rw [E_P]; exact Try.func52) (by unfold Try.f52; rfl) (by kernel_rfl) (by rw [Try.ntmps52]; exact hr)
theorem he_52 {args : List V} {h : Heap} {r : V × Heap} (hr : evK E (om E) 52 [] (Try.f52.body.getD .skip) (endK Try.prog Try.f52.results.toList heapFin) (V.upL 1 args ++ pois (21 - (V.upL 1 args).length)) ([] :: h) = some r) : callV E (om E) 52 args h = some r := heap_of (dyn := []) rfl rfl rfl (by rw [E_P]; exact Try.func52) (by unfold Try.f52; rfl) (by kernel_rfl) (by rw [Try.ntmps52]; exact hr)
theorem call_52 (args : List V) (h : Heap) : callV E (om E) 52 args h = (bodyV E (om E) 52 (V.upL 1 args) ([] :: h)).bind fun x => (V.freeze [x.2.top] x.1).bind fun r' => some (r', x.2.tail) := callV_heap rfl rfl args h
@[simp] theorem hint_52_0 : E.hint 52 2 = [.promote 0 1, .forget 5, .forget 8, .forget 9, .forget 10, .forget 11, .forget 12, .forget 13, .forget 14, .forget 15, .forget 16, .forget 17, .forget 18, .forget 19] := rfl

/-! 53: slices.Compact[[]uint32,uint32] -/
attribute [simp] Try.results53
theorem bo_53 {args : List V} {h : Heap} {r : V × Heap} (hr : evK E (om E) 53 [] (Try.f53.body.getD .skip) (endK Try.prog Try.f53.results.toList bodyFin) (args ++ pois (61 - args.length)) h = some r) : bodyV E (om E) 53 args h = some r := bodyV_of (dyn := []) rfl (by rw [E_P]; exact Try.func53) (by unfold Try.f53; rfl) (by kernel_rfl) (by rw [Try.ntmps53]; exact hr)
theorem he_53 {args : List V} {h : Heap} {r : V × Heap} (hr : evK E (om E) 53 [] (Try.f53.body.getD .skip) (endK Try.prog Try.f53.results.toList heapFin) (V.upL 1 args ++ pois (61 - (V.upL 1 args).length)) ([] :: h) = some r) : callV E (om E) 53 args h = some r := heap_of (dyn := []) rfl rfl rfl (by rw [E_P]; exact Try.func53) (by unfold Try.f53; rfl) (by kernel_rfl) (by rw [Try.ntmps53]; exact hr)
theorem call_53 (args : List V) (h : Heap) : callV E (om E) 53 args h = (bodyV E (om E) 53 (V.upL 1 args) ([] :: h)).bind fun x => (V.freeze [x.2.top] x.1).bind fun r' => some (r', x.2.tail) := callV_heap rfl rfl args h
@[simp] theorem hint_53_0 : E.hint 53 4 = [.forget 2, .forget 4, .forget 5, .forget 10, .forget 11, .forget 12, .forget 13, .forget 14, .forget 15, .forget 16, .forget 17, .forget 18, .forget 19, .forget 20, .forget 21, .forget 22, .forget 23, .forget 24, .forget 25, .forget 26, .forget 27, .forget 28, .forget 29, .forget 30, .forget 31, .forget 32, .forget 33, .forget 34, .forget 35, .forget 36, .forget 37, .forget 38, .forget 39, .forget 40, .forget 41, .forget 42, .forget 43, .forget 44, .forget 45, .forget 46, .forget 47, .forget 48, .forget 49, .forget 50, .forget 51, .forget 52, .forget 53, .forget 54, .forget 55, .forget 56, .forget 57, .forget 58, .forget 59] := rfl
@[simp] theorem hint_53_1 : E.hint 53 9 = [.forget 29, .forget 30, .forget 31, .forget 32, .forget 33, .forget 34, .forget 35, .forget 36, .forget 37, .forget 38, .forget 39, .forget 40, .forget 41, .forget 42, .forget 43, .forget 44, .forget 45, .forget 46, .forget 47, .forget 48, .forget 49, .forget 50, .forget 51, .forget 52, .forget 53] := rfl

/-! 54: (*playpen/procs.Procs).Targets -/
attribute [simp] Try.results54
theorem pu_54 {lent : Bool} {args : List V} {r : V} (hr : evK E (om E) 54 [] (Try.f54.body.getD .skip) (endK Try.prog Try.f54.results.toList (pureFin lent)) (args ++ pois (23 - args.length)) [[]] = some r) : pureV E (om E) 54 lent args = some r := pureV_of (dyn := []) rfl (by rw [E_P]; exact Try.func54) (by unfold Try.f54; rfl) (by kernel_rfl) (by rw [Try.ntmps54]; exact hr)
@[simp] theorem call_54 (args : List V) (h : Heap) : callV E (om E) 54 args h = (viewArgs h args).bind fun a => (pureV E (om E) 54 (!V.flatL args) a).map fun r => (r, h) := callV_pure rfl rfl args h

/-! 55: math/bits.Mul32 -/
attribute [simp] Try.results55
theorem pu_55 {lent : Bool} {args : List V} {r : V} (hr : evK E (om E) 55 [] (Try.f55.body.getD .skip) (endK Try.prog Try.f55.results.toList (pureFin lent)) (args ++ pois (17 - args.length)) [[]] = some r) : pureV E (om E) 55 lent args = some r := pureV_of (dyn := []) rfl (by rw [E_P]; exact Try.func55) (by unfold Try.f55; rfl) (by kernel_rfl) (by rw [Try.ntmps55]; exact hr)
@[simp] theorem call_55 (args : List V) (h : Heap) : callV E (om E) 55 args h = (viewArgs h args).bind fun a => (pureV E (om E) 55 (!V.flatL args) a).map fun r => (r, h) := callV_pure rfl rfl args h

/-! 56: math/bits.Mul64 -/
attribute [simp] Try.results56
theorem pu_56 {lent : Bool} {args : List V} {r : V} (hr : evK E (om E) 56 [] (Try.f56.body.getD .skip) (endK Try.prog Try.f56.results.toList (pureFin lent)) (args ++ pois (51 - args.length)) [[]] = some r) : pureV E (om E) 56 lent args = some r := pureV_of (dyn := []) rfl (by rw [E_P]; exact Try.func56) (by unfold Try.f56; rfl) (by kernel_rfl) (by rw [Try.ntmps56]; exact hr)
@[simp] theorem call_56 (args : List V) (h : Heap) : callV E (om E) 56 args h = (viewArgs h args).bind fun a => (pureV E (om E) 56 (!V.flatL args) a).map fun r => (r, h) := callV_pure rfl rfl args h

/-! 57: container/heap.down -/
attribute [simp] Try.results57
theorem bo_57 {args : List V} {h : Heap} {r : V × Heap} (hr : evK E (om E) 57 [] (Try.f57.body.getD .skip) (endK Try.prog Try.f57.results.toList bodyFin) (args ++ pois (48 - args.length)) h = some r) : bodyV E (om E) 57 args h = some r := bodyV_of (dyn := []) rfl (by rw [E_P]; exact Try.func57) (by unfold Try.f57; rfl) (by kernel_rfl) (by rw [Try.ntmps57]; exact hr)
theorem he_57 {args : List V} {h : Heap} {r : V × Heap} (hr : evK E (om E) 57 [] (Try.f57.body.getD .skip) (endK Try.prog Try.f57.results.toList heapFin) (V.upL 1 args ++ pois (48 - (V.upL 1 args).length)) ([] :: h) = some r) : callV E (om E) 57 args h = some r := heap_of (dyn := []) rfl rfl rfl (by rw [E_P]; exact Try.func57) (by unfold Try.f57; rfl) (by kernel_rfl) (by rw [Try.ntmps57]; exact hr)
theorem call_57 (args : List V) (h : Heap) : callV E (om E) 57 args h = (bodyV E (om E) 57 (V.upL 1 args) ([] :: h)).bind fun x => (V.freeze [x.2.top] x.1).bind fun r' => some (r', x.2.tail) := callV_heap rfl rfl args h
@[simp] theorem hint_57_0 : E.hint 57 2 = [.forget 8, .forget 9, .forget 10, .forget 12, .forget 13, .forget 14, .forget 15, .forget 16, .forget 17, .forget 18, .forget 19, .forget 20, .forget 21, .forget 22, .forget 23, .forget 24, .forget 25, .forget 26, .forget 27, .forget 28, .forget 29, .forget 30, .forget 31, .forget 32, .forget 33, .forget 34, .forget 35, .forget 36, .forget 37, .forget 38, .forget 39, .forget 40, .forget 41, .forget 42, .forget 43, .forget 44] := rfl

/-! 58: container/heap.up -/
attribute [simp] Try.results58
theorem bo_58 {args : List V} {h : Heap} {r : V × Heap} (hr : evK E (om E) 58 [] (Try.f58.body.getD .skip) (endK Try.prog Try.f58.results.toList bodyFin) (args ++ pois (23 - args.length)) h = some r) : bodyV E (om E) 58 args h = some r := bodyV_of (dyn := []) rfl (by rw [E_P]; exact Try.func58) (by unfold Try.f58; rfl) (by kernel_rfl) (by rw [Try.ntmps58]; exact hr)
theorem he_58 {args : List V} {h : Heap} {r : V × Heap} (hr : evK E (om E) 58 [] (Try.f58.body.getD .skip) (endK Try.prog Try.f58.results.toList heapFin) (V.upL 1 args ++ pois (23 - (V.upL 1 args).length)) ([] :: h) = some r) : callV E (om E) 58 args h = some r := heap_of (dyn := []) rfl rfl rfl (by rw [E_P]; exact Try.func58) (by unfold Try.f58; rfl) (by kernel_rfl) (by rw [Try.ntmps58]; exact hr)
theorem call_58 (args : List V) (h : Heap) : callV E (om E) 58 args h = (bodyV E (om E) 58 (V.upL 1 args) ([] :: h)).bind fun x => (V.freeze [x.2.top] x.1).bind fun r' => some (r', x.2.tail) := callV_heap rfl rfl args h
@[simp] theorem hint_58_0 : E.hint 58 0 = [.forget 4, .forget 5, .forget 6, .forget 7, .forget 8, .forget 9, .forget 10, .forget 11, .forget 12, .forget 13, .forget 14, .forget 15, .forget 16, .forget 17, .forget 18, .forget 19, .forget 20, .forget 21, .forget 22] := rfl

/-! 59: playpen/little.width[uint32] -/
attribute [simp] Try.results59
theorem pu_59 {lent : Bool} {args : List V} {r : V} (hr : evK E (om E) 59 [] (Try.f59.body.getD .skip) (endK Try.prog Try.f59.results.toList (pureFin lent)) (args ++ pois (14 - args.length)) [[]] = some r) : pureV E (om E) 59 lent args = some r := pureV_of (dyn := []) rfl (by rw [E_P]; exact Try.func59) (by unfold Try.f59; rfl) (by kernel_rfl) (by rw [Try.ntmps59]; exact hr)
@[simp] theorem call_59 (args : List V) (h : Heap) : callV E (om E) 59 args h = (viewArgs h args).bind fun a => (pureV E (om E) 59 (!V.flatL args) a).map fun r => (r, h) := callV_pure rfl rfl args h
@[simp] theorem hint_59_0 : E.hint 59 3 = [.forget 5, .forget 6, .forget 7, .forget 8, .forget 9, .forget 10, .forget 11, .forget 12] := rfl

/-! 77: (playpen/flow.indices).Less -/
attribute [simp] Try.results77
theorem pu_77 {lent : Bool} {args : List V} {r : V} (hr : evK E (om E) 77 [] (Try.f77.body.getD .skip) (endK Try.prog Try.f77.results.toList (pureFin lent)) (args ++ pois (16 - args.length)) [[]] = some r) : pureV E (om E) 77 lent args = some r := pureV_of (dyn := []) rfl (by rw [E_P]; exact Try.func77) (by unfold Try.f77; rfl) (by kernel_rfl) (by rw [Try.ntmps77]; exact hr)
@[simp] theorem call_77 (args : List V) (h : Heap) : callV E (om E) 77 args h = (viewArgs h args).bind fun a => (pureV E (om E) 77 (!V.flatL args) a).map fun r => (r, h) := callV_pure rfl rfl args h

/-! 78: (*playpen/flow.indices).Pop -/
attribute [simp] Try.results78
theorem bo_78 {args : List V} {h : Heap} {r : V × Heap} (hr : evK E (om E) 78 [] (Try.f78.body.getD .skip) (endK Try.prog Try.f78.results.toList bodyFin) (args ++ pois (27 - args.length)) h = some r) : bodyV E (om E) 78 args h = some r := bodyV_of (dyn := []) rfl (by rw [E_P]; exact Try.func78) (by unfold Try.f78; rfl) (by kernel_rfl) (by rw [Try.ntmps78]; exact hr)
theorem he_78 {args : List V} {h : Heap} {r : V × Heap} (hr : evK E (om E) 78 [] (Try.f78.body.getD .skip) (endK Try.prog Try.f78.results.toList heapFin) (V.upL 1 args ++ pois (27 - (V.upL 1 args).length)) ([] :: h) = some r) : callV E (om E) 78 args h = some r := heap_of (dyn := []) rfl rfl rfl (by rw [E_P]; exact Try.func78) (by unfold Try.f78; rfl) (by kernel_rfl) (by rw [Try.ntmps78]; exact hr)
theorem call_78 (args : List V) (h : Heap) : callV E (om E) 78 args h = (bodyV E (om E) 78 (V.upL 1 args) ([] :: h)).bind fun x => (V.freeze [x.2.top] x.1).bind fun r' => some (r', x.2.tail) := callV_heap rfl rfl args h

/-! 79: (*playpen/flow.indices).Push -/
attribute [simp] Try.results79
theorem bo_79 {args : List V} {h : Heap} {r : V × Heap} (hr : evK E (om E) 79 [] (Try.f79.body.getD .skip) (endK Try.prog Try.f79.results.toList bodyFin) (args ++ pois (13 - args.length)) h = some r) : bodyV E (om E) 79 args h = some r := bodyV_of (dyn := []) rfl (by rw [E_P]; exact Try.func79) (by unfold Try.f79; rfl) (by kernel_rfl) (by rw [Try.ntmps79]; exact hr)
theorem he_79 {args : List V} {h : Heap} {r : V × Heap} (hr : evK E (om E) 79 [] (Try.f79.body.getD .skip) (endK Try.prog Try.f79.results.toList heapFin) (V.upL 1 args ++ pois (13 - (V.upL 1 args).length)) ([] :: h) = some r) : callV E (om E) 79 args h = some r := heap_of (dyn := []) rfl rfl rfl (by rw [E_P]; exact Try.func79) (by unfold Try.f79; rfl) (by kernel_rfl) (by rw [Try.ntmps79]; exact hr)
theorem call_79 (args : List V) (h : Heap) : callV E (om E) 79 args h = (bodyV E (om E) 79 (V.upL 1 args) ([] :: h)).bind fun x => (V.freeze [x.2.top] x.1).bind fun r' => some (r', x.2.tail) := callV_heap rfl rfl args h

/-! 80: (playpen/flow.indices).Swap -/
attribute [simp] Try.results80
theorem bo_80 {args : List V} {h : Heap} {r : V × Heap} (hr : evK E (om E) 80 [] (Try.f80.body.getD .skip) (endK Try.prog Try.f80.results.toList bodyFin) (args ++ pois (20 - args.length)) h = some r) : bodyV E (om E) 80 args h = some r := bodyV_of (dyn := []) rfl (by rw [E_P]; exact Try.func80) (by unfold Try.f80; rfl) (by kernel_rfl) (by rw [Try.ntmps80]; exact hr)
theorem he_80 {args : List V} {h : Heap} {r : V × Heap} (hr : evK E (om E) 80 [] (Try.f80.body.getD .skip) (endK Try.prog Try.f80.results.toList heapFin) (V.upL 1 args ++ pois (20 - (V.upL 1 args).length)) ([] :: h) = some r) : callV E (om E) 80 args h = some r := heap_of (dyn := []) rfl rfl rfl (by rw [E_P]; exact Try.func80) (by unfold Try.f80; rfl) (by kernel_rfl) (by rw [Try.ntmps80]; exact hr)
theorem call_80 (args : List V) (h : Heap) : callV E (om E) 80 args h = (bodyV E (om E) 80 (V.upL 1 args) ([] :: h)).bind fun x => (V.freeze [x.2.top] x.1).bind fun r' => some (r', x.2.tail) := callV_heap rfl rfl args h
end Go.Proofs.Ytpfodignhibjgaa
end
section
namespace Go.Proofs.Ytpfodignhibjgaa
open Go Go.Sim
set_option maxRecDepth 100000
set_option linter.unusedVariables false
set_option linter.unusedSimpArgs false

theorem fnOk : FnOk E (fun _ => true) where
  frame := by
    intro g F hg hF
    exact absurd hg Bool.false_ne_true
  good := by
    have h : (Try.prog.funcs.toList.all fun fn => match fn.body with | none => true | some c => goodCode (fun _ => true) c && !(fn.name == "runtime.NumGoroutine")) = true := by kernel_rfl
    intro f fn c hf h1 h2
    rw [E_P] at h1
    have := List.all_eq_true.1 h fn (Array.mem_toList_iff.2 (Array.mem_of_getElem? h1))
    rw [h2] at this
    simpa using this
theorem eqOk : EqOk E := by
  have h : (E.eqTypes.all fun t => !Try.prog.stoodInHeld t && !Try.prog.eqGuardType Try.prog.depth t) = true := by kernel_rfl
  intro t ht
  have := List.all_eq_true.1 h t (by simpa using ht)
  simpa using this
theorem knownOk : KnownOk E (fun _ => true) := by
  intro f F hF
  change knownT f = some F at hF
  unfold knownT at hF
  split at hF
  · obtain rfl := (Option.some.inj hF).symm
    exact known_32
  · obtain rfl := (Option.some.inj hF).symm
    exact known_33
  · cases hF
theorem knownIn : KnownIn E := by
  intro f F hF
  change knownT f = some F at hF
  unfold knownT at hF
  split at hF
  · exact ⟨Try.f32, Try.f32.body.getD .skip, Try.func32, by kernel_rfl, by simp [Try.f32]⟩
  · exact ⟨Try.f33, Try.f33.body.getD .skip, Try.func33, by kernel_rfl, by simp [Try.f33]⟩
  · cases hF
end Go.Proofs.Ytpfodignhibjgaa
end
