/-
  The machine's settings over this seat's program. Printed by program.
  What the machine of values takes for known is so; what it asks of the program's functions. Printed by program.
-/
import Derived.Test.YtjmipgfaghjgmaaNa
import Derived.Test.YtjmipgfaghjgmaaNc
section
namespace Go.Proofs.Ytjmipgfaghjgmaa
open Go Go.Sim
set_option maxRecDepth 100000
set_option linter.unusedVariables false
set_option linter.unusedSimpArgs false
def modeT (f : Nat) : Sim.Mode :=
  match f with
  | 70 => .heap
  | 68 => .heap
  | 71 => .heap
  | 69 => .heap
  | 10 => .heap
  | 20 => .heap
  | 12 => .heap
  | 13 => .heap
  | 21 => .heap
  | 9 => .live
  | 16 => .live
  | 29 => .heap
  | _ => .pure
def hintT (f r : Nat) : List Hint :=
  match f, r with
  | 3, 17 => [.forget 12, .forget 94, .forget 95, .forget 96, .forget 97, .forget 98, .forget 99, .forget 100, .forget 101, .forget 102, .forget 103, .forget 104, .forget 105, .forget 106, .forget 107, .forget 108, .forget 109, .forget 110, .forget 111, .forget 112, .forget 113, .forget 114, .forget 115, .forget 116, .forget 117, .forget 118, .forget 119, .forget 120, .forget 121, .forget 122, .forget 123, .forget 124, .forget 125, .forget 126, .forget 127, .forget 128, .forget 129, .forget 130, .forget 131, .forget 132, .forget 133, .forget 134, .forget 135, .forget 136, .forget 137, .forget 138, .forget 139, .forget 140, .forget 141, .forget 142, .forget 143, .forget 144, .forget 145, .forget 146, .forget 147, .forget 148, .forget 149, .forget 150, .forget 151, .forget 152, .forget 153, .forget 154, .forget 155, .forget 156, .forget 157, .forget 158, .forget 159, .forget 160, .forget 161, .forget 162, .forget 163, .forget 164, .forget 165, .forget 166, .forget 167, .forget 168, .forget 169, .forget 170, .forget 171, .forget 172, .forget 173, .forget 174]
  | 4, 5 => [.promote 9 2, .forget 11, .forget 18, .forget 19, .forget 20, .forget 21, .forget 22, .forget 23, .forget 24, .forget 25, .forget 26, .forget 27, .forget 28, .forget 29, .forget 30, .forget 31, .forget 32, .forget 33, .forget 34, .forget 35, .forget 36, .forget 37, .forget 38, .forget 39, .forget 40, .forget 41, .forget 42, .forget 43, .forget 44, .forget 45, .forget 46, .forget 47, .forget 48, .forget 49, .forget 50, .forget 51, .forget 52, .forget 53]
  | 5, 6 => [.forget 0, .forget 6, .forget 7, .forget 36, .forget 37, .forget 38, .forget 39, .forget 40, .forget 41, .forget 42, .forget 43, .forget 44, .forget 45, .forget 46, .forget 47, .forget 48, .forget 49, .forget 50, .forget 51, .forget 52, .forget 53, .forget 54, .forget 55, .forget 56, .forget 57, .forget 58, .forget 59, .forget 60, .forget 61, .forget 62, .forget 63, .forget 64]
  | 8, 8 => [.forget 11, .forget 12, .forget 29, .forget 30, .forget 31, .forget 32, .forget 33, .forget 34, .forget 35, .forget 36, .forget 37, .forget 38, .forget 39, .forget 40, .forget 41, .forget 42, .forget 43, .forget 44, .forget 45, .forget 46, .forget 47, .forget 48, .forget 49]
  | 9, 4 => [.forget 24, .forget 25, .forget 26, .forget 27, .forget 28, .forget 29, .forget 30, .forget 31, .forget 32, .forget 33, .forget 34, .forget 35, .forget 36, .forget 37, .forget 38, .forget 39, .forget 40, .forget 41, .forget 42]
  | 11, 4 => [.forget 4, .forget 11, .forget 12, .forget 13, .forget 14, .forget 15, .forget 16, .forget 17, .forget 18, .forget 19, .forget 20, .forget 21, .forget 22, .forget 23, .forget 24, .forget 25]
  | 21, 1 => [.forget 9, .forget 10, .forget 11, .forget 12, .forget 13, .forget 14, .forget 15, .forget 16, .forget 17, .forget 18, .forget 19, .forget 20, .forget 21, .forget 22, .forget 23, .forget 24, .forget 25, .forget 26]
  | 22, 3 => [.forget 11, .forget 12, .forget 13, .forget 14, .forget 15, .forget 16, .forget 17, .forget 18, .forget 19, .forget 20, .forget 21, .forget 22, .forget 23, .forget 24, .forget 25, .forget 26, .forget 27, .forget 28]
  | 29, 1 => [.forget 6, .forget 7, .forget 9, .forget 10, .forget 11, .forget 12, .forget 13, .forget 14, .forget 15, .forget 16, .forget 17, .forget 18, .forget 19, .forget 20, .forget 21, .forget 22, .forget 23, .forget 24, .forget 25, .forget 26, .forget 27, .forget 28, .forget 29, .forget 30]
  | 52, 5 => [.forget 6, .forget 7, .forget 8, .forget 28, .forget 29, .forget 30, .forget 31, .forget 32, .forget 33, .forget 34, .forget 35, .forget 36, .forget 37, .forget 38, .forget 39, .forget 40, .forget 41, .forget 42, .forget 43, .forget 44, .forget 45, .forget 46, .forget 47, .forget 48, .forget 49, .forget 50, .forget 51, .forget 52, .forget 53, .forget 54, .forget 55, .forget 56, .forget 57, .forget 58, .forget 59, .forget 60, .forget 61, .forget 62]
  | 61, 9 => [.forget 12, .forget 37, .forget 38, .forget 39, .forget 40, .forget 41, .forget 42, .forget 43, .forget 44, .forget 45, .forget 46, .forget 47, .forget 48, .forget 49, .forget 50, .forget 51, .forget 52, .forget 53, .forget 54, .forget 55, .forget 56, .forget 57, .forget 58, .forget 59, .forget 60, .forget 61, .forget 62, .forget 63, .forget 64, .forget 65, .forget 66, .forget 67, .forget 68, .forget 69, .forget 70, .forget 71, .forget 72, .forget 73, .forget 74, .forget 75, .forget 76, .forget 77, .forget 78, .forget 79, .forget 80, .forget 81, .forget 82, .forget 83, .forget 84, .forget 85, .forget 86, .forget 87, .forget 88, .forget 89, .forget 90, .forget 91, .forget 92, .forget 93, .forget 94]
  | 62, 2 => [.forget 6, .forget 7, .forget 8, .forget 9, .forget 10, .forget 11, .forget 12, .forget 13, .forget 14, .forget 15, .forget 16, .forget 17, .forget 18, .forget 19, .forget 20, .forget 21, .forget 22, .forget 23, .forget 24, .forget 25, .forget 26, .forget 27, .forget 28, .forget 29, .forget 30, .forget 31, .forget 32, .forget 33, .forget 34, .forget 35]
  | _, _ => []
noncomputable def knownT (f : Nat) : Option (List V → Heap → Option (V × Heap)) :=
  match f with
  | 28 => some (cloneWL 17592186044416 2)
  | 55 => some (knUU fun a b => .int .u32 (arithF .add a b))
  | 56 => some (knUU fun a b => .int .u32 (arithF .sub a b))
  | 57 => some (knUU fun a b => .int .u32 (arithF .mul a b))
  | 58 => some (knUU fun a b => .int .u32 (arithF .quo a b))
  | 32 => some (knUU fun a b => .int .u8 (standF a b))
  | 35 => some (knU fun a => .int .i32 (towardF a))
  | 34 => some (knI fun a => .int .u32 (ofF a))
  | 26 => some (knOUU fun o a b => .tuple [.int .u32 (binW o a b), .int .i64 (binE o b)])
  | 10 => some (popK)
  | _ => none
noncomputable def E : Env := { P := Try.prog, mode := modeT, hint := hintT, known := knownT, eqTypes := [30, 39, 36], fns := fun f => Nat.blt f 89, frame := fun f => Nat.beq f 10 }
@[simp] theorem E_P : E.P = Try.prog := rfl
/-! 2: gosem.cut.init -/
attribute [simp] Try.results2
theorem pu_2 {lent : Bool} {args : List V} {r : V} (hr : evK E (om E) 2 [] (Try.f2.body.getD .skip) (endK Try.prog Try.f2.results.toList (pureFin lent)) (args ++ pois (1 - args.length)) [[]] = some r) : pureV E (om E) 2 lent args = some r := pureV_of (dyn := []) rfl (by rw [E_P]; exact Try.func2) (by unfold Try.f2; rfl) (by kernel_rfl) (by rw [Try.ntmps2]; exact hr)
@[simp] theorem call_2 (args : List V) (h : Heap) : callV E (om E) 2 args h = (viewArgs h args).bind fun a => (pureV E (om E) 2 (!V.flatL args) a).map fun r => (r, h) := callV_pure rfl rfl args h

/-! 3: playpen/playpenlaw22.FuseMeans -/
attribute [simp] Try.results3
theorem pu_3 {lent : Bool} {args : List V} {r : V} (hr : evK E (om E) 3 [22] (Try.f3.body.getD .skip) (endK Try.prog Try.f3.results.toList (pureFin lent)) (args ++ pois (184 - args.length)) [[]] = some r) : pureV E (om E) 3 lent args = some r := pureV_of (dyn := [22]) rfl (by rw [E_P]; exact Try.func3) (by unfold Try.f3; rfl) (by kernel_rfl) (by rw [Try.ntmps3]; exact hr)
@[simp] theorem call_3 (args : List V) (h : Heap) : callV E (om E) 3 args h = (viewArgs h args).bind fun a => (pureV E (om E) 3 (!V.flatL args) a).map fun r => (r, h) := callV_pure rfl rfl args h
@[simp] theorem hint_3_0 : E.hint 3 17 = [.forget 12, .forget 94, .forget 95, .forget 96, .forget 97, .forget 98, .forget 99, .forget 100, .forget 101, .forget 102, .forget 103, .forget 104, .forget 105, .forget 106, .forget 107, .forget 108, .forget 109, .forget 110, .forget 111, .forget 112, .forget 113, .forget 114, .forget 115, .forget 116, .forget 117, .forget 118, .forget 119, .forget 120, .forget 121, .forget 122, .forget 123, .forget 124, .forget 125, .forget 126, .forget 127, .forget 128, .forget 129, .forget 130, .forget 131, .forget 132, .forget 133, .forget 134, .forget 135, .forget 136, .forget 137, .forget 138, .forget 139, .forget 140, .forget 141, .forget 142, .forget 143, .forget 144, .forget 145, .forget 146, .forget 147, .forget 148, .forget 149, .forget 150, .forget 151, .forget 152, .forget 153, .forget 154, .forget 155, .forget 156, .forget 157, .forget 158, .forget 159, .forget 160, .forget 161, .forget 162, .forget 163, .forget 164, .forget 165, .forget 166, .forget 167, .forget 168, .forget 169, .forget 170, .forget 171, .forget 172, .forget 173, .forget 174] := rfl

/-! 4: playpen/playpenlaw22.FuseApart -/
attribute [simp] Try.results4
theorem pu_4 {lent : Bool} {args : List V} {r : V} (hr : evK E (om E) 4 [] (Try.f4.body.getD .skip) (endK Try.prog Try.f4.results.toList (pureFin lent)) (args ++ pois (76 - args.length)) [[]] = some r) : pureV E (om E) 4 lent args = some r := pureV_of (dyn := []) rfl (by rw [E_P]; exact Try.func4) (by unfold Try.f4; rfl) (by kernel_rfl) (by rw [Try.ntmps4]; exact hr)
@[simp] theorem call_4 (args : List V) (h : Heap) : callV E (om E) 4 args h = (viewArgs h args).bind fun a => (pureV E (om E) 4 (!V.flatL args) a).map fun r => (r, h) := callV_pure rfl rfl args h
@[simp] theorem hint_4_0 : E.hint 4 5 = [.promote 9 2, .forget 11, .forget 18, .forget 19, .forget 20, .forget 21, .forget 22, .forget 23, .forget 24, .forget 25, .forget 26, .forget 27, .forget 28, .forget 29, .forget 30, .forget 31, .forget 32, .forget 33, .forget 34, .forget 35, .forget 36, .forget 37, .forget 38, .forget 39, .forget 40, .forget 41, .forget 42, .forget 43, .forget 44, .forget 45, .forget 46, .forget 47, .forget 48, .forget 49, .forget 50, .forget 51, .forget 52, .forget 53] := rfl

/-! 5: playpen/playpenlaw22.FuseKnown -/
attribute [simp] Try.results5
theorem pu_5 {lent : Bool} {args : List V} {r : V} (hr : evK E (om E) 5 [] (Try.f5.body.getD .skip) (endK Try.prog Try.f5.results.toList (pureFin lent)) (args ++ pois (93 - args.length)) [[]] = some r) : pureV E (om E) 5 lent args = some r := pureV_of (dyn := []) rfl (by rw [E_P]; exact Try.func5) (by unfold Try.f5; rfl) (by kernel_rfl) (by rw [Try.ntmps5]; exact hr)
@[simp] theorem call_5 (args : List V) (h : Heap) : callV E (om E) 5 args h = (viewArgs h args).bind fun a => (pureV E (om E) 5 (!V.flatL args) a).map fun r => (r, h) := callV_pure rfl rfl args h
@[simp] theorem hint_5_0 : E.hint 5 6 = [.forget 0, .forget 6, .forget 7, .forget 36, .forget 37, .forget 38, .forget 39, .forget 40, .forget 41, .forget 42, .forget 43, .forget 44, .forget 45, .forget 46, .forget 47, .forget 48, .forget 49, .forget 50, .forget 51, .forget 52, .forget 53, .forget 54, .forget 55, .forget 56, .forget 57, .forget 58, .forget 59, .forget 60, .forget 61, .forget 62, .forget 63, .forget 64] := rfl

/-! 6: playpen/playpenlaw22.FuseCovers -/
attribute [simp] Try.results6
theorem pu_6 {lent : Bool} {args : List V} {r : V} (hr : evK E (om E) 6 [] (Try.f6.body.getD .skip) (endK Try.prog Try.f6.results.toList (pureFin lent)) (args ++ pois (79 - args.length)) [[]] = some r) : pureV E (om E) 6 lent args = some r := pureV_of (dyn := []) rfl (by rw [E_P]; exact Try.func6) (by unfold Try.f6; rfl) (by kernel_rfl) (by rw [Try.ntmps6]; exact hr)
@[simp] theorem call_6 (args : List V) (h : Heap) : callV E (om E) 6 args h = (viewArgs h args).bind fun a => (pureV E (om E) 6 (!V.flatL args) a).map fun r => (r, h) := callV_pure rfl rfl args h
@[simp] theorem hint_6_0 : E.hint 6 8 = [] := rfl
@[simp] theorem hint_6_1 : E.hint 6 13 = [] := rfl

/-! 7: playpen/playpenlaw22.awake -/
attribute [simp] Try.results7
theorem pu_7 {lent : Bool} {args : List V} {r : V} (hr : evK E (om E) 7 [] (Try.f7.body.getD .skip) (endK Try.prog Try.f7.results.toList (pureFin lent)) (args ++ pois (23 - args.length)) [[]] = some r) : pureV E (om E) 7 lent args = some r := pureV_of (dyn := []) rfl (by rw [E_P]; exact Try.func7) (by unfold Try.f7; rfl) (by kernel_rfl) (by rw [Try.ntmps7]; exact hr)
@[simp] theorem call_7 (args : List V) (h : Heap) : callV E (om E) 7 args h = (viewArgs h args).bind fun a => (pureV E (om E) 7 (!V.flatL args) a).map fun r => (r, h) := callV_pure rfl rfl args h

/-! 8: playpen/fuse.Longest -/
attribute [simp] Try.results8
theorem pu_8 {lent : Bool} {args : List V} {r : V} (hr : evK E (om E) 8 [] (Try.f8.body.getD .skip) (endK Try.prog Try.f8.results.toList (pureFin lent)) (args ++ pois (51 - args.length)) [[]] = some r) : pureV E (om E) 8 lent args = some r := pureV_of (dyn := []) rfl (by rw [E_P]; exact Try.func8) (by unfold Try.f8; rfl) (by kernel_rfl) (by rw [Try.ntmps8]; exact hr)
@[simp] theorem call_8 (args : List V) (h : Heap) : callV E (om E) 8 args h = (viewArgs h args).bind fun a => (pureV E (om E) 8 (!V.flatL args) a).map fun r => (r, h) := callV_pure rfl rfl args h
@[simp] theorem hint_8_0 : E.hint 8 8 = [.forget 11, .forget 12, .forget 29, .forget 30, .forget 31, .forget 32, .forget 33, .forget 34, .forget 35, .forget 36, .forget 37, .forget 38, .forget 39, .forget 40, .forget 41, .forget 42, .forget 43, .forget 44, .forget 45, .forget 46, .forget 47, .forget 48, .forget 49] := rfl

/-! 9: playpen/playpenlaw22.machine -/
attribute [simp] Try.results9
theorem bo_9 {args : List V} {h : Heap} {r : V × Heap} (hr : evK E (om E) 9 [] (Try.f9.body.getD .skip) (endK Try.prog Try.f9.results.toList bodyFin) (args ++ pois (44 - args.length)) h = some r) : bodyV E (om E) 9 args h = some r := bodyV_of (dyn := []) rfl (by rw [E_P]; exact Try.func9) (by unfold Try.f9; rfl) (by kernel_rfl) (by rw [Try.ntmps9]; exact hr)
theorem call_9 (args : List V) (h : Heap) : callV E (om E) 9 args h = (bodyV E (om E) 9 (V.upL 1 args) ([] :: h)).bind fun x => some (V.out (Heap.top x.2.tail).length x.1, Heap.setTop x.2.tail (Heap.top x.2.tail ++ x.2.top.map (outBlk (Heap.top x.2.tail).length))) := callV_live rfl rfl args h
@[simp] theorem hint_9_0 : E.hint 9 4 = [.forget 24, .forget 25, .forget 26, .forget 27, .forget 28, .forget 29, .forget 30, .forget 31, .forget 32, .forget 33, .forget 34, .forget 35, .forget 36, .forget 37, .forget 38, .forget 39, .forget 40, .forget 41, .forget 42] := rfl

@[simp] theorem call_10 (args : List V) (h : Heap) : callV E (om E) 10 args h = (popK) args h := callV_known rfl args h
/-! 11: playpen/playpenkit.SameWords -/
attribute [simp] Try.results11
theorem pu_11 {lent : Bool} {args : List V} {r : V} (hr : evK E (om E) 11 [] (Try.f11.body.getD .skip) (endK Try.prog Try.f11.results.toList (pureFin lent)) (args ++ pois (26 - args.length)) [[]] = some r) : pureV E (om E) 11 lent args = some r := pureV_of (dyn := []) rfl (by rw [E_P]; exact Try.func11) (by unfold Try.f11; rfl) (by kernel_rfl) (by rw [Try.ntmps11]; exact hr)
@[simp] theorem call_11 (args : List V) (h : Heap) : callV E (om E) 11 args h = (viewArgs h args).bind fun a => (pureV E (om E) 11 (!V.flatL args) a).map fun r => (r, h) := callV_pure rfl rfl args h
@[simp] theorem hint_11_0 : E.hint 11 4 = [.forget 4, .forget 11, .forget 12, .forget 13, .forget 14, .forget 15, .forget 16, .forget 17, .forget 18, .forget 19, .forget 20, .forget 21, .forget 22, .forget 23, .forget 24, .forget 25] := rfl

/-! 12: (*playpen/playpenlaw22.plain).take -/
attribute [simp] Try.results12
theorem bo_12 {args : List V} {h : Heap} {r : V × Heap} (hr : evK E (om E) 12 [] (Try.f12.body.getD .skip) (endK Try.prog Try.f12.results.toList bodyFin) (args ++ pois (246 - args.length)) h = some r) : bodyV E (om E) 12 args h = some r := bodyV_of (dyn := []) rfl (by rw [E_P]; exact Try.func12) (by unfold Try.f12; rfl) (by kernel_rfl) (by rw [Try.ntmps12]; exact hr)
theorem he_12 {args : List V} {h : Heap} {r : V × Heap} (hr : evK E (om E) 12 [] (Try.f12.body.getD .skip) (endK Try.prog Try.f12.results.toList heapFin) (V.upL 1 args ++ pois (246 - (V.upL 1 args).length)) ([] :: h) = some r) : callV E (om E) 12 args h = some r := heap_of (dyn := []) rfl rfl rfl (by rw [E_P]; exact Try.func12) (by unfold Try.f12; rfl) (by kernel_rfl) (by rw [Try.ntmps12]; exact hr)
theorem call_12 (args : List V) (h : Heap) : callV E (om E) 12 args h = (bodyV E (om E) 12 (V.upL 1 args) ([] :: h)).bind fun x => (V.freeze [x.2.top] x.1).bind fun r' => some (r', x.2.tail) := callV_heap rfl rfl args h

/-! 13: (*playpen/playpenlaw22.plain).thing -/
attribute [simp] Try.results13
theorem bo_13 {args : List V} {h : Heap} {r : V × Heap} (hr : evK E (om E) 13 [] (Try.f13.body.getD .skip) (endK Try.prog Try.f13.results.toList bodyFin) (args ++ pois (225 - args.length)) h = some r) : bodyV E (om E) 13 args h = some r := bodyV_of (dyn := []) rfl (by rw [E_P]; exact Try.func13) (by unfold Try.f13; rfl) (by kernel_rfl) (by rw [Try.ntmps13]; exact hr)
theorem he_13 {args : List V} {h : Heap} {r : V × Heap} (hr : evK E (om E) 13 [] (Try.f13.body.getD .skip) (endK Try.prog Try.f13.results.toList heapFin) (V.upL 1 args ++ pois (225 - (V.upL 1 args).length)) ([] :: h) = some r) : callV E (om E) 13 args h = some r := heap_of (dyn := []) rfl rfl rfl (by rw [E_P]; exact Try.func13) (by unfold Try.f13; rfl) (by kernel_rfl) (by rw [Try.ntmps13]; exact hr)
theorem call_13 (args : List V) (h : Heap) : callV E (om E) 13 args h = (bodyV E (om E) 13 (V.upL 1 args) ([] :: h)).bind fun x => (V.freeze [x.2.top] x.1).bind fun r' => some (r', x.2.tail) := callV_heap rfl rfl args h

/-! 14: playpen/playpenlaw22.same -/
attribute [simp] Try.results14
theorem pu_14 {lent : Bool} {args : List V} {r : V} (hr : evK E (om E) 14 [] (Try.f14.body.getD .skip) (endK Try.prog Try.f14.results.toList (pureFin lent)) (args ++ pois (53 - args.length)) [[]] = some r) : pureV E (om E) 14 lent args = some r := pureV_of (dyn := []) rfl (by rw [E_P]; exact Try.func14) (by unfold Try.f14; rfl) (by kernel_rfl) (by rw [Try.ntmps14]; exact hr)
@[simp] theorem call_14 (args : List V) (h : Heap) : callV E (om E) 14 args h = (viewArgs h args).bind fun a => (pureV E (om E) 14 (!V.flatL args) a).map fun r => (r, h) := callV_pure rfl rfl args h

/-! 15: playpen/fuse.Fits -/
attribute [simp] Try.results15
theorem pu_15 {lent : Bool} {args : List V} {r : V} (hr : evK E (om E) 15 [4] (Try.f15.body.getD .skip) (endK Try.prog Try.f15.results.toList (pureFin lent)) (args ++ pois (42 - args.length)) [[]] = some r) : pureV E (om E) 15 lent args = some r := pureV_of (dyn := [4]) rfl (by rw [E_P]; exact Try.func15) (by unfold Try.f15; rfl) (by kernel_rfl) (by rw [Try.ntmps15]; exact hr)
@[simp] theorem call_15 (args : List V) (h : Heap) : callV E (om E) 15 args h = (viewArgs h args).bind fun a => (pureV E (om E) 15 (!V.flatL args) a).map fun r => (r, h) := callV_pure rfl rfl args h

/-! 16: playpen/fuse.Row -/
attribute [simp] Try.results16
theorem bo_16 {args : List V} {h : Heap} {r : V × Heap} (hr : evK E (om E) 16 [] (Try.f16.body.getD .skip) (endK Try.prog Try.f16.results.toList bodyFin) (args ++ pois (11 - args.length)) h = some r) : bodyV E (om E) 16 args h = some r := bodyV_of (dyn := []) rfl (by rw [E_P]; exact Try.func16) (by unfold Try.f16; rfl) (by kernel_rfl) (by rw [Try.ntmps16]; exact hr)
theorem call_16 (args : List V) (h : Heap) : callV E (om E) 16 args h = (bodyV E (om E) 16 (V.upL 1 args) ([] :: h)).bind fun x => some (V.out (Heap.top x.2.tail).length x.1, Heap.setTop x.2.tail (Heap.top x.2.tail ++ x.2.top.map (outBlk (Heap.top x.2.tail).length))) := callV_live rfl rfl args h

/-! 17: playpen/isa.Check -/
attribute [simp] Try.results17
theorem pu_17 {lent : Bool} {args : List V} {r : V} (hr : evK E (om E) 17 [] (Try.f17.body.getD .skip) (endK Try.prog Try.f17.results.toList (pureFin lent)) (args ++ pois (20 - args.length)) [[]] = some r) : pureV E (om E) 17 lent args = some r := pureV_of (dyn := []) rfl (by rw [E_P]; exact Try.func17) (by unfold Try.f17; rfl) (by kernel_rfl) (by rw [Try.ntmps17]; exact hr)
@[simp] theorem call_17 (args : List V) (h : Heap) : callV E (om E) 17 args h = (viewArgs h args).bind fun a => (pureV E (om E) 17 (!V.flatL args) a).map fun r => (r, h) := callV_pure rfl rfl args h

/-! 18: (playpen/fuse.stretch).lies -/
attribute [simp] Try.results18
theorem pu_18 {lent : Bool} {args : List V} {r : V} (hr : evK E (om E) 18 [] (Try.f18.body.getD .skip) (endK Try.prog Try.f18.results.toList (pureFin lent)) (args ++ pois (17 - args.length)) [[]] = some r) : pureV E (om E) 18 lent args = some r := pureV_of (dyn := []) rfl (by rw [E_P]; exact Try.func18) (by unfold Try.f18; rfl) (by kernel_rfl) (by rw [Try.ntmps18]; exact hr)
@[simp] theorem call_18 (args : List V) (h : Heap) : callV E (om E) 18 args h = (viewArgs h args).bind fun a => (pureV E (om E) 18 (!V.flatL args) a).map fun r => (r, h) := callV_pure rfl rfl args h

/-! 19: playpen/isa.Info -/
attribute [simp] Try.results19
theorem pu_19 {lent : Bool} {args : List V} {r : V} (hr : evK E (om E) 19 [] (Try.f19.body.getD .skip) (endK Try.prog Try.f19.results.toList (pureFin lent)) (args ++ pois (16 - args.length)) [[]] = some r) : pureV E (om E) 19 lent args = some r := pureV_of (dyn := []) rfl (by rw [E_P]; exact Try.func19) (by unfold Try.f19; rfl) (by kernel_rfl) (by rw [Try.ntmps19]; exact hr)
@[simp] theorem call_19 (args : List V) (h : Heap) : callV E (om E) 19 args h = (viewArgs h args).bind fun a => (pureV E (om E) 19 (!V.flatL args) a).map fun r => (r, h) := callV_pure rfl rfl args h

/-! 20: (*playpen/playpenlaw22.plain).push -/
attribute [simp] Try.results20
theorem bo_20 {args : List V} {h : Heap} {r : V × Heap} (hr : evK E (om E) 20 [] (Try.f20.body.getD .skip) (endK Try.prog Try.f20.results.toList bodyFin) (args ++ pois (14 - args.length)) h = some r) : bodyV E (om E) 20 args h = some r := bodyV_of (dyn := []) rfl (by rw [E_P]; exact Try.func20) (by unfold Try.f20; rfl) (by kernel_rfl) (by rw [Try.ntmps20]; exact hr)
theorem he_20 {args : List V} {h : Heap} {r : V × Heap} (hr : evK E (om E) 20 [] (Try.f20.body.getD .skip) (endK Try.prog Try.f20.results.toList heapFin) (V.upL 1 args ++ pois (14 - (V.upL 1 args).length)) ([] :: h) = some r) : callV E (om E) 20 args h = some r := heap_of (dyn := []) rfl rfl rfl (by rw [E_P]; exact Try.func20) (by unfold Try.f20; rfl) (by kernel_rfl) (by rw [Try.ntmps20]; exact hr)
theorem call_20 (args : List V) (h : Heap) : callV E (om E) 20 args h = (bodyV E (om E) 20 (V.upL 1 args) ([] :: h)).bind fun x => (V.freeze [x.2.top] x.1).bind fun r' => some (r', x.2.tail) := callV_heap rfl rfl args h

/-! 21: (*playpen/playpenlaw22.plain).store -/
attribute [simp] Try.results21
theorem bo_21 {args : List V} {h : Heap} {r : V × Heap} (hr : evK E (om E) 21 [] (Try.f21.body.getD .skip) (endK Try.prog Try.f21.results.toList bodyFin) (args ++ pois (27 - args.length)) h = some r) : bodyV E (om E) 21 args h = some r := bodyV_of (dyn := []) rfl (by rw [E_P]; exact Try.func21) (by unfold Try.f21; rfl) (by kernel_rfl) (by rw [Try.ntmps21]; exact hr)
theorem he_21 {args : List V} {h : Heap} {r : V × Heap} (hr : evK E (om E) 21 [] (Try.f21.body.getD .skip) (endK Try.prog Try.f21.results.toList heapFin) (V.upL 1 args ++ pois (27 - (V.upL 1 args).length)) ([] :: h) = some r) : callV E (om E) 21 args h = some r := heap_of (dyn := []) rfl rfl rfl (by rw [E_P]; exact Try.func21) (by unfold Try.f21; rfl) (by kernel_rfl) (by rw [Try.ntmps21]; exact hr)
theorem call_21 (args : List V) (h : Heap) : callV E (om E) 21 args h = (bodyV E (om E) 21 (V.upL 1 args) ([] :: h)).bind fun x => (V.freeze [x.2.top] x.1).bind fun r' => some (r', x.2.tail) := callV_heap rfl rfl args h
@[simp] theorem hint_21_0 : E.hint 21 1 = [.forget 9, .forget 10, .forget 11, .forget 12, .forget 13, .forget 14, .forget 15, .forget 16, .forget 17, .forget 18, .forget 19, .forget 20, .forget 21, .forget 22, .forget 23, .forget 24, .forget 25, .forget 26] := rfl

/-! 22: (*playpen/playpenlaw22.plain).load -/
attribute [simp] Try.results22
theorem pu_22 {lent : Bool} {args : List V} {r : V} (hr : evK E (om E) 22 [] (Try.f22.body.getD .skip) (endK Try.prog Try.f22.results.toList (pureFin lent)) (args ++ pois (30 - args.length)) [[]] = some r) : pureV E (om E) 22 lent args = some r := pureV_of (dyn := []) rfl (by rw [E_P]; exact Try.func22) (by unfold Try.f22; rfl) (by kernel_rfl) (by rw [Try.ntmps22]; exact hr)
@[simp] theorem call_22 (args : List V) (h : Heap) : callV E (om E) 22 args h = (viewArgs h args).bind fun a => (pureV E (om E) 22 (!V.flatL args) a).map fun r => (r, h) := callV_pure rfl rfl args h
@[simp] theorem hint_22_0 : E.hint 22 3 = [.forget 11, .forget 12, .forget 13, .forget 14, .forget 15, .forget 16, .forget 17, .forget 18, .forget 19, .forget 20, .forget 21, .forget 22, .forget 23, .forget 24, .forget 25, .forget 26, .forget 27, .forget 28] := rfl

/-! 23: playpen/playpenlaw22.size -/
attribute [simp] Try.results23
theorem pu_23 {lent : Bool} {args : List V} {r : V} (hr : evK E (om E) 23 [] (Try.f23.body.getD .skip) (endK Try.prog Try.f23.results.toList (pureFin lent)) (args ++ pois (10 - args.length)) [[]] = some r) : pureV E (om E) 23 lent args = some r := pureV_of (dyn := []) rfl (by rw [E_P]; exact Try.func23) (by unfold Try.f23; rfl) (by kernel_rfl) (by rw [Try.ntmps23]; exact hr)
@[simp] theorem call_23 (args : List V) (h : Heap) : callV E (om E) 23 args h = (viewArgs h args).bind fun a => (pureV E (om E) 23 (!V.flatL args) a).map fun r => (r, h) := callV_pure rfl rfl args h

/-! 24: playpen/alu.Holds -/
attribute [simp] Try.results24
theorem pu_24 {lent : Bool} {args : List V} {r : V} (hr : evK E (om E) 24 [] (Try.f24.body.getD .skip) (endK Try.prog Try.f24.results.toList (pureFin lent)) (args ++ pois (74 - args.length)) [[]] = some r) : pureV E (om E) 24 lent args = some r := pureV_of (dyn := []) rfl (by rw [E_P]; exact Try.func24) (by unfold Try.f24; rfl) (by kernel_rfl) (by rw [Try.ntmps24]; exact hr)
@[simp] theorem call_24 (args : List V) (h : Heap) : callV E (om E) 24 args h = (viewArgs h args).bind fun a => (pureV E (om E) 24 (!V.flatL args) a).map fun r => (r, h) := callV_pure rfl rfl args h

/-! 25: playpen/alu.Unary -/
attribute [simp] Try.results25
theorem pu_25 {lent : Bool} {args : List V} {r : V} (hr : evK E (om E) 25 [] (Try.f25.body.getD .skip) (endK Try.prog Try.f25.results.toList (pureFin lent)) (args ++ pois (39 - args.length)) [[]] = some r) : pureV E (om E) 25 lent args = some r := pureV_of (dyn := []) rfl (by rw [E_P]; exact Try.func25) (by unfold Try.f25; rfl) (by kernel_rfl) (by rw [Try.ntmps25]; exact hr)
@[simp] theorem call_25 (args : List V) (h : Heap) : callV E (om E) 25 args h = (viewArgs h args).bind fun a => (pureV E (om E) 25 (!V.flatL args) a).map fun r => (r, h) := callV_pure rfl rfl args h

@[simp] theorem call_26 (args : List V) (h : Heap) : callV E (om E) 26 args h = (knOUU fun o a b => .tuple [.int .u32 (binW o a b), .int .i64 (binE o b)]) args h := callV_known rfl args h
/-! 27: playpen/fuse.shapes -/
attribute [simp] Try.results27
theorem pu_27 {lent : Bool} {args : List V} {r : V} (hr : evK E (om E) 27 [] (Try.f27.body.getD .skip) (endK Try.prog Try.f27.results.toList (pureFin lent)) (args ++ pois (15 - args.length)) [[]] = some r) : pureV E (om E) 27 lent args = some r := pureV_of (dyn := []) rfl (by rw [E_P]; exact Try.func27) (by unfold Try.f27; rfl) (by kernel_rfl) (by rw [Try.ntmps27]; exact hr)
@[simp] theorem call_27 (args : List V) (h : Heap) : callV E (om E) 27 args h = (viewArgs h args).bind fun a => (pureV E (om E) 27 (!V.flatL args) a).map fun r => (r, h) := callV_pure rfl rfl args h

/-! 28: slices.Clone[[]playpen/api.Instr,playpen/api.Instr] -/
attribute [simp] Try.results28
@[simp] theorem call_28 (args : List V) (h : Heap) : callV E (om E) 28 args h = cloneWL 17592186044416 2 args h := callV_known rfl args h

/-! 29: playpen/fuse.Row$1 -/
attribute [simp] Try.results29
theorem bo_29 {args : List V} {h : Heap} {r : V × Heap} (hr : evK E (om E) 29 [] (Try.f29.body.getD .skip) (endK Try.prog Try.f29.results.toList bodyFin) (args ++ pois (31 - args.length)) h = some r) : bodyV E (om E) 29 args h = some r := bodyV_of (dyn := []) rfl (by rw [E_P]; exact Try.func29) (by unfold Try.f29; rfl) (by kernel_rfl) (by rw [Try.ntmps29]; exact hr)
theorem he_29 {args : List V} {h : Heap} {r : V × Heap} (hr : evK E (om E) 29 [] (Try.f29.body.getD .skip) (endK Try.prog Try.f29.results.toList heapFin) (V.upL 1 args ++ pois (31 - (V.upL 1 args).length)) ([] :: h) = some r) : callV E (om E) 29 args h = some r := heap_of (dyn := []) rfl rfl rfl (by rw [E_P]; exact Try.func29) (by unfold Try.f29; rfl) (by kernel_rfl) (by rw [Try.ntmps29]; exact hr)
theorem call_29 (args : List V) (h : Heap) : callV E (om E) 29 args h = (bodyV E (om E) 29 (V.upL 1 args) ([] :: h)).bind fun x => (V.freeze [x.2.top] x.1).bind fun r' => some (r', x.2.tail) := callV_heap rfl rfl args h
@[simp] theorem hint_29_0 : E.hint 29 1 = [.forget 6, .forget 7, .forget 9, .forget 10, .forget 11, .forget 12, .forget 13, .forget 14, .forget 15, .forget 16, .forget 17, .forget 18, .forget 19, .forget 20, .forget 21, .forget 22, .forget 23, .forget 24, .forget 25, .forget 26, .forget 27, .forget 28, .forget 29, .forget 30] := rfl

/-! 30: playpen/isa.rows -/
attribute [simp] Try.results30
theorem pu_30 {lent : Bool} {args : List V} {r : V} (hr : evK E (om E) 30 [] (Try.f30.body.getD .skip) (endK Try.prog Try.f30.results.toList (pureFin lent)) (args ++ pois (61 - args.length)) [[]] = some r) : pureV E (om E) 30 lent args = some r := pureV_of (dyn := []) rfl (by rw [E_P]; exact Try.func30) (by unfold Try.f30; rfl) (by kernel_rfl) (by rw [Try.ntmps30]; exact hr)
@[simp] theorem call_30 (args : List V) (h : Heap) : callV E (om E) 30 args h = (viewArgs h args).bind fun a => (pureV E (om E) 30 (!V.flatL args) a).map fun r => (r, h) := callV_pure rfl rfl args h

/-! 31: playpen/alu.float -/
attribute [simp] Try.results31
theorem pu_31 {lent : Bool} {args : List V} {r : V} (hr : evK E (om E) 31 [] (Try.f31.body.getD .skip) (endK Try.prog Try.f31.results.toList (pureFin lent)) (args ++ pois (39 - args.length)) [[]] = some r) : pureV E (om E) 31 lent args = some r := pureV_of (dyn := []) rfl (by rw [E_P]; exact Try.func31) (by unfold Try.f31; rfl) (by kernel_rfl) (by rw [Try.ntmps31]; exact hr)
@[simp] theorem call_31 (args : List V) (h : Heap) : callV E (om E) 31 args h = (viewArgs h args).bind fun a => (pureV E (om E) 31 (!V.flatL args) a).map fun r => (r, h) := callV_pure rfl rfl args h

@[simp] theorem call_32 (args : List V) (h : Heap) : callV E (om E) 32 args h = (knUU fun a b => .int .u8 (standF a b)) args h := callV_known rfl args h
/-! 33: playpen/single.Turned -/
attribute [simp] Try.results33
theorem pu_33 {lent : Bool} {args : List V} {r : V} (hr : evK E (om E) 33 [] (Try.f33.body.getD .skip) (endK Try.prog Try.f33.results.toList (pureFin lent)) (args ++ pois (5 - args.length)) [[]] = some r) : pureV E (om E) 33 lent args = some r := pureV_of (dyn := []) rfl (by rw [E_P]; exact Try.func33) (by unfold Try.f33; rfl) (by kernel_rfl) (by rw [Try.ntmps33]; exact hr)
@[simp] theorem call_33 (args : List V) (h : Heap) : callV E (om E) 33 args h = (viewArgs h args).bind fun a => (pureV E (om E) 33 (!V.flatL args) a).map fun r => (r, h) := callV_pure rfl rfl args h

@[simp] theorem call_34 (args : List V) (h : Heap) : callV E (om E) 34 args h = (knI fun a => .int .u32 (ofF a)) args h := callV_known rfl args h
@[simp] theorem call_35 (args : List V) (h : Heap) : callV E (om E) 35 args h = (knU fun a => .int .i32 (towardF a)) args h := callV_known rfl args h
/-! 36: playpen/alu.Binary$1 -/
attribute [simp] Try.results36
theorem pu_36 {lent : Bool} {args : List V} {r : V} (hr : evK E (om E) 36 [] (Try.f36.body.getD .skip) (endK Try.prog Try.f36.results.toList (pureFin lent)) (args ++ pois (4 - args.length)) [[]] = some r) : pureV E (om E) 36 lent args = some r := pureV_of (dyn := []) rfl (by rw [E_P]; exact Try.func36) (by unfold Try.f36; rfl) (by kernel_rfl) (by rw [Try.ntmps36]; exact hr)
@[simp] theorem call_36 (args : List V) (h : Heap) : callV E (om E) 36 args h = (viewArgs h args).bind fun a => (pureV E (om E) 36 (!V.flatL args) a).map fun r => (r, h) := callV_pure rfl rfl args h

/-! 37: playpen/alu.binary -/
attribute [simp] Try.results37
theorem pu_37 {lent : Bool} {args : List V} {r : V} (hr : evK E (om E) 37 [] (Try.f37.body.getD .skip) (endK Try.prog Try.f37.results.toList (pureFin lent)) (args ++ pois (105 - args.length)) [[]] = some r) : pureV E (om E) 37 lent args = some r := pureV_of (dyn := []) rfl (by rw [E_P]; exact Try.func37) (by unfold Try.f37; rfl) (by kernel_rfl) (by rw [Try.ntmps37]; exact hr)
@[simp] theorem call_37 (args : List V) (h : Heap) : callV E (om E) 37 args h = (viewArgs h args).bind fun a => (pureV E (om E) 37 (!V.flatL args) a).map fun r => (r, h) := callV_pure rfl rfl args h

/-! 38: playpen/fuse.one -/
attribute [simp] Try.results38
theorem pu_38 {lent : Bool} {args : List V} {r : V} (hr : evK E (om E) 38 [] (Try.f38.body.getD .skip) (endK Try.prog Try.f38.results.toList (pureFin lent)) (args ++ pois (15 - args.length)) [[]] = some r) : pureV E (om E) 38 lent args = some r := pureV_of (dyn := []) rfl (by rw [E_P]; exact Try.func38) (by unfold Try.f38; rfl) (by kernel_rfl) (by rw [Try.ntmps38]; exact hr)
@[simp] theorem call_38 (args : List V) (h : Heap) : callV E (om E) 38 args h = (viewArgs h args).bind fun a => (pureV E (om E) 38 (!V.flatL args) a).map fun r => (r, h) := callV_pure rfl rfl args h

/-! 39: playpen/fuse.folded -/
attribute [simp] Try.results39
theorem pu_39 {lent : Bool} {args : List V} {r : V} (hr : evK E (om E) 39 [] (Try.f39.body.getD .skip) (endK Try.prog Try.f39.results.toList (pureFin lent)) (args ++ pois (4 - args.length)) [[]] = some r) : pureV E (om E) 39 lent args = some r := pureV_of (dyn := []) rfl (by rw [E_P]; exact Try.func39) (by unfold Try.f39; rfl) (by kernel_rfl) (by rw [Try.ntmps39]; exact hr)
@[simp] theorem call_39 (args : List V) (h : Heap) : callV E (om E) 39 args h = (viewArgs h args).bind fun a => (pureV E (om E) 39 (!V.flatL args) a).map fun r => (r, h) := callV_pure rfl rfl args h

/-! 40: playpen/fuse.behind -/
attribute [simp] Try.results40
theorem pu_40 {lent : Bool} {args : List V} {r : V} (hr : evK E (om E) 40 [] (Try.f40.body.getD .skip) (endK Try.prog Try.f40.results.toList (pureFin lent)) (args ++ pois (6 - args.length)) [[]] = some r) : pureV E (om E) 40 lent args = some r := pureV_of (dyn := []) rfl (by rw [E_P]; exact Try.func40) (by unfold Try.f40; rfl) (by kernel_rfl) (by rw [Try.ntmps40]; exact hr)
@[simp] theorem call_40 (args : List V) (h : Heap) : callV E (om E) 40 args h = (viewArgs h args).bind fun a => (pureV E (om E) 40 (!V.flatL args) a).map fun r => (r, h) := callV_pure rfl rfl args h

/-! 41: playpen/fuse.binary -/
attribute [simp] Try.results41
theorem pu_41 {lent : Bool} {args : List V} {r : V} (hr : evK E (om E) 41 [] (Try.f41.body.getD .skip) (endK Try.prog Try.f41.results.toList (pureFin lent)) (args ++ pois (26 - args.length)) [[]] = some r) : pureV E (om E) 41 lent args = some r := pureV_of (dyn := []) rfl (by rw [E_P]; exact Try.func41) (by unfold Try.f41; rfl) (by kernel_rfl) (by rw [Try.ntmps41]; exact hr)
@[simp] theorem call_41 (args : List V) (h : Heap) : callV E (om E) 41 args h = (viewArgs h args).bind fun a => (pureV E (om E) 41 (!V.flatL args) a).map fun r => (r, h) := callV_pure rfl rfl args h

/-! 42: playpen/fuse.withOp -/
attribute [simp] Try.results42
theorem pu_42 {lent : Bool} {args : List V} {r : V} (hr : evK E (om E) 42 [] (Try.f42.body.getD .skip) (endK Try.prog Try.f42.results.toList (pureFin lent)) (args ++ pois (9 - args.length)) [[]] = some r) : pureV E (om E) 42 lent args = some r := pureV_of (dyn := []) rfl (by rw [E_P]; exact Try.func42) (by unfold Try.f42; rfl) (by kernel_rfl) (by rw [Try.ntmps42]; exact hr)
@[simp] theorem call_42 (args : List V) (h : Heap) : callV E (om E) 42 args h = (viewArgs h args).bind fun a => (pureV E (om E) 42 (!V.flatL args) a).map fun r => (r, h) := callV_pure rfl rfl args h

/-! 43: playpen/fuse.comparison -/
attribute [simp] Try.results43
theorem pu_43 {lent : Bool} {args : List V} {r : V} (hr : evK E (om E) 43 [] (Try.f43.body.getD .skip) (endK Try.prog Try.f43.results.toList (pureFin lent)) (args ++ pois (9 - args.length)) [[]] = some r) : pureV E (om E) 43 lent args = some r := pureV_of (dyn := []) rfl (by rw [E_P]; exact Try.func43) (by unfold Try.f43; rfl) (by kernel_rfl) (by rw [Try.ntmps43]; exact hr)
@[simp] theorem call_43 (args : List V) (h : Heap) : callV E (om E) 43 args h = (viewArgs h args).bind fun a => (pureV E (om E) 43 (!V.flatL args) a).map fun r => (r, h) := callV_pure rfl rfl args h

/-! 44: playpen/fuse.withBoth -/
attribute [simp] Try.results44
theorem pu_44 {lent : Bool} {args : List V} {r : V} (hr : evK E (om E) 44 [] (Try.f44.body.getD .skip) (endK Try.prog Try.f44.results.toList (pureFin lent)) (args ++ pois (10 - args.length)) [[]] = some r) : pureV E (om E) 44 lent args = some r := pureV_of (dyn := []) rfl (by rw [E_P]; exact Try.func44) (by unfold Try.f44; rfl) (by kernel_rfl) (by rw [Try.ntmps44]; exact hr)
@[simp] theorem call_44 (args : List V) (h : Heap) : callV E (om E) 44 args h = (viewArgs h args).bind fun a => (pureV E (om E) 44 (!V.flatL args) a).map fun r => (r, h) := callV_pure rfl rfl args h

/-! 45: playpen/fuse.arg -/
attribute [simp] Try.results45
theorem pu_45 {lent : Bool} {args : List V} {r : V} (hr : evK E (om E) 45 [] (Try.f45.body.getD .skip) (endK Try.prog Try.f45.results.toList (pureFin lent)) (args ++ pois (5 - args.length)) [[]] = some r) : pureV E (om E) 45 lent args = some r := pureV_of (dyn := []) rfl (by rw [E_P]; exact Try.func45) (by unfold Try.f45; rfl) (by kernel_rfl) (by rw [Try.ntmps45]; exact hr)
@[simp] theorem call_45 (args : List V) (h : Heap) : callV E (om E) 45 args h = (viewArgs h args).bind fun a => (pureV E (om E) 45 (!V.flatL args) a).map fun r => (r, h) := callV_pure rfl rfl args h

/-! 46: playpen/fuse.withArg -/
attribute [simp] Try.results46
theorem pu_46 {lent : Bool} {args : List V} {r : V} (hr : evK E (om E) 46 [] (Try.f46.body.getD .skip) (endK Try.prog Try.f46.results.toList (pureFin lent)) (args ++ pois (9 - args.length)) [[]] = some r) : pureV E (om E) 46 lent args = some r := pureV_of (dyn := []) rfl (by rw [E_P]; exact Try.func46) (by unfold Try.f46; rfl) (by kernel_rfl) (by rw [Try.ntmps46]; exact hr)
@[simp] theorem call_46 (args : List V) (h : Heap) : callV E (om E) 46 args h = (viewArgs h args).bind fun a => (pureV E (om E) 46 (!V.flatL args) a).map fun r => (r, h) := callV_pure rfl rfl args h

/-! 47: playpen/fuse.call -/
attribute [simp] Try.results47
theorem pu_47 {lent : Bool} {args : List V} {r : V} (hr : evK E (om E) 47 [] (Try.f47.body.getD .skip) (endK Try.prog Try.f47.results.toList (pureFin lent)) (args ++ pois (5 - args.length)) [[]] = some r) : pureV E (om E) 47 lent args = some r := pureV_of (dyn := []) rfl (by rw [E_P]; exact Try.func47) (by unfold Try.f47; rfl) (by kernel_rfl) (by rw [Try.ntmps47]; exact hr)
@[simp] theorem call_47 (args : List V) (h : Heap) : callV E (om E) 47 args h = (viewArgs h args).bind fun a => (pureV E (om E) 47 (!V.flatL args) a).map fun r => (r, h) := callV_pure rfl rfl args h

/-! 48: playpen/fuse.alone -/
attribute [simp] Try.results48
theorem pu_48 {lent : Bool} {args : List V} {r : V} (hr : evK E (om E) 48 [] (Try.f48.body.getD .skip) (endK Try.prog Try.f48.results.toList (pureFin lent)) (args ++ pois (6 - args.length)) [[]] = some r) : pureV E (om E) 48 lent args = some r := pureV_of (dyn := []) rfl (by rw [E_P]; exact Try.func48) (by unfold Try.f48; rfl) (by kernel_rfl) (by rw [Try.ntmps48]; exact hr)
@[simp] theorem call_48 (args : List V) (h : Heap) : callV E (om E) 48 args h = (viewArgs h args).bind fun a => (pureV E (om E) 48 (!V.flatL args) a).map fun r => (r, h) := callV_pure rfl rfl args h

/-! 49: playpen/fuse.load -/
attribute [simp] Try.results49
theorem pu_49 {lent : Bool} {args : List V} {r : V} (hr : evK E (om E) 49 [] (Try.f49.body.getD .skip) (endK Try.prog Try.f49.results.toList (pureFin lent)) (args ++ pois (9 - args.length)) [[]] = some r) : pureV E (om E) 49 lent args = some r := pureV_of (dyn := []) rfl (by rw [E_P]; exact Try.func49) (by unfold Try.f49; rfl) (by kernel_rfl) (by rw [Try.ntmps49]; exact hr)
@[simp] theorem call_49 (args : List V) (h : Heap) : callV E (om E) 49 args h = (viewArgs h args).bind fun a => (pureV E (om E) 49 (!V.flatL args) a).map fun r => (r, h) := callV_pure rfl rfl args h

/-! 50: playpen/fuse.store -/
attribute [simp] Try.results50
theorem pu_50 {lent : Bool} {args : List V} {r : V} (hr : evK E (om E) 50 [] (Try.f50.body.getD .skip) (endK Try.prog Try.f50.results.toList (pureFin lent)) (args ++ pois (9 - args.length)) [[]] = some r) : pureV E (om E) 50 lent args = some r := pureV_of (dyn := []) rfl (by rw [E_P]; exact Try.func50) (by unfold Try.f50; rfl) (by kernel_rfl) (by rw [Try.ntmps50]; exact hr)
@[simp] theorem call_50 (args : List V) (h : Heap) : callV E (om E) 50 args h = (viewArgs h args).bind fun a => (pureV E (om E) 50 (!V.flatL args) a).map fun r => (r, h) := callV_pure rfl rfl args h

/-! 51: playpen/fuse.local -/
attribute [simp] Try.results51
theorem pu_51 {lent : Bool} {args : List V} {r : V} (hr : evK E (om E) 51 [] (Try.f51.body.getD .skip) (endK Try.prog Try.f51.results.toList (pureFin lent)) (args ++ pois (8 - args.length)) [[]] = some r) : pureV E (om E) 51 lent args = some r := pureV_of (dyn := []) rfl (by rw [E_P]; exact Try.func51) (by unfold Try.f51; rfl) (by kernel_rfl) (by rw [Try.ntmps51]; exact hr)
@[simp] theorem call_51 (args : List V) (h : Heap) : callV E (om E) 51 args h = (viewArgs h args).bind fun a => (pureV E (om E) 51 (!V.flatL args) a).map fun r => (r, h) := callV_pure rfl rfl args h

/-! 52: playpen/fuse.bump -/
attribute [simp] Try.results52
theorem pu_52 {lent : Bool} {args : List V} {r : V} (hr : evK E (om E) 52 [] (Try.f52.body.getD .skip) (endK Try.prog Try.f52.results.toList (pureFin lent)) (args ++ pois (64 - args.length)) [[]] = some r) : pureV E (om E) 52 lent args = some r := pureV_of (dyn := []) rfl (by rw [E_P]; exact Try.func52) (by unfold Try.f52; rfl) (by kernel_rfl) (by rw [Try.ntmps52]; exact hr)
@[simp] theorem call_52 (args : List V) (h : Heap) : callV E (om E) 52 args h = (viewArgs h args).bind fun a => (pureV E (om E) 52 (!V.flatL args) a).map fun r => (r, h) := callV_pure rfl rfl args h
@[simp] theorem hint_52_0 : E.hint 52 5 = [.forget 6, .forget 7, .forget 8, .forget 28, .forget 29, .forget 30, .forget 31, .forget 32, .forget 33, .forget 34, .forget 35, .forget 36, .forget 37, .forget 38, .forget 39, .forget 40, .forget 41, .forget 42, .forget 43, .forget 44, .forget 45, .forget 46, .forget 47, .forget 48, .forget 49, .forget 50, .forget 51, .forget 52, .forget 53, .forget 54, .forget 55, .forget 56, .forget 57, .forget 58, .forget 59, .forget 60, .forget 61, .forget 62] := rfl

/-! 53: playpen/single.number -/
attribute [simp] Try.results53
theorem pu_53 {lent : Bool} {args : List V} {r : V} (hr : evK E (om E) 53 [] (Try.f53.body.getD .skip) (endK Try.prog Try.f53.results.toList (pureFin lent)) (args ++ pois (5 - args.length)) [[]] = some r) : pureV E (om E) 53 lent args = some r := pureV_of (dyn := []) rfl (by rw [E_P]; exact Try.func53) (by unfold Try.f53; rfl) (by kernel_rfl) (by rw [Try.ntmps53]; exact hr)
@[simp] theorem call_53 (args : List V) (h : Heap) : callV E (om E) 53 args h = (viewArgs h args).bind fun a => (pureV E (om E) 53 (!V.flatL args) a).map fun r => (r, h) := callV_pure rfl rfl args h

/-! 54: playpen/single.word -/
attribute [simp] Try.results54
theorem pu_54 {lent : Bool} {args : List V} {r : V} (hr : evK E (om E) 54 [] (Try.f54.body.getD .skip) (endK Try.prog Try.f54.results.toList (pureFin lent)) (args ++ pois (8 - args.length)) [[]] = some r) : pureV E (om E) 54 lent args = some r := pureV_of (dyn := []) rfl (by rw [E_P]; exact Try.func54) (by unfold Try.f54; rfl) (by kernel_rfl) (by rw [Try.ntmps54]; exact hr)
@[simp] theorem call_54 (args : List V) (h : Heap) : callV E (om E) 54 args h = (viewArgs h args).bind fun a => (pureV E (om E) 54 (!V.flatL args) a).map fun r => (r, h) := callV_pure rfl rfl args h

@[simp] theorem call_55 (args : List V) (h : Heap) : callV E (om E) 55 args h = (knUU fun a b => .int .u32 (arithF .add a b)) args h := callV_known rfl args h
@[simp] theorem call_56 (args : List V) (h : Heap) : callV E (om E) 56 args h = (knUU fun a b => .int .u32 (arithF .sub a b)) args h := callV_known rfl args h
@[simp] theorem call_57 (args : List V) (h : Heap) : callV E (om E) 57 args h = (knUU fun a b => .int .u32 (arithF .mul a b)) args h := callV_known rfl args h
@[simp] theorem call_58 (args : List V) (h : Heap) : callV E (om E) 58 args h = (knUU fun a b => .int .u32 (arithF .quo a b)) args h := callV_known rfl args h
/-! 59: (playpen/fuse.stretch).op -/
attribute [simp] Try.results59
theorem pu_59 {lent : Bool} {args : List V} {r : V} (hr : evK E (om E) 59 [] (Try.f59.body.getD .skip) (endK Try.prog Try.f59.results.toList (pureFin lent)) (args ++ pois (33 - args.length)) [[]] = some r) : pureV E (om E) 59 lent args = some r := pureV_of (dyn := []) rfl (by rw [E_P]; exact Try.func59) (by unfold Try.f59; rfl) (by kernel_rfl) (by rw [Try.ntmps59]; exact hr)
@[simp] theorem call_59 (args : List V) (h : Heap) : callV E (om E) 59 args h = (viewArgs h args).bind fun a => (pureV E (om E) 59 (!V.flatL args) a).map fun r => (r, h) := callV_pure rfl rfl args h

/-! 60: playpen/fuse.folded$1 -/
attribute [simp] Try.results60
theorem pu_60 {lent : Bool} {args : List V} {r : V} (hr : evK E (om E) 60 [] (Try.f60.body.getD .skip) (endK Try.prog Try.f60.results.toList (pureFin lent)) (args ++ pois (35 - args.length)) [[]] = some r) : pureV E (om E) 60 lent args = some r := pureV_of (dyn := []) rfl (by rw [E_P]; exact Try.func60) (by unfold Try.f60; rfl) (by kernel_rfl) (by rw [Try.ntmps60]; exact hr)
@[simp] theorem call_60 (args : List V) (h : Heap) : callV E (om E) 60 args h = (viewArgs h args).bind fun a => (pureV E (om E) 60 (!V.flatL args) a).map fun r => (r, h) := callV_pure rfl rfl args h

/-! 61: playpen/fold.Longest -/
attribute [simp] Try.results61
theorem pu_61 {lent : Bool} {args : List V} {r : V} (hr : evK E (om E) 61 [18] (Try.f61.body.getD .skip) (endK Try.prog Try.f61.results.toList (pureFin lent)) (args ++ pois (96 - args.length)) [[]] = some r) : pureV E (om E) 61 lent args = some r := pureV_of (dyn := [18]) rfl (by rw [E_P]; exact Try.func61) (by unfold Try.f61; rfl) (by kernel_rfl) (by rw [Try.ntmps61]; exact hr)
@[simp] theorem call_61 (args : List V) (h : Heap) : callV E (om E) 61 args h = (viewArgs h args).bind fun a => (pureV E (om E) 61 (!V.flatL args) a).map fun r => (r, h) := callV_pure rfl rfl args h
@[simp] theorem hint_61_0 : E.hint 61 9 = [.forget 12, .forget 37, .forget 38, .forget 39, .forget 40, .forget 41, .forget 42, .forget 43, .forget 44, .forget 45, .forget 46, .forget 47, .forget 48, .forget 49, .forget 50, .forget 51, .forget 52, .forget 53, .forget 54, .forget 55, .forget 56, .forget 57, .forget 58, .forget 59, .forget 60, .forget 61, .forget 62, .forget 63, .forget 64, .forget 65, .forget 66, .forget 67, .forget 68, .forget 69, .forget 70, .forget 71, .forget 72, .forget 73, .forget 74, .forget 75, .forget 76, .forget 77, .forget 78, .forget 79, .forget 80, .forget 81, .forget 82, .forget 83, .forget 84, .forget 85, .forget 86, .forget 87, .forget 88, .forget 89, .forget 90, .forget 91, .forget 92, .forget 93, .forget 94] := rfl

/-! 62: playpen/fuse.behind$1 -/
attribute [simp] Try.results62
theorem pu_62 {lent : Bool} {args : List V} {r : V} (hr : evK E (om E) 62 [] (Try.f62.body.getD .skip) (endK Try.prog Try.f62.results.toList (pureFin lent)) (args ++ pois (37 - args.length)) [[]] = some r) : pureV E (om E) 62 lent args = some r := pureV_of (dyn := []) rfl (by rw [E_P]; exact Try.func62) (by unfold Try.f62; rfl) (by kernel_rfl) (by rw [Try.ntmps62]; exact hr)
@[simp] theorem call_62 (args : List V) (h : Heap) : callV E (om E) 62 args h = (viewArgs h args).bind fun a => (pureV E (om E) 62 (!V.flatL args) a).map fun r => (r, h) := callV_pure rfl rfl args h
@[simp] theorem hint_62_0 : E.hint 62 2 = [.forget 6, .forget 7, .forget 8, .forget 9, .forget 10, .forget 11, .forget 12, .forget 13, .forget 14, .forget 15, .forget 16, .forget 17, .forget 18, .forget 19, .forget 20, .forget 21, .forget 22, .forget 23, .forget 24, .forget 25, .forget 26, .forget 27, .forget 28, .forget 29, .forget 30, .forget 31, .forget 32, .forget 33, .forget 34, .forget 35] := rfl

/-! 63: (playpen/fuse.stretch).constant -/
attribute [simp] Try.results63
theorem pu_63 {lent : Bool} {args : List V} {r : V} (hr : evK E (om E) 63 [] (Try.f63.body.getD .skip) (endK Try.prog Try.f63.results.toList (pureFin lent)) (args ++ pois (65 - args.length)) [[]] = some r) : pureV E (om E) 63 lent args = some r := pureV_of (dyn := []) rfl (by rw [E_P]; exact Try.func63) (by unfold Try.f63; rfl) (by kernel_rfl) (by rw [Try.ntmps63]; exact hr)
@[simp] theorem call_63 (args : List V) (h : Heap) : callV E (om E) 63 args h = (viewArgs h args).bind fun a => (pureV E (om E) 63 (!V.flatL args) a).map fun r => (r, h) := callV_pure rfl rfl args h

/-! 64: playpen/fuse.local$1 -/
attribute [simp] Try.results64
theorem pu_64 {lent : Bool} {args : List V} {r : V} (hr : evK E (om E) 64 [] (Try.f64.body.getD .skip) (endK Try.prog Try.f64.results.toList (pureFin lent)) (args ++ pois (43 - args.length)) [[]] = some r) : pureV E (om E) 64 lent args = some r := pureV_of (dyn := []) rfl (by rw [E_P]; exact Try.func64) (by unfold Try.f64; rfl) (by kernel_rfl) (by rw [Try.ntmps64]; exact hr)
@[simp] theorem call_64 (args : List V) (h : Heap) : callV E (om E) 64 args h = (viewArgs h args).bind fun a => (pureV E (om E) 64 (!V.flatL args) a).map fun r => (r, h) := callV_pure rfl rfl args h

/-! 65: playpen/fuse.harmless -/
attribute [simp] Try.results65
theorem pu_65 {lent : Bool} {args : List V} {r : V} (hr : evK E (om E) 65 [] (Try.f65.body.getD .skip) (endK Try.prog Try.f65.results.toList (pureFin lent)) (args ++ pois (13 - args.length)) [[]] = some r) : pureV E (om E) 65 lent args = some r := pureV_of (dyn := []) rfl (by rw [E_P]; exact Try.func65) (by unfold Try.f65; rfl) (by kernel_rfl) (by rw [Try.ntmps65]; exact hr)
@[simp] theorem call_65 (args : List V) (h : Heap) : callV E (om E) 65 args h = (viewArgs h args).bind fun a => (pureV E (om E) 65 (!V.flatL args) a).map fun r => (r, h) := callV_pure rfl rfl args h

/-! 68: (*playpen/fold.list).take -/
attribute [simp] Try.results68
theorem bo_68 {args : List V} {h : Heap} {r : V × Heap} (hr : evK E (om E) 68 [] (Try.f68.body.getD .skip) (endK Try.prog Try.f68.results.toList bodyFin) (args ++ pois (78 - args.length)) h = some r) : bodyV E (om E) 68 args h = some r := bodyV_of (dyn := []) rfl (by rw [E_P]; exact Try.func68) (by unfold Try.f68; rfl) (by kernel_rfl) (by rw [Try.ntmps68]; exact hr)
theorem he_68 {args : List V} {h : Heap} {r : V × Heap} (hr : evK E (om E) 68 [] (Try.f68.body.getD .skip) (endK Try.prog Try.f68.results.toList heapFin) (V.upL 1 args ++ pois (78 - (V.upL 1 args).length)) ([] :: h) = some r) : callV E (om E) 68 args h = some r := heap_of (dyn := []) rfl rfl rfl (by rw [E_P]; exact Try.func68) (by unfold Try.f68; rfl) (by kernel_rfl) (by rw [Try.ntmps68]; exact hr)
theorem call_68 (args : List V) (h : Heap) : callV E (om E) 68 args h = (bodyV E (om E) 68 (V.upL 1 args) ([] :: h)).bind fun x => (V.freeze [x.2.top] x.1).bind fun r' => some (r', x.2.tail) := callV_heap rfl rfl args h

/-! 69: (*playpen/fold.list).two -/
attribute [simp] Try.results69
theorem bo_69 {args : List V} {h : Heap} {r : V × Heap} (hr : evK E (om E) 69 [] (Try.f69.body.getD .skip) (endK Try.prog Try.f69.results.toList bodyFin) (args ++ pois (80 - args.length)) h = some r) : bodyV E (om E) 69 args h = some r := bodyV_of (dyn := []) rfl (by rw [E_P]; exact Try.func69) (by unfold Try.f69; rfl) (by kernel_rfl) (by rw [Try.ntmps69]; exact hr)
theorem he_69 {args : List V} {h : Heap} {r : V × Heap} (hr : evK E (om E) 69 [] (Try.f69.body.getD .skip) (endK Try.prog Try.f69.results.toList heapFin) (V.upL 1 args ++ pois (80 - (V.upL 1 args).length)) ([] :: h) = some r) : callV E (om E) 69 args h = some r := heap_of (dyn := []) rfl rfl rfl (by rw [E_P]; exact Try.func69) (by unfold Try.f69; rfl) (by kernel_rfl) (by rw [Try.ntmps69]; exact hr)
theorem call_69 (args : List V) (h : Heap) : callV E (om E) 69 args h = (bodyV E (om E) 69 (V.upL 1 args) ([] :: h)).bind fun x => (V.freeze [x.2.top] x.1).bind fun r' => some (r', x.2.tail) := callV_heap rfl rfl args h

/-! 70: (*playpen/fold.list).push -/
attribute [simp] Try.results70
theorem bo_70 {args : List V} {h : Heap} {r : V × Heap} (hr : evK E (om E) 70 [] (Try.f70.body.getD .skip) (endK Try.prog Try.f70.results.toList bodyFin) (args ++ pois (26 - args.length)) h = some r) : bodyV E (om E) 70 args h = some r := bodyV_of (dyn := []) rfl (by rw [E_P]; exact Try.func70) (by unfold Try.f70; rfl) (by kernel_rfl) (by rw [Try.ntmps70]; exact hr)
theorem he_70 {args : List V} {h : Heap} {r : V × Heap} (hr : evK E (om E) 70 [] (Try.f70.body.getD .skip) (endK Try.prog Try.f70.results.toList heapFin) (V.upL 1 args ++ pois (26 - (V.upL 1 args).length)) ([] :: h) = some r) : callV E (om E) 70 args h = some r := heap_of (dyn := []) rfl rfl rfl (by rw [E_P]; exact Try.func70) (by unfold Try.f70; rfl) (by kernel_rfl) (by rw [Try.ntmps70]; exact hr)
theorem call_70 (args : List V) (h : Heap) : callV E (om E) 70 args h = (bodyV E (om E) 70 (V.upL 1 args) ([] :: h)).bind fun x => (V.freeze [x.2.top] x.1).bind fun r' => some (r', x.2.tail) := callV_heap rfl rfl args h

/-! 71: (*playpen/fold.list).one -/
attribute [simp] Try.results71
theorem bo_71 {args : List V} {h : Heap} {r : V × Heap} (hr : evK E (om E) 71 [] (Try.f71.body.getD .skip) (endK Try.prog Try.f71.results.toList bodyFin) (args ++ pois (56 - args.length)) h = some r) : bodyV E (om E) 71 args h = some r := bodyV_of (dyn := []) rfl (by rw [E_P]; exact Try.func71) (by unfold Try.f71; rfl) (by kernel_rfl) (by rw [Try.ntmps71]; exact hr)
theorem he_71 {args : List V} {h : Heap} {r : V × Heap} (hr : evK E (om E) 71 [] (Try.f71.body.getD .skip) (endK Try.prog Try.f71.results.toList heapFin) (V.upL 1 args ++ pois (56 - (V.upL 1 args).length)) ([] :: h) = some r) : callV E (om E) 71 args h = some r := heap_of (dyn := []) rfl rfl rfl (by rw [E_P]; exact Try.func71) (by unfold Try.f71; rfl) (by kernel_rfl) (by rw [Try.ntmps71]; exact hr)
theorem call_71 (args : List V) (h : Heap) : callV E (om E) 71 args h = (bodyV E (om E) 71 (V.upL 1 args) ([] :: h)).bind fun x => (V.freeze [x.2.top] x.1).bind fun r' => some (r', x.2.tail) := callV_heap rfl rfl args h
end Go.Proofs.Ytjmipgfaghjgmaa
end
section
namespace Go.Proofs.Ytjmipgfaghjgmaa
open Go Go.Sim
set_option maxRecDepth 100000
set_option linter.unusedVariables false
set_option linter.unusedSimpArgs false

theorem fnOk : FnOk E (fun _ => true) where
  frame := by
    intro g F hg hF
    obtain rfl : g = 10 := Nat.eq_of_beq_eq_true hg
    obtain rfl := (Option.some.inj hF).symm
    exact frame_pop
  good := by
    have h : (Try.prog.funcs.toList.all fun fn => match fn.body with | none => true | some c => goodCode (fun _ => true) c && !(fn.name == "runtime.NumGoroutine")) = true := by kernel_rfl
    intro f fn c hf h1 h2
    rw [E_P] at h1
    have := List.all_eq_true.1 h fn (Array.mem_toList_iff.2 (Array.mem_of_getElem? h1))
    rw [h2] at this
    simpa using this
theorem eqOk : EqOk E := by
  have h : (E.eqTypes.all fun t => !Try.prog.stoodInHeld t && !Try.prog.eqGuardType Try.prog.depth t) = true := by kernel_rfl
  intro t ht
  have := List.all_eq_true.1 h t (by simpa using ht)
  simpa using this
theorem knownOk : KnownOk E (fun _ => true) := by
  intro f F hF
  change knownT f = some F at hF
  unfold knownT at hF
  split at hF
  · obtain rfl := (Option.some.inj hF).symm
    exact known_28
  · obtain rfl := (Option.some.inj hF).symm
    exact known_Sum
  · obtain rfl := (Option.some.inj hF).symm
    exact known_Rest
  · obtain rfl := (Option.some.inj hF).symm
    exact known_Product
  · obtain rfl := (Option.some.inj hF).symm
    exact known_Ratio
  · obtain rfl := (Option.some.inj hF).symm
    exact known_Stand
  · obtain rfl := (Option.some.inj hF).symm
    exact known_Toward
  · obtain rfl := (Option.some.inj hF).symm
    exact known_Of
  · obtain rfl := (Option.some.inj hF).symm
    exact known_Binary
  · obtain rfl := (Option.some.inj hF).symm
    exact known_pop
  · cases hF
theorem knownIn : KnownIn E := by
  intro f F hF
  change knownT f = some F at hF
  unfold knownT at hF
  split at hF
  · exact ⟨Try.f28, Try.f28.body.getD .skip, Try.func28, by kernel_rfl, by simp [Try.f28]⟩
  · exact ⟨Try.f55, Try.f55.body.getD .skip, Try.func55, by kernel_rfl, by simp [Try.f55]⟩
  · exact ⟨Try.f56, Try.f56.body.getD .skip, Try.func56, by kernel_rfl, by simp [Try.f56]⟩
  · exact ⟨Try.f57, Try.f57.body.getD .skip, Try.func57, by kernel_rfl, by simp [Try.f57]⟩
  · exact ⟨Try.f58, Try.f58.body.getD .skip, Try.func58, by kernel_rfl, by simp [Try.f58]⟩
  · exact ⟨Try.f32, Try.f32.body.getD .skip, Try.func32, by kernel_rfl, by simp [Try.f32]⟩
  · exact ⟨Try.f35, Try.f35.body.getD .skip, Try.func35, by kernel_rfl, by simp [Try.f35]⟩
  · exact ⟨Try.f34, Try.f34.body.getD .skip, Try.func34, by kernel_rfl, by simp [Try.f34]⟩
  · exact ⟨Try.f26, Try.f26.body.getD .skip, Try.func26, by kernel_rfl, by simp [Try.f26]⟩
  · exact ⟨Try.f10, Try.f10.body.getD .skip, Try.func10, by kernel_rfl, by simp [Try.f10]⟩
  · cases hF
end Go.Proofs.Ytjmipgfaghjgmaa
end
