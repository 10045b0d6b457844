/-
  The machine's settings over this seat's program. Printed by program.
  What the machine of values takes for known is so; what it asks of the program's functions. Printed by program.
  Package alu: what an operation of two words gives, but for a division by nought.
  Package alu: Binary: a division by nought is caught.
  alu.Binary, as the machine of values takes it for known.
  The law's small machine: pop.
  The law's small machine: pop, as the machine of values takes it for known.
-/
import Derived.Test.YtjmipgfaghjgmaaNa
import Derived.Test.YtjmipgfaghjgmaaNb
import Derived.Tactics
import Derived.Tactics2
import Derived.Defers
import Derived.Recover
import Derived.Laws.Pointers
section
namespace Go.Proofs.Ytjmipgfaghjgmaa.A
open Go Go.Sim
set_option maxRecDepth 100000
set_option linter.unusedVariables false
set_option linter.unusedSimpArgs false
def modeT (f : Nat) : Sim.Mode :=
  match f with
  | 70 => .heap
  | 68 => .heap
  | 71 => .heap
  | 69 => .heap
  | 10 => .heap
  | 20 => .heap
  | 12 => .heap
  | 13 => .heap
  | 21 => .heap
  | 9 => .live
  | 16 => .live
  | 29 => .heap
  | _ => .pure
def hintT (f r : Nat) : List Hint :=
  match f, r with
  | 3, 17 => [.forget 12, .forget 94, .forget 95, .forget 96, .forget 97, .forget 98, .forget 99, .forget 100, .forget 101, .forget 102, .forget 103, .forget 104, .forget 105, .forget 106, .forget 107, .forget 108, .forget 109, .forget 110, .forget 111, .forget 112, .forget 113, .forget 114, .forget 115, .forget 116, .forget 117, .forget 118, .forget 119, .forget 120, .forget 121, .forget 122, .forget 123, .forget 124, .forget 125, .forget 126, .forget 127, .forget 128, .forget 129, .forget 130, .forget 131, .forget 132, .forget 133, .forget 134, .forget 135, .forget 136, .forget 137, .forget 138, .forget 139, .forget 140, .forget 141, .forget 142, .forget 143, .forget 144, .forget 145, .forget 146, .forget 147, .forget 148, .forget 149, .forget 150, .forget 151, .forget 152, .forget 153, .forget 154, .forget 155, .forget 156, .forget 157, .forget 158, .forget 159, .forget 160, .forget 161, .forget 162, .forget 163, .forget 164, .forget 165, .forget 166, .forget 167, .forget 168, .forget 169, .forget 170, .forget 171, .forget 172, .forget 173, .forget 174]
  | 4, 5 => [.promote 9 2, .forget 11, .forget 18, .forget 19, .forget 20, .forget 21, .forget 22, .forget 23, .forget 24, .forget 25, .forget 26, .forget 27, .forget 28, .forget 29, .forget 30, .forget 31, .forget 32, .forget 33, .forget 34, .forget 35, .forget 36, .forget 37, .forget 38, .forget 39, .forget 40, .forget 41, .forget 42, .forget 43, .forget 44, .forget 45, .forget 46, .forget 47, .forget 48, .forget 49, .forget 50, .forget 51, .forget 52, .forget 53]
  | 5, 6 => [.forget 0, .forget 6, .forget 7, .forget 36, .forget 37, .forget 38, .forget 39, .forget 40, .forget 41, .forget 42, .forget 43, .forget 44, .forget 45, .forget 46, .forget 47, .forget 48, .forget 49, .forget 50, .forget 51, .forget 52, .forget 53, .forget 54, .forget 55, .forget 56, .forget 57, .forget 58, .forget 59, .forget 60, .forget 61, .forget 62, .forget 63, .forget 64]
  | 8, 8 => [.forget 11, .forget 12, .forget 29, .forget 30, .forget 31, .forget 32, .forget 33, .forget 34, .forget 35, .forget 36, .forget 37, .forget 38, .forget 39, .forget 40, .forget 41, .forget 42, .forget 43, .forget 44, .forget 45, .forget 46, .forget 47, .forget 48, .forget 49]
  | 9, 4 => [.forget 24, .forget 25, .forget 26, .forget 27, .forget 28, .forget 29, .forget 30, .forget 31, .forget 32, .forget 33, .forget 34, .forget 35, .forget 36, .forget 37, .forget 38, .forget 39, .forget 40, .forget 41, .forget 42]
  | 11, 4 => [.forget 4, .forget 11, .forget 12, .forget 13, .forget 14, .forget 15, .forget 16, .forget 17, .forget 18, .forget 19, .forget 20, .forget 21, .forget 22, .forget 23, .forget 24, .forget 25]
  | 21, 1 => [.forget 9, .forget 10, .forget 11, .forget 12, .forget 13, .forget 14, .forget 15, .forget 16, .forget 17, .forget 18, .forget 19, .forget 20, .forget 21, .forget 22, .forget 23, .forget 24, .forget 25, .forget 26]
  | 22, 3 => [.forget 11, .forget 12, .forget 13, .forget 14, .forget 15, .forget 16, .forget 17, .forget 18, .forget 19, .forget 20, .forget 21, .forget 22, .forget 23, .forget 24, .forget 25, .forget 26, .forget 27, .forget 28]
  | 29, 1 => [.forget 6, .forget 7, .forget 9, .forget 10, .forget 11, .forget 12, .forget 13, .forget 14, .forget 15, .forget 16, .forget 17, .forget 18, .forget 19, .forget 20, .forget 21, .forget 22, .forget 23, .forget 24, .forget 25, .forget 26, .forget 27, .forget 28, .forget 29, .forget 30]
  | 52, 5 => [.forget 6, .forget 7, .forget 8, .forget 28, .forget 29, .forget 30, .forget 31, .forget 32, .forget 33, .forget 34, .forget 35, .forget 36, .forget 37, .forget 38, .forget 39, .forget 40, .forget 41, .forget 42, .forget 43, .forget 44, .forget 45, .forget 46, .forget 47, .forget 48, .forget 49, .forget 50, .forget 51, .forget 52, .forget 53, .forget 54, .forget 55, .forget 56, .forget 57, .forget 58, .forget 59, .forget 60, .forget 61, .forget 62]
  | 61, 9 => [.forget 12, .forget 37, .forget 38, .forget 39, .forget 40, .forget 41, .forget 42, .forget 43, .forget 44, .forget 45, .forget 46, .forget 47, .forget 48, .forget 49, .forget 50, .forget 51, .forget 52, .forget 53, .forget 54, .forget 55, .forget 56, .forget 57, .forget 58, .forget 59, .forget 60, .forget 61, .forget 62, .forget 63, .forget 64, .forget 65, .forget 66, .forget 67, .forget 68, .forget 69, .forget 70, .forget 71, .forget 72, .forget 73, .forget 74, .forget 75, .forget 76, .forget 77, .forget 78, .forget 79, .forget 80, .forget 81, .forget 82, .forget 83, .forget 84, .forget 85, .forget 86, .forget 87, .forget 88, .forget 89, .forget 90, .forget 91, .forget 92, .forget 93, .forget 94]
  | 62, 2 => [.forget 6, .forget 7, .forget 8, .forget 9, .forget 10, .forget 11, .forget 12, .forget 13, .forget 14, .forget 15, .forget 16, .forget 17, .forget 18, .forget 19, .forget 20, .forget 21, .forget 22, .forget 23, .forget 24, .forget 25, .forget 26, .forget 27, .forget 28, .forget 29, .forget 30, .forget 31, .forget 32, .forget 33, .forget 34, .forget 35]
  | _, _ => []
noncomputable def knownT (f : Nat) : Option (List V → Heap → Option (V × Heap)) :=
  match f with
  | 28 => some (cloneWL 17592186044416 2)
  | 55 => some (knUU fun a b => .int .u32 (arithF .add a b))
  | 56 => some (knUU fun a b => .int .u32 (arithF .sub a b))
  | 57 => some (knUU fun a b => .int .u32 (arithF .mul a b))
  | 58 => some (knUU fun a b => .int .u32 (arithF .quo a b))
  | 32 => some (knUU fun a b => .int .u8 (standF a b))
  | 35 => some (knU fun a => .int .i32 (towardF a))
  | 34 => some (knI fun a => .int .u32 (ofF a))
  | _ => none
noncomputable def E : Env := { P := Try.prog, mode := modeT, hint := hintT, known := knownT, eqTypes := [30, 39, 36], fns := fun f => Nat.blt f 89 }
@[simp] theorem E_P : E.P = Try.prog := rfl
/-! 10: (*playpen/playpenlaw22.plain).pop -/
attribute [simp] Try.results10
theorem bo_10 {args : List V} {h : Heap} {r : V × Heap} (hr : evK E (om E) 10 [] (Try.f10.body.getD .skip) (endK Try.prog Try.f10.results.toList bodyFin) (args ++ pois (34 - args.length)) h = some r) : bodyV E (om E) 10 args h = some r := bodyV_of (dyn := []) rfl (by rw [E_P]; exact Try.func10) (by unfold Try.f10; rfl) (by kernel_rfl) (by rw [Try.ntmps10]; exact hr)
theorem he_10 {args : List V} {h : Heap} {r : V × Heap} (hr : evK E (om E) 10 [] (Try.f10.body.getD .skip) (endK Try.prog Try.f10.results.toList heapFin) (V.upL 1 args ++ pois (34 - (V.upL 1 args).length)) ([] :: h) = some r) : callV E (om E) 10 args h = some r := heap_of (dyn := []) rfl rfl rfl (by rw [E_P]; exact Try.func10) (by unfold Try.f10; rfl) (by kernel_rfl) (by rw [Try.ntmps10]; exact hr)
theorem call_10 (args : List V) (h : Heap) : callV E (om E) 10 args h = (bodyV E (om E) 10 (V.upL 1 args) ([] :: h)).bind fun x => (V.freeze [x.2.top] x.1).bind fun r' => some (r', x.2.tail) := callV_heap rfl rfl args h

/-! 24: playpen/alu.Holds -/
attribute [simp] Try.results24
theorem pu_24 {lent : Bool} {args : List V} {r : V} (hr : evK E (om E) 24 [] (Try.f24.body.getD .skip) (endK Try.prog Try.f24.results.toList (pureFin lent)) (args ++ pois (74 - args.length)) [[]] = some r) : pureV E (om E) 24 lent args = some r := pureV_of (dyn := []) rfl (by rw [E_P]; exact Try.func24) (by unfold Try.f24; rfl) (by kernel_rfl) (by rw [Try.ntmps24]; exact hr)
@[simp] theorem call_24 (args : List V) (h : Heap) : callV E (om E) 24 args h = (viewArgs h args).bind fun a => (pureV E (om E) 24 (!V.flatL args) a).map fun r => (r, h) := callV_pure rfl rfl args h

/-! 25: playpen/alu.Unary -/
attribute [simp] Try.results25
theorem pu_25 {lent : Bool} {args : List V} {r : V} (hr : evK E (om E) 25 [] (Try.f25.body.getD .skip) (endK Try.prog Try.f25.results.toList (pureFin lent)) (args ++ pois (39 - args.length)) [[]] = some r) : pureV E (om E) 25 lent args = some r := pureV_of (dyn := []) rfl (by rw [E_P]; exact Try.func25) (by unfold Try.f25; rfl) (by kernel_rfl) (by rw [Try.ntmps25]; exact hr)
@[simp] theorem call_25 (args : List V) (h : Heap) : callV E (om E) 25 args h = (viewArgs h args).bind fun a => (pureV E (om E) 25 (!V.flatL args) a).map fun r => (r, h) := callV_pure rfl rfl args h

/-! 31: playpen/alu.float -/
attribute [simp] Try.results31
theorem pu_31 {lent : Bool} {args : List V} {r : V} (hr : evK E (om E) 31 [] (Try.f31.body.getD .skip) (endK Try.prog Try.f31.results.toList (pureFin lent)) (args ++ pois (39 - args.length)) [[]] = some r) : pureV E (om E) 31 lent args = some r := pureV_of (dyn := []) rfl (by rw [E_P]; exact Try.func31) (by unfold Try.f31; rfl) (by kernel_rfl) (by rw [Try.ntmps31]; exact hr)
@[simp] theorem call_31 (args : List V) (h : Heap) : callV E (om E) 31 args h = (viewArgs h args).bind fun a => (pureV E (om E) 31 (!V.flatL args) a).map fun r => (r, h) := callV_pure rfl rfl args h

@[simp] theorem call_32 (args : List V) (h : Heap) : callV E (om E) 32 args h = (knUU fun a b => .int .u8 (standF a b)) args h := callV_known rfl args h
@[simp] theorem call_34 (args : List V) (h : Heap) : callV E (om E) 34 args h = (knI fun a => .int .u32 (ofF a)) args h := callV_known rfl args h
@[simp] theorem call_35 (args : List V) (h : Heap) : callV E (om E) 35 args h = (knU fun a => .int .i32 (towardF a)) args h := callV_known rfl args h
/-! 37: playpen/alu.binary -/
attribute [simp] Try.results37
theorem pu_37 {lent : Bool} {args : List V} {r : V} (hr : evK E (om E) 37 [] (Try.f37.body.getD .skip) (endK Try.prog Try.f37.results.toList (pureFin lent)) (args ++ pois (105 - args.length)) [[]] = some r) : pureV E (om E) 37 lent args = some r := pureV_of (dyn := []) rfl (by rw [E_P]; exact Try.func37) (by unfold Try.f37; rfl) (by kernel_rfl) (by rw [Try.ntmps37]; exact hr)
@[simp] theorem call_37 (args : List V) (h : Heap) : callV E (om E) 37 args h = (viewArgs h args).bind fun a => (pureV E (om E) 37 (!V.flatL args) a).map fun r => (r, h) := callV_pure rfl rfl args h

@[simp] theorem call_55 (args : List V) (h : Heap) : callV E (om E) 55 args h = (knUU fun a b => .int .u32 (arithF .add a b)) args h := callV_known rfl args h
@[simp] theorem call_56 (args : List V) (h : Heap) : callV E (om E) 56 args h = (knUU fun a b => .int .u32 (arithF .sub a b)) args h := callV_known rfl args h
@[simp] theorem call_57 (args : List V) (h : Heap) : callV E (om E) 57 args h = (knUU fun a b => .int .u32 (arithF .mul a b)) args h := callV_known rfl args h
@[simp] theorem call_58 (args : List V) (h : Heap) : callV E (om E) 58 args h = (knUU fun a b => .int .u32 (arithF .quo a b)) args h := callV_known rfl args h
end Go.Proofs.Ytjmipgfaghjgmaa.A
end
section
namespace Go.Proofs.Ytjmipgfaghjgmaa.A
open Go Go.Sim
set_option maxRecDepth 100000
set_option linter.unusedVariables false
set_option linter.unusedSimpArgs false

theorem fnOk : FnOk E (fun _ => true) where
  frame := by
    intro g F hg hF
    exact absurd hg Bool.false_ne_true
  good := by
    have h : (Try.prog.funcs.toList.all fun fn => match fn.body with | none => true | some c => goodCode (fun _ => true) c && !(fn.name == "runtime.NumGoroutine")) = true := by kernel_rfl
    intro f fn c hf h1 h2
    rw [E_P] at h1
    have := List.all_eq_true.1 h fn (Array.mem_toList_iff.2 (Array.mem_of_getElem? h1))
    rw [h2] at this
    simpa using this
theorem eqOk : EqOk E := by
  have h : (E.eqTypes.all fun t => !Try.prog.stoodInHeld t && !Try.prog.eqGuardType Try.prog.depth t) = true := by kernel_rfl
  intro t ht
  have := List.all_eq_true.1 h t (by simpa using ht)
  simpa using this
theorem knownOk : KnownOk E (fun _ => true) := by
  intro f F hF
  change knownT f = some F at hF
  unfold knownT at hF
  split at hF
  · obtain rfl := (Option.some.inj hF).symm
    exact known_28
  · obtain rfl := (Option.some.inj hF).symm
    exact known_Sum
  · obtain rfl := (Option.some.inj hF).symm
    exact known_Rest
  · obtain rfl := (Option.some.inj hF).symm
    exact known_Product
  · obtain rfl := (Option.some.inj hF).symm
    exact known_Ratio
  · obtain rfl := (Option.some.inj hF).symm
    exact known_Stand
  · obtain rfl := (Option.some.inj hF).symm
    exact known_Toward
  · obtain rfl := (Option.some.inj hF).symm
    exact known_Of
  · cases hF
theorem knownIn : KnownIn E := by
  intro f F hF
  change knownT f = some F at hF
  unfold knownT at hF
  split at hF
  · exact ⟨Try.f28, Try.f28.body.getD .skip, Try.func28, by kernel_rfl, by simp [Try.f28]⟩
  · exact ⟨Try.f55, Try.f55.body.getD .skip, Try.func55, by kernel_rfl, by simp [Try.f55]⟩
  · exact ⟨Try.f56, Try.f56.body.getD .skip, Try.func56, by kernel_rfl, by simp [Try.f56]⟩
  · exact ⟨Try.f57, Try.f57.body.getD .skip, Try.func57, by kernel_rfl, by simp [Try.f57]⟩
  · exact ⟨Try.f58, Try.f58.body.getD .skip, Try.func58, by kernel_rfl, by simp [Try.f58]⟩
  · exact ⟨Try.f32, Try.f32.body.getD .skip, Try.func32, by kernel_rfl, by simp [Try.f32]⟩
  · exact ⟨Try.f35, Try.f35.body.getD .skip, Try.func35, by kernel_rfl, by simp [Try.f35]⟩
  · exact ⟨Try.f34, Try.f34.body.getD .skip, Try.func34, by kernel_rfl, by simp [Try.f34]⟩
  · cases hF
end Go.Proofs.Ytjmipgfaghjgmaa.A
end
section
namespace Go.Proofs.Ytjmipgfaghjgmaa.A
open Go Go.Sim
set_option maxRecDepth 100000
set_option linter.unusedSimpArgs false
set_option linter.unusedVariables false

theorem binary_ok (lent) (op a b : Nat) (hd : divs op b = false) : pureV E (om E) 37 lent [.int .u8 op, .int .u32 a, .int .u32 b] = some (.tuple [.int .u32 (binW op a b), ii (if isBin op then 0 else 61)]) := by
  rw [binW_cast hd]
  have hc : op = 39 ∨ op = 40 ∨ op = 41 ∨ op = 42 ∨ op = 43 ∨ op = 44 ∨ op = 45 ∨ op = 46 ∨ op = 47 ∨ op = 48 ∨ op = 50 ∨ op = 51 ∨ op = 52 ∨ op = 54 ∨ op = 55 ∨ op = 56 ∨ op = 57 ∨ (op < 39 ∨ 57 < op ∨ op = 49 ∨ op = 53) := by omega
  have hdd : (¬ (((op = 42 ∨ op = 44) ∧ IntKind.i32.wrap b = 0) ∨ ((op = 43 ∨ op = 45) ∧ b = 0))) := by simpa [divs] using hd
  clear hd
  apply pu_37
  rcases hc with rfl | rfl | rfl | rfl | rfl | rfl | rfl | rfl | rfl | rfl | rfl | rfl | rfl | rfl | rfl | rfl | rfl | hc
  case inr.inr.inr.inr.inr.inr.inr.inr.inr.inr.inr.inr.inr.inr.inr.inr.inr =>
    have hb : isBin op = false := by simp [isBin]; omega
    have hi : binI op a b = 0 := by unfold binI; split <;> omega
    simp (disch := omega) [if_pos, if_neg, iteK_pos, iteK_neg, Try.f37, hb, hi]
  all_goals simp at hdd
  all_goals simp (disch := omega) [if_pos, if_neg, iteK_pos, iteK_neg, Try.f37, hdd, isBin, binI]
  all_goals first | done | (have : ¬ (b : Int) = 0 := by omega); simp (disch := omega) [if_pos, if_neg, iteK_pos, iteK_neg, Try.f37, hdd, isBin, binI, this]
end Go.Proofs.Ytjmipgfaghjgmaa.A
end
section
namespace Go.Proofs.Ytjmipgfaghjgmaa.A
open Go Go.Sim Go.RowKit
set_option maxRecDepth 100000
set_option linter.unusedSimpArgs false
set_option linter.unusedVariables false

theorem binary_walk (op a b : Nat) (hd : divs op b = false) (w : World) : Calls Try.prog 37 #[.int .u8 op, .int .u32 a, .int .u32 b] w fun e w' =>
    e = .returned (.tuple #[.int .u32 (binW op a b), .int .i64 (binE op b)]) ∧ Below w.heap.size w w' := by
  have hb := binary_ok false op a b hd
  have he : (if isBin op then 0 else 61 : Int) = ((binE op b : Nat) : Int) := by unfold binE; rw [hd]; split <;> rfl
  have hc : callV E (om E) 37 [.int .u8 op, .int .u32 a, .int .u32 b] [[]] = some (.tuple [.int .u32 (binW op a b), .int .i64 (binE op b)], [[]]) := by
    simp (disch := omega) [if_pos, if_neg, iteK_pos, iteK_neg, hb]
    exact he
  refine calls_of_callV (E := E) (args' := #[.int .u8 op, .int .u32 a, .int .u32 b]) eqOk fnOk knownOk knownIn hc (ok := fun b => b < w.heap.size) (fun b hb => hb) (by simp [VRelL, VRel]) fun ok' B' w' v hA => ?_
  have hval := hA.val
  simp only [VRel] at hval
  obtain ⟨vs, rfl, hvs⟩ := hval
  simp only [VRelL, VRel] at hvs
  obtain ⟨c, l', rfl, rfl, c', l'', rfl, rfl, rfl⟩ := hvs
  exact ⟨rfl, hA.ext.os, hA.ext.tape, hA.ext.output, hA.ext.size, fun k hk => hA.ext.same k hk fun d j => by simp [Bd.none_, Ent.blk]⟩

theorem binary_div (op a b : Nat) (hd : divs op b = true) (w : World) : Calls Try.prog 37 #[.int .u8 op, .int .u32 a, .int .u32 b] w fun e w' =>
    (∃ u pv, e = .panicked [{ v := .iface u pv, recovered := false }]) ∧ w' = w := by
  have hdd : (((op = 42 ∨ op = 44) ∧ IntKind.i32.wrap b = 0) ∨ ((op = 43 ∨ op = 45) ∧ b = 0)) := by simpa [divs] using hd
  clear hd
  rcases hdd with ⟨rfl | rfl, h⟩ | ⟨rfl | rfl, rfl⟩
  all_goals
    go_enter Try.func37, Try.ntmps37
    go_wp2
    simp [bodyPost]

theorem catch_panicking (p q : Addr) (x y : Int) (u : TypeId) (pv : Value) (older : List PanicEntry) (w : World) (hc : w.cell? p = some (.int .u32 x)) (hz : w.frozen? p = false) (hc' : w.cell? q = some (.int .i64 y)) (hz' : w.frozen? q = false) (hpq : p ≠ q) :
    CallsD Try.prog 36 #[.pointer (some p), .pointer (some q)] (.panicking ({ v := .iface u pv, recovered := false } :: older)) w fun e u' w' =>
      e = .returned (.tuple #[]) ∧ u' = .panicking ({ v := .iface u pv, recovered := true } :: older) ∧ w' = (w.setCell p (.int .u32 0)).setCell q (.int .i64 60) := by
  have hq : ∀ v, (w.setCell p v).cell? q = some (.int .i64 y) := fun v => by rw [World.cell?_setCell_other _ _ _ _ hpq, hc']
  refine callsD_of_wpS Try.func36 rfl fun c₀ cs hu => ?_
  apply wpS_seq
  apply wpS_region
  simp [wpOpsS, go_sem, recoverD, hu, Try.ntmps36, Exit.thenS]
  refine wpS_cond (t := true) (by simp [Act.eval, Array.replicate]) ?_
  simp only [if_true]
  apply wpS_region
  simp [wpOpsS, go_sem, hc, hz, hc', hz', hq, bodyPostS, results, Try.results36]
theorem catch_idle (p q : Addr) (w : World) :
    CallsD Try.prog 36 #[.pointer (some p), .pointer (some q)] .returning w fun e u' w' => e = .returned (.tuple #[]) ∧ u' = .returning ∧ w' = w := by
  refine callsD_of_wpS Try.func36 rfl fun c₀ cs hu => ?_
  apply wpS_seq
  apply wpS_region
  simp [wpOpsS, go_sem, recoverD, hu, Try.ntmps36, Exit.thenS]
  refine wpS_cond (t := false) (by simp [Act.eval, Array.replicate]) ?_
  simp only [Bool.false_eq_true, if_false]
  refine wpS_of_wp (wp_skip ?_)
  cases c₀
  simp_all [bodyPostS, results, Try.results36]
section
variable {w w' : World} {t u : TypeId} {x y v : Value}
theorem two_size : ((w.alloc (.cells #[x] t)).alloc (.cells #[y] u)).heap.size = w.heap.size + 2 := by
  show ((w.heap.push _).push _).size = _
  rw [Array.size_push, Array.size_push]
theorem two_block0 : ((w.alloc (.cells #[x] t)).alloc (.cells #[y] u)).heap[w.heap.size]? = some (.cells #[x] t) := by
  show ((w.heap.push _).push _)[w.heap.size]? = _
  rw [Array.getElem?_push, if_neg (by rw [Array.size_push]; omega), Array.getElem?_push, if_pos rfl]
theorem two_block1 : ((w.alloc (.cells #[x] t)).alloc (.cells #[y] u)).heap[w.heap.size + 1]? = some (.cells #[y] u) := by
  show ((w.heap.push _).push _)[w.heap.size + 1]? = _
  rw [Array.getElem?_push, if_pos (by rw [Array.size_push])]
theorem two_cell0 (h : Below ((w.alloc (.cells #[x] t)).alloc (.cells #[y] u)).heap.size ((w.alloc (.cells #[x] t)).alloc (.cells #[y] u)) w') : w'.cell? ⟨w.heap.size, 0, none⟩ = some x := by
  rw [h.cell (by rw [two_size]; show w.heap.size < _; omega), World.cell?, two_block0]; rfl
theorem two_cell1 (h : Below ((w.alloc (.cells #[x] t)).alloc (.cells #[y] u)).heap.size ((w.alloc (.cells #[x] t)).alloc (.cells #[y] u)) w') : w'.cell? ⟨w.heap.size + 1, 0, none⟩ = some y := by
  rw [h.cell (by rw [two_size]; show w.heap.size + 1 < _; omega), World.cell?, two_block1]; rfl
theorem two_frozen0 (h : Below ((w.alloc (.cells #[x] t)).alloc (.cells #[y] u)).heap.size ((w.alloc (.cells #[x] t)).alloc (.cells #[y] u)) w') : w'.frozen? ⟨w.heap.size, 0, none⟩ = false := by
  rw [h.frozen (by rw [two_size]; show w.heap.size < _; omega), World.frozen?, two_block0]; rfl
theorem two_frozen1 (h : Below ((w.alloc (.cells #[x] t)).alloc (.cells #[y] u)).heap.size ((w.alloc (.cells #[x] t)).alloc (.cells #[y] u)) w') : w'.frozen? ⟨w.heap.size + 1, 0, none⟩ = false := by
  rw [h.frozen (by rw [two_size]; show w.heap.size + 1 < _; omega), World.frozen?, two_block1]; rfl
theorem two_ne (n : Nat) : (⟨n, 0, none⟩ : Addr) ≠ ⟨n + 1, 0, none⟩ := by simp
theorem two_grown : Below w.heap.size w ((w.alloc (.cells #[x] t)).alloc (.cells #[y] u)) :=
  ((Below.refl _ w).alloc (Nat.le_refl _) _).alloc (by show _ ≤ (w.heap.push _).size; rw [Array.size_push]; omega) _
theorem two_below (h : Below ((w.alloc (.cells #[x] t)).alloc (.cells #[y] u)).heap.size ((w.alloc (.cells #[x] t)).alloc (.cells #[y] u)) w') : Below w.heap.size w w' :=
  two_grown.trans (h.mono (by rw [two_size]; omega))
end
theorem Binary_walk (op a b : Nat) (w : World) : Calls Try.prog 26 #[.int .u8 op, .int .u32 a, .int .u32 b] w fun e w' =>
    e = .returned (.tuple #[.int .u32 (binW op a b), .int .i64 (binE op b)]) ∧ Below w.heap.size w w' := by
  have hmf : ∀ (fn : Fn) (first cap : Array Value) (w : World), (Instr.makeFunc fn first cap).run Try.prog w = .ok (.func fn first cap) w := fun _ _ _ _ => rfl
  cases hd : divs op b
  · have hwalk := binary_walk op a b hd
    generalize binW op a b = x at *
    generalize binE op b = y at *
    go_enter_defers Try.func26, Try.ntmps26
    go_wp2_with (refine (hwalk _).mono ?_; rintro e w' ⟨rfl, hB⟩; have c0 := two_cell0 hB; have c1 := two_cell1 hB; have z0 := two_frozen0 hB; have z1 := two_frozen1 hB; have c2 : ∀ v, (w'.setCell ⟨w.heap.size, 0, none⟩ v).cell? ⟨w.heap.size + 1, 0, none⟩ = some (.int .i64 0) := fun v => by { rw [World.cell?_setCell_other _ _ _ _ (two_ne _), c1] })
    have hB' := two_below hB
    refine leaves_cons (f := 36) (args := #[.pointer (some ⟨w.heap.size, 0, none⟩), .pointer (some ⟨w.heap.size + 1, 0, none⟩)]) (by simp) (by simp [go_sem]) ?_
    refine (catch_idle _ _ _).mono ?_
    rintro e u' w'' ⟨rfl, rfl, rfl⟩
    simp [Leaves, settle, results, Try.results26, go_sem, c0, c1, z0, z1, c2]
    exact (hB'.setCell (by simp) _).setCell (by simp) _
  · have hwalk := binary_div op a b hd
    go_enter_defers Try.func26, Try.ntmps26
    go_wp2_with (refine (hwalk _).mono ?_; rintro e w' ⟨⟨u, pv, rfl⟩, rfl⟩)
    refine leaves_cons (f := 36) (args := #[.pointer (some ⟨w.heap.size, 0, none⟩), .pointer (some ⟨w.heap.size + 1, 0, none⟩)]) (by simp) (by simp [go_sem]) ?_
    refine (catch_panicking ⟨w.heap.size, 0, none⟩ ⟨w.heap.size + 1, 0, none⟩ 0 0 _ _ [] _ ?_ ?_ ?_ ?_ (two_ne _)).mono ?_
    · simp [go_sem]
    · simp [go_sem]
    · simp [go_sem]
    · simp [go_sem]
    rintro e u' w'' ⟨rfl, rfl, rfl⟩
    simp [Leaves, settle, results, Try.results26, go_sem]
    exact ⟨by simp [binW, binE, hd], two_grown⟩
end Go.Proofs.Ytjmipgfaghjgmaa.A
end
section
namespace Go.Proofs.Ytjmipgfaghjgmaa
open Go Go.Sim
set_option linter.unusedVariables false
theorem known_Binary : ∀ args h r h', knOUU (fun o a b => .tuple [.int .u32 (binW o a b), .int .i64 (binE o b)]) args h = some (r, h') → CallS Try.prog (fun _ => true) 26 args h r h' := known_ouu (G := fun o _ b => binE o b) A.Binary_walk
end Go.Proofs.Ytjmipgfaghjgmaa
end
section
namespace Go.Proofs.Ytjmipgfaghjgmaa.A
open Go Go.Sim
set_option maxRecDepth 100000
set_option linter.unusedSimpArgs false
set_option linter.unusedVariables false
theorem pop {h : Heap} {d j : Nat} {M : PM} {junk : List Nat} (hg : h.get d j = some M.blk) (hg2 : h.get d M.j = some (opsB (M.ops ++ junk) M.ep)) (hj : M.ops.length < 2 ^ 62) :
    callV E (om E) 10 [.pref d j 0 0] h = some (u32V (popF M).1, h.set d j (popF M).2.blk) := by
  apply he_10
  unfold PM.blk opsB at *
  rcases List.eq_nil_or_concat M.ops with hn | ⟨l, w, hl⟩
  · have hl0 : M.ops.length = 0 := by rw [hn]; rfl
    have hp : popF M = (0, M.withBad true) := by unfold popF; rw [hn]; rfl
    rw [hp]
    simp (disch := omega) [if_pos, if_neg, iteK_pos, iteK_neg, Try.f10, V.upIf, hg, hl0]
  · rw [List.concat_eq_append] at hl
    have hl1 : M.ops.length = l.length + 1 := by rw [hl]; simp
    have hw : (M.ops ++ junk)[l.length]? = some w := by rw [hl]; simp
    have hp : popF M = (w, M.withOps l M.ep) := by unfold popF; rw [hl]; simp
    have hs := PM.set_1 M l M.ep
    rw [hp]
    generalize M.ops ++ junk = L at *
    have hw' : (L.map u32V)[l.length]? = some (u32V w) := by rw [opsC_get, hw]; rfl
    simp (disch := omega) [if_pos, if_neg, iteK_pos, iteK_neg, Try.f10, V.upIf, hg, hg2, hl1, hw', hs]
end Go.Proofs.Ytjmipgfaghjgmaa.A
end
section
namespace Go.Proofs.Ytjmipgfaghjgmaa
open Go Go.Sim
set_option maxRecDepth 100000
set_option linter.unusedSimpArgs false
set_option linter.unusedVariables false
def PopDom (args : List V) (h : Heap) : Prop := ∃ d j M junk, args = [.pref d j 0 0] ∧ h.get d j = some (PM.blk M) ∧ h.get d M.j = some (opsB (M.ops ++ junk) M.ep) ∧ M.ops.length < 2 ^ 62
noncomputable def popK (args : List V) (h : Heap) : Option (V × Heap) := @ite _ (PopDom args h) (Classical.propDecidable _) (callV A.E (om A.E) 10 args h) none
theorem popK_eq {h : Heap} {d j : Nat} {M : PM} {junk : List Nat} (hg : h.get d j = some M.blk) (hg2 : h.get d M.j = some (opsB (M.ops ++ junk) M.ep)) (hj : M.ops.length < 2 ^ 62) : popK [.pref d j 0 0] h = some (u32V (popF M).1, h.set d j (popF M).2.blk) := by
  unfold popK
  rw [if_pos ⟨d, j, M, junk, rfl, hg, hg2, hj⟩]
  exact A.pop hg hg2 hj
theorem known_pop : ∀ args h r h', popK args h = some (r, h') → CallS Try.prog (fun _ => true) 10 args h r h' := by
  intro args h r h' hc
  unfold popK at hc
  split at hc
  · obtain ⟨n, hn⟩ := Fs.fuel A.E (callV_fs A.E 10 args h) hc
    exact call_sound (ev_sound A.eqOk A.fnOk A.knownOk A.knownIn n) A.fnOk A.knownOk hn
  · cases hc
theorem get_set_ne {h : Heap} {d j d' j' : Nat} {b : Blk} (hne : d ≠ d' ∨ j ≠ j') : (h.set d j b).get d' j' = h.get d' j' := by
  unfold Heap.get Heap.set
  by_cases hd : d = d'
  · subst hd
    have hj : j ≠ j' := by rcases hne with h | h; exact absurd rfl h; exact h
    by_cases hlt : d < h.length
    · rw [List.getElem?_set_self hlt]
      simp [List.getElem?_eq_getElem hlt, List.getElem?_set_ne hj]
    · rw [List.getElem?_eq_none (by simpa using hlt), List.getElem?_eq_none (by simpa using hlt)]
  · rw [List.getElem?_set_ne hd]
theorem frame_pop : ∀ args h r h', popK args h = some (r, h') → h'.length = h.length ∧ ∀ d j, (∀ v ∈ args, ∀ d' j' o e, v = .pref d' j' o e → d' ≠ d ∨ j' ≠ j) → h'.get d j = h.get d j := by
  intro args h r h' hc
  by_cases hD : PopDom args h
  · obtain ⟨d, j, M, junk, rfl, hg, hg2, hj⟩ := hD
    rw [popK_eq hg hg2 hj] at hc
    simp only [Option.some.injEq, Prod.mk.injEq] at hc
    obtain ⟨_, rfl⟩ := hc
    refine ⟨by simp [Heap.set], fun d1 j1 hv => get_set_ne (hv _ List.mem_cons_self d j 0 0 rfl)⟩
  · unfold popK at hc
    rw [if_neg hD] at hc
    cases hc
end Go.Proofs.Ytjmipgfaghjgmaa
end
