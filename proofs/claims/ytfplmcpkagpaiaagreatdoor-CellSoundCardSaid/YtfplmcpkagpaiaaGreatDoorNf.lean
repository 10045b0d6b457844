/-
 What the machine of values takes for known of slices.Clone is so. Printed by program.
 What the machine of values takes for known is so; what it asks of the program's functions. Printed by program.
 Package alu: what an operation of two words gives, but for a division by nought.
 Package alu: Binary: a division by nought is caught.
 alu.Binary, as the machine of values takes it for known.
-/
import Derived.Test.YtfplmcpkagpaiaaGreatDoorNe
import Derived.WalkKit
import Derived.ProofKit
import Derived.OwnWalk
import Derived.Test.YtfplmcpkagpaiaaGreatDoorNs
import Derived.Tactics
import Derived.Tactics2
import Derived.Defers
import Derived.Recover
import Derived.Laws.Pointers
set_option maxRecDepth 100000
set_option linter.unusedSimpArgs false
set_option linter.unusedVariables false
section
namespace Go.Proofs.YtfplmcpkagpaiaaGreatDoor
open Go Go.Sim
theorem wpList_append_any {P : Program} (w : World) {ops : Array Oper} {rest : List Oper} {o : Oper} {a : Act} {Q : Exit → Act → World → Prop} (hgd : o.guard = none) (s x : Operand) (t tn : TypeId)
  (ho : o.op = .call { callee := .builtin .append, args := #[s, x], argTypes := #[t, tn] }) (vs vx : Value) (hs : a.eval s = vs) (hx : a.eval x = vx)
  (v' : Value) (w' : World) (hr : (Builtin.append_ #[t, tn] o.type #[vs, vx]).run P w = .ok v' w') (h : wpList P ops Q rest (a.put o.dst v') w') : wpList P ops Q (o :: rest) a w := by
 refine wpList_plain hgd fun K hK' => ?_
 unfold Oper.wp
 simp [execOp, ho, resolve, invoke, builtin, hs, hx, hr, Result.andThen]
 exact hK' _ _ h
theorem clone_nil_42 (w : World) : Calls Tryz.prog 42 #[.slice none 0 0] w fun e w' => e = .returned (.slice none 0 0) ∧ w' = w := by
 have he := fun w => run_eql_nil2 (P := Tryz.prog) (t := 22) Tryz.underlying22 w
 go_enter Tryz.func42, Tryz.ntmps42
 go_wp2
 go_ret
 exact ⟨rfl, rfl⟩
theorem clone_some_42 (a : Addr) (n c : Nat) (w w2 : World) (x : Value) (h2 : (Builtin.append_ #[22, 22] 22 #[.slice (some ⟨w.heap.size, 0, none⟩) 0 0, .slice (some a) n c]).run Tryz.prog (w.alloc (.cells #[] 48 (0, 0))) = .ok x w2) :
  Calls Tryz.prog 42 #[.slice (some a) n c] w fun e w' => e = .returned x ∧ w' = w2 := by
 have he := fun w => run_eql_nil (P := Tryz.prog) (t := 22) Tryz.underlying22 a n c w
 go_enter Tryz.func42, Tryz.ntmps42
 go_wp2_with (at_builtin; refine wpList_append_any _ rfl _ _ 22 22 rfl _ _ rfl rfl x w2 h2 ?_)
 go_ret
 exact ⟨rfl, rfl⟩
theorem known_42 {p : Array Oper → Bool} : ∀ args h r h', cloneWL 17592186044416 2 args h = some (r, h') → CallS Tryz.prog p 42 args h r h' := by
 intro args h r h' hc
 obtain ⟨s, rfl⟩ : ∃ s, args = [s] := by
  unfold cloneWL at hc
  split at hc
  ·exact ⟨_, rfl⟩
  ·exact ⟨_, rfl⟩
  ·cases hc
 intro ok B w args' R hh ha hR
 simp only [VRelL] at ha
 obtain ⟨v, l', rfl, hv, rfl⟩ := ha
 refine callsIn_wide.2 ?_
 have hA := clone_after (P := Tryz.prog) (t := 22) (e := 48) (ty := 22) (by_ := 8) hh Tryz.underlying22 size_48 bytes_48 zero_48 (by omega) (by omega) (by omega) rfl hc hv
 rcases hA with ⟨rfl, hA⟩ | ⟨a, n, c, u, w1, x, w2, ok', B', rfl, h1, h2, hA⟩
 ·exact (clone_nil_42 w).mono fun e w' ⟨he, hw⟩ => by subst he hw; exact hR _ _ _ _ hA
 ·rw [run_build_none (P := Tryz.prog) Tryz.underlying22 size_48] at h1
  simp only [Result.ok.injEq] at h1
  obtain ⟨rfl, rfl⟩ := h1
  exact (clone_some_42 a n c w w2 x h2).mono fun e w' ⟨he, hw⟩ => by subst he hw; exact hR _ _ _ _ hA
theorem clone_nil_43 (w : World) : Calls Tryz.prog 43 #[.slice none 0 0] w fun e w' => e = .returned (.slice none 0 0) ∧ w' = w := by
 have he := fun w => run_eql_nil2 (P := Tryz.prog) (t := 23) Tryz.underlying23 w
 go_enter Tryz.func43, Tryz.ntmps43
 go_wp2
 go_ret
 exact ⟨rfl, rfl⟩
theorem clone_some_43 (a : Addr) (n c : Nat) (w w2 : World) (x : Value) (h2 : (Builtin.append_ #[23, 23] 23 #[.slice (some ⟨w.heap.size, 0, none⟩) 0 0, .slice (some a) n c]).run Tryz.prog (w.alloc (.cells #[] 25 (0, 0))) = .ok x w2) :
  Calls Tryz.prog 43 #[.slice (some a) n c] w fun e w' => e = .returned x ∧ w' = w2 := by
 have he := fun w => run_eql_nil (P := Tryz.prog) (t := 23) Tryz.underlying23 a n c w
 go_enter Tryz.func43, Tryz.ntmps43
 go_wp2_with (at_builtin; refine wpList_append_any _ rfl _ _ 23 23 rfl _ _ rfl rfl x w2 h2 ?_)
 go_ret
 exact ⟨rfl, rfl⟩
theorem known_43 {p : Array Oper → Bool} : ∀ args h r h', cloneWL 35184372088832 1 args h = some (r, h') → CallS Tryz.prog p 43 args h r h' := by
 intro args h r h' hc
 obtain ⟨s, rfl⟩ : ∃ s, args = [s] := by
  unfold cloneWL at hc
  split at hc
  ·exact ⟨_, rfl⟩
  ·exact ⟨_, rfl⟩
  ·cases hc
 intro ok B w args' R hh ha hR
 simp only [VRelL] at ha
 obtain ⟨v, l', rfl, hv, rfl⟩ := ha
 refine callsIn_wide.2 ?_
 have hA := clone_after (P := Tryz.prog) (t := 23) (e := 25) (ty := 23) (by_ := 4) hh Tryz.underlying23 size_25 bytes_25 zero_25 (by omega) (by omega) (by omega) rfl hc hv
 rcases hA with ⟨rfl, hA⟩ | ⟨a, n, c, u, w1, x, w2, ok', B', rfl, h1, h2, hA⟩
 ·exact (clone_nil_43 w).mono fun e w' ⟨he, hw⟩ => by subst he hw; exact hR _ _ _ _ hA
 ·rw [run_build_none (P := Tryz.prog) Tryz.underlying23 size_25] at h1
  simp only [Result.ok.injEq] at h1
  obtain ⟨rfl, rfl⟩ := h1
  exact (clone_some_43 a n c w w2 x h2).mono fun e w' ⟨he, hw⟩ => by subst he hw; exact hR _ _ _ _ hA
theorem clone_nil_44 (w : World) : Calls Tryz.prog 44 #[.slice none 0 0] w fun e w' => e = .returned (.slice none 0 0) ∧ w' = w := by
 have he := fun w => run_eql_nil2 (P := Tryz.prog) (t := 24) Tryz.underlying24 w
 go_enter Tryz.func44, Tryz.ntmps44
 go_wp2
 go_ret
 exact ⟨rfl, rfl⟩
theorem clone_some_44 (a : Addr) (n c : Nat) (w w2 : World) (x : Value) (h2 : (Builtin.append_ #[24, 24] 24 #[.slice (some ⟨w.heap.size, 0, none⟩) 0 0, .slice (some a) n c]).run Tryz.prog (w.alloc (.cells #[] 5 (0, 0))) = .ok x w2) :
  Calls Tryz.prog 44 #[.slice (some a) n c] w fun e w' => e = .returned x ∧ w' = w2 := by
 have he := fun w => run_eql_nil (P := Tryz.prog) (t := 24) Tryz.underlying24 a n c w
 go_enter Tryz.func44, Tryz.ntmps44
 go_wp2_with (at_builtin; refine wpList_append_any _ rfl _ _ 24 24 rfl _ _ rfl rfl x w2 h2 ?_)
 go_ret
 exact ⟨rfl, rfl⟩
theorem known_44 {p : Array Oper → Bool} : ∀ args h r h', cloneWL 140737488355328 1 args h = some (r, h') → CallS Tryz.prog p 44 args h r h' := by
 intro args h r h' hc
 obtain ⟨s, rfl⟩ : ∃ s, args = [s] := by
  unfold cloneWL at hc
  split at hc
  ·exact ⟨_, rfl⟩
  ·exact ⟨_, rfl⟩
  ·cases hc
 intro ok B w args' R hh ha hR
 simp only [VRelL] at ha
 obtain ⟨v, l', rfl, hv, rfl⟩ := ha
 refine callsIn_wide.2 ?_
 have hA := clone_after (P := Tryz.prog) (t := 24) (e := 5) (ty := 24) (by_ := 1) hh Tryz.underlying24 size_5 bytes_5 zero_5 (by omega) (by omega) (by omega) rfl hc hv
 rcases hA with ⟨rfl, hA⟩ | ⟨a, n, c, u, w1, x, w2, ok', B', rfl, h1, h2, hA⟩
 ·exact (clone_nil_44 w).mono fun e w' ⟨he, hw⟩ => by subst he hw; exact hR _ _ _ _ hA
 ·rw [run_build_none (P := Tryz.prog) Tryz.underlying24 size_5] at h1
  simp only [Result.ok.injEq] at h1
  obtain ⟨rfl, rfl⟩ := h1
  exact (clone_some_44 a n c w w2 x h2).mono fun e w' ⟨he, hw⟩ => by subst he hw; exact hR _ _ _ _ hA
theorem clone_nil_45 (w : World) : Calls Tryz.prog 45 #[.slice none 0 0] w fun e w' => e = .returned (.slice none 0 0) ∧ w' = w := by
 have he := fun w => run_eql_nil2 (P := Tryz.prog) (t := 26) Tryz.underlying26 w
 go_enter Tryz.func45, Tryz.ntmps45
 go_wp2
 go_ret
 exact ⟨rfl, rfl⟩
theorem clone_some_45 (a : Addr) (n c : Nat) (w w2 : World) (x : Value) (h2 : (Builtin.append_ #[26, 26] 26 #[.slice (some ⟨w.heap.size, 0, none⟩) 0 0, .slice (some a) n c]).run Tryz.prog (w.alloc (.cells #[] 117 (0, 0))) = .ok x w2) :
  Calls Tryz.prog 45 #[.slice (some a) n c] w fun e w' => e = .returned x ∧ w' = w2 := by
 have he := fun w => run_eql_nil (P := Tryz.prog) (t := 26) Tryz.underlying26 a n c w
 go_enter Tryz.func45, Tryz.ntmps45
 go_wp2_with (at_builtin; refine wpList_append_any _ rfl _ _ 26 26 rfl _ _ rfl rfl x w2 h2 ?_)
 go_ret
 exact ⟨rfl, rfl⟩
theorem known_45 {p : Array Oper → Bool} : ∀ args h r h', cloneWL 5864062014805 2 args h = some (r, h') → CallS Tryz.prog p 45 args h r h' := by
 intro args h r h' hc
 obtain ⟨s, rfl⟩ : ∃ s, args = [s] := by
  unfold cloneWL at hc
  split at hc
  ·exact ⟨_, rfl⟩
  ·exact ⟨_, rfl⟩
  ·cases hc
 intro ok B w args' R hh ha hR
 simp only [VRelL] at ha
 obtain ⟨v, l', rfl, hv, rfl⟩ := ha
 refine callsIn_wide.2 ?_
 have hA := clone_after (P := Tryz.prog) (t := 26) (e := 117) (ty := 26) (by_ := 24) hh Tryz.underlying26 size_117 bytes_117 zero_117 (by omega) (by omega) (by omega) rfl hc hv
 rcases hA with ⟨rfl, hA⟩ | ⟨a, n, c, u, w1, x, w2, ok', B', rfl, h1, h2, hA⟩
 ·exact (clone_nil_45 w).mono fun e w' ⟨he, hw⟩ => by subst he hw; exact hR _ _ _ _ hA
 ·rw [run_build_none (P := Tryz.prog) Tryz.underlying26 size_117] at h1
  simp only [Result.ok.injEq] at h1
  obtain ⟨rfl, rfl⟩ := h1
  exact (clone_some_45 a n c w w2 x h2).mono fun e w' ⟨he, hw⟩ => by subst he hw; exact hR _ _ _ _ hA
theorem clone_nil_69 (w : World) : Calls Tryz.prog 69 #[.slice none 0 0] w fun e w' => e = .returned (.slice none 0 0) ∧ w' = w := by
 have he := fun w => run_eql_nil2 (P := Tryz.prog) (t := 146) Tryz.underlying146 w
 go_enter Tryz.func69, Tryz.ntmps69
 go_wp2
 go_ret
 exact ⟨rfl, rfl⟩
theorem clone_some_69 (a : Addr) (n c : Nat) (w w2 : World) (x : Value) (h2 : (Builtin.append_ #[146, 146] 146 #[.slice (some ⟨w.heap.size, 0, none⟩) 0 0, .slice (some a) n c]).run Tryz.prog (w.alloc (.cells #[] 57 (0, 0))) = .ok x w2) :
  Calls Tryz.prog 69 #[.slice (some a) n c] w fun e w' => e = .returned x ∧ w' = w2 := by
 have he := fun w => run_eql_nil (P := Tryz.prog) (t := 146) Tryz.underlying146 a n c w
 go_enter Tryz.func69, Tryz.ntmps69
 go_wp2_with (at_builtin; refine wpList_append_any _ rfl _ _ 146 146 rfl _ _ rfl rfl x w2 h2 ?_)
 go_ret
 exact ⟨rfl, rfl⟩
theorem known_69 {p : Array Oper → Bool} : ∀ args h r h', cloneWL 17592186044416 1 args h = some (r, h') → CallS Tryz.prog p 69 args h r h' := by
 intro args h r h' hc
 obtain ⟨s, rfl⟩ : ∃ s, args = [s] := by
  unfold cloneWL at hc
  split at hc
  ·exact ⟨_, rfl⟩
  ·exact ⟨_, rfl⟩
  ·cases hc
 intro ok B w args' R hh ha hR
 simp only [VRelL] at ha
 obtain ⟨v, l', rfl, hv, rfl⟩ := ha
 refine callsIn_wide.2 ?_
 have hA := clone_after (P := Tryz.prog) (t := 146) (e := 57) (ty := 146) (by_ := 8) hh Tryz.underlying146 size_57 bytes_57 zero_57 (by omega) (by omega) (by omega) rfl hc hv
 rcases hA with ⟨rfl, hA⟩ | ⟨a, n, c, u, w1, x, w2, ok', B', rfl, h1, h2, hA⟩
 ·exact (clone_nil_69 w).mono fun e w' ⟨he, hw⟩ => by subst he hw; exact hR _ _ _ _ hA
 ·rw [run_build_none (P := Tryz.prog) Tryz.underlying146 size_57] at h1
  simp only [Result.ok.injEq] at h1
  obtain ⟨rfl, rfl⟩ := h1
  exact (clone_some_69 a n c w w2 x h2).mono fun e w' ⟨he, hw⟩ => by subst he hw; exact hR _ _ _ _ hA
theorem clone_nil_113 (w : World) : Calls Tryz.prog 113 #[.slice none 0 0] w fun e w' => e = .returned (.slice none 0 0) ∧ w' = w := by
 have he := fun w => run_eql_nil2 (P := Tryz.prog) (t := 24) Tryz.underlying24 w
 go_enter Tryz.func113, Tryz.ntmps113
 go_wp2
 go_ret
 exact ⟨rfl, rfl⟩
theorem clone_some_113 (a : Addr) (n c : Nat) (w w2 : World) (x : Value) (h2 : (Builtin.append_ #[24, 24] 24 #[.slice (some ⟨w.heap.size, 0, none⟩) 0 0, .slice (some a) n c]).run Tryz.prog (w.alloc (.cells #[] 5 (0, 0))) = .ok x w2) :
  Calls Tryz.prog 113 #[.slice (some a) n c] w fun e w' => e = .returned x ∧ w' = w2 := by
 have he := fun w => run_eql_nil (P := Tryz.prog) (t := 24) Tryz.underlying24 a n c w
 go_enter Tryz.func113, Tryz.ntmps113
 go_wp2_with (at_builtin; refine wpList_append_any _ rfl _ _ 24 24 rfl _ _ rfl rfl x w2 h2 ?_)
 go_ret
 exact ⟨rfl, rfl⟩
theorem known_113 {p : Array Oper → Bool} : ∀ args h r h', cloneWL 140737488355328 1 args h = some (r, h') → CallS Tryz.prog p 113 args h r h' := by
 intro args h r h' hc
 obtain ⟨s, rfl⟩ : ∃ s, args = [s] := by
  unfold cloneWL at hc
  split at hc
  ·exact ⟨_, rfl⟩
  ·exact ⟨_, rfl⟩
  ·cases hc
 intro ok B w args' R hh ha hR
 simp only [VRelL] at ha
 obtain ⟨v, l', rfl, hv, rfl⟩ := ha
 refine callsIn_wide.2 ?_
 have hA := clone_after (P := Tryz.prog) (t := 24) (e := 5) (ty := 24) (by_ := 1) hh Tryz.underlying24 size_5 bytes_5 zero_5 (by omega) (by omega) (by omega) rfl hc hv
 rcases hA with ⟨rfl, hA⟩ | ⟨a, n, c, u, w1, x, w2, ok', B', rfl, h1, h2, hA⟩
 ·exact (clone_nil_113 w).mono fun e w' ⟨he, hw⟩ => by subst he hw; exact hR _ _ _ _ hA
 ·rw [run_build_none (P := Tryz.prog) Tryz.underlying24 size_5] at h1
  simp only [Result.ok.injEq] at h1
  obtain ⟨rfl, rfl⟩ := h1
  exact (clone_some_113 a n c w w2 x h2).mono fun e w' ⟨he, hw⟩ => by subst he hw; exact hR _ _ _ _ hA
end Go.Proofs.YtfplmcpkagpaiaaGreatDoor
end
section
namespace Go.Proofs.YtfplmcpkagpaiaaGreatDoor.A
open Go Go.Sim
theorem fnOk : FnOk E (fun _ => true) where
 frame := by
  intro g F hg hF
  exact absurd hg Bool.false_ne_true
 good := by
  have h : (Tryz.prog.funcs.toList.all fun fn => match fn.body with | none => true | some c => goodCode (fun _ => true) c && !(fn.name == "runtime.NumGoroutine")) = true := by kernel_rfl
  intro f fn c hf h1 h2
  rw [E_P] at h1
  have := List.all_eq_true.1 h fn (Array.mem_toList_iff.2 (Array.mem_of_getElem? h1))
  rw [h2] at this
  simpa using this
theorem eqOk : EqOk E := by
 have h : (E.eqTypes.all fun t => !Tryz.prog.stoodInHeld t && !Tryz.prog.eqGuardType Tryz.prog.depth t) = true := by kernel_rfl
 intro t ht
 have := List.all_eq_true.1 h t (by simpa using ht)
 simpa using this
theorem knownOk : KnownOk E (fun _ => true) := by
 intro f F hF
 change knownT f = some F at hF
 unfold knownT at hF
 split at hF
 ·obtain rfl := (Option.some.inj hF).symm
  exact known_Sum
 ·obtain rfl := (Option.some.inj hF).symm
  exact known_Rest
 ·obtain rfl := (Option.some.inj hF).symm
  exact known_Product
 ·obtain rfl := (Option.some.inj hF).symm
  exact known_Ratio
 ·obtain rfl := (Option.some.inj hF).symm
  exact known_Stand
 ·obtain rfl := (Option.some.inj hF).symm
  exact known_Toward
 ·obtain rfl := (Option.some.inj hF).symm
  exact known_Of
 ·cases hF
theorem knownIn : KnownIn E := by
 intro f F hF
 change knownT f = some F at hF
 unfold knownT at hF
 split at hF
 ·exact ⟨Tryz.f143, Tryz.f143.body.getD .skip, Tryz.func143, by kernel_rfl, by simp [Tryz.f143]⟩
 ·exact ⟨Tryz.f144, Tryz.f144.body.getD .skip, Tryz.func144, by kernel_rfl, by simp [Tryz.f144]⟩
 ·exact ⟨Tryz.f145, Tryz.f145.body.getD .skip, Tryz.func145, by kernel_rfl, by simp [Tryz.f145]⟩
 ·exact ⟨Tryz.f146, Tryz.f146.body.getD .skip, Tryz.func146, by kernel_rfl, by simp [Tryz.f146]⟩
 ·exact ⟨Tryz.f136, Tryz.f136.body.getD .skip, Tryz.func136, by kernel_rfl, by simp [Tryz.f136]⟩
 ·exact ⟨Tryz.f141, Tryz.f141.body.getD .skip, Tryz.func141, by kernel_rfl, by simp [Tryz.f141]⟩
 ·exact ⟨Tryz.f140, Tryz.f140.body.getD .skip, Tryz.func140, by kernel_rfl, by simp [Tryz.f140]⟩
 ·cases hF
end Go.Proofs.YtfplmcpkagpaiaaGreatDoor.A
end
section
namespace Go.Proofs.YtfplmcpkagpaiaaGreatDoor.A
open Go Go.Sim
theorem binary_ok (lent) (op a b : Nat) (hd : divs op b = false) : pureV E (om E) 138 lent [.int .u8 op, .int .u32 a, .int .u32 b] = some (.tuple [.int .u32 (binW op a b), ii (if isBin op then 0 else 61)]) := by
 rw [binW_cast hd]
 have hc : op = 39 ∨ op = 40 ∨ op = 41 ∨ op = 42 ∨ op = 43 ∨ op = 44 ∨ op = 45 ∨ op = 46 ∨ op = 47 ∨ op = 48 ∨ op = 50 ∨ op = 51 ∨ op = 52 ∨ op = 54 ∨ op = 55 ∨ op = 56 ∨ op = 57 ∨ (op < 39 ∨ 57 < op ∨ op = 49 ∨ op = 53) := by omega
 have hdd : (¬ (((op = 42 ∨ op = 44) ∧ IntKind.i32.wrap b = 0) ∨ ((op = 43 ∨ op = 45) ∧ b = 0))) := by simpa [divs] using hd
 clear hd
 apply pu_138
 rcases hc with rfl | rfl | rfl | rfl | rfl | rfl | rfl | rfl | rfl | rfl | rfl | rfl | rfl | rfl | rfl | rfl | rfl | hc
 case inr.inr.inr.inr.inr.inr.inr.inr.inr.inr.inr.inr.inr.inr.inr.inr.inr =>
  have hb : isBin op = false := by simp [isBin]; omega
  have hi : binI op a b = 0 := by unfold binI; split <;> omega
  simp (disch := omega) [if_pos, if_neg, iteK_pos, iteK_neg, Tryz.f138, hb, hi]
 all_goals simp at hdd
 all_goals simp (disch := omega) [if_pos, if_neg, iteK_pos, iteK_neg, Tryz.f138, hdd, isBin, binI]
 all_goals first | done | (have : ¬ (b : Int) = 0 := by omega); simp (disch := omega) [if_pos, if_neg, iteK_pos, iteK_neg, Tryz.f138, hdd, isBin, binI, this]
end Go.Proofs.YtfplmcpkagpaiaaGreatDoor.A
end
section
namespace Go.Proofs.YtfplmcpkagpaiaaGreatDoor.A
open Go Go.Sim Go.RowKit
theorem binary_walk (op a b : Nat) (hd : divs op b = false) (w : World) : Calls Tryz.prog 138 #[.int .u8 op, .int .u32 a, .int .u32 b] w fun e w' =>
  e = .returned (.tuple #[.int .u32 (binW op a b), .int .i64 (binE op b)]) ∧ Below w.heap.size w w' := by
 have hb := binary_ok false op a b hd
 have he : (if isBin op then 0 else 61 : Int) = ((binE op b : Nat) : Int) := by unfold binE; rw [hd]; split <;> rfl
 have hc : callV E (om E) 138 [.int .u8 op, .int .u32 a, .int .u32 b] [[]] = some (.tuple [.int .u32 (binW op a b), .int .i64 (binE op b)], [[]]) := by
  simp (disch := omega) [if_pos, if_neg, iteK_pos, iteK_neg, hb]
  exact he
 refine calls_of_callV (E := E) (args' := #[.int .u8 op, .int .u32 a, .int .u32 b]) eqOk fnOk knownOk knownIn hc (ok := fun b _ => b < w.heap.size) (fun b _ hb => hb) (by simp [VRelL, VRel]) fun ok' B' w' v hA => ?_
 have hval := hA.val
 simp only [VRel] at hval
 obtain ⟨vs, rfl, hvs⟩ := hval
 simp only [VRelL, VRel] at hvs
 obtain ⟨c, l', rfl, rfl, c', l'', rfl, rfl, rfl⟩ := hvs
 exact ⟨rfl, hA.ext.os, hA.ext.tape, hA.ext.output, hA.ext.size, fun k hk => hA.ext.same k hk fun d j => by simp [Bd.none_, Ent.blk]⟩
theorem binary_div (op a b : Nat) (hd : divs op b = true) (w : World) : Calls Tryz.prog 138 #[.int .u8 op, .int .u32 a, .int .u32 b] w fun e w' =>
  (∃ u pv, e = .panicked [{ v := .iface u pv, recovered := false }]) ∧ w' = w := by
 have hdd : (((op = 42 ∨ op = 44) ∧ IntKind.i32.wrap b = 0) ∨ ((op = 43 ∨ op = 45) ∧ b = 0)) := by simpa [divs] using hd
 clear hd
 rcases hdd with ⟨rfl | rfl, h⟩ | ⟨rfl | rfl, rfl⟩
 all_goals
  go_enter Tryz.func138, Tryz.ntmps138
  go_wp2
  simp [bodyPost]
theorem catch_panicking (p q : Addr) (x y : Int) (u : TypeId) (pv : Value) (older : List PanicEntry) (w : World) (hc : w.cell? p = some (.int .u32 x)) (hz : w.frozen? p = false) (hc' : w.cell? q = some (.int .i64 y)) (hz' : w.frozen? q = false) (hpq : p ≠ q) :
  CallsD Tryz.prog 137 #[.pointer (some p), .pointer (some q)] (.panicking ({ v := .iface u pv, recovered := false } :: older)) w fun e u' w' =>
   e = .returned (.tuple #[]) ∧ u' = .panicking ({ v := .iface u pv, recovered := true } :: older) ∧ w' = (w.setCell p (.int .u32 0)).setCell q (.int .i64 60) := by
 have hq : ∀ v, (w.setCell p v).cell? q = some (.int .i64 y) := fun v => by rw [World.cell?_setCell_other _ _ _ _ hpq, hc']
 refine callsD_of_wpS Tryz.func137 rfl fun c₀ cs hu => ?_
 apply wpS_seq
 apply wpS_region
 simp [wpOpsS, go_sem, recoverD, hu, Tryz.ntmps137, Exit.thenS]
 refine wpS_cond (t := true) (by simp [Act.eval, Array.replicate]) ?_
 simp only [if_true]
 apply wpS_region
 simp [wpOpsS, go_sem, hc, hz, hc', hz', hq, bodyPostS, results, Tryz.results137]
theorem catch_idle (p q : Addr) (w : World) :
  CallsD Tryz.prog 137 #[.pointer (some p), .pointer (some q)] .returning w fun e u' w' => e = .returned (.tuple #[]) ∧ u' = .returning ∧ w' = w := by
 refine callsD_of_wpS Tryz.func137 rfl fun c₀ cs hu => ?_
 apply wpS_seq
 apply wpS_region
 simp [wpOpsS, go_sem, recoverD, hu, Tryz.ntmps137, Exit.thenS]
 refine wpS_cond (t := false) (by simp [Act.eval, Array.replicate]) ?_
 simp only [Bool.false_eq_true, if_false]
 refine wpS_of_wp (wp_skip ?_)
 cases c₀
 simp_all [bodyPostS, results, Tryz.results137]
section
variable {w w' : World} {t u : TypeId} {x y v : Value}
theorem two_size : ((w.alloc (.cells #[x] t)).alloc (.cells #[y] u)).heap.size = w.heap.size + 2 := by
 show ((w.heap.push _).push _).size = _
 rw [Array.size_push, Array.size_push]
theorem two_block0 : ((w.alloc (.cells #[x] t)).alloc (.cells #[y] u)).heap[w.heap.size]? = some (.cells #[x] t) := by
 show ((w.heap.push _).push _)[w.heap.size]? = _
 rw [Array.getElem?_push, if_neg (by rw [Array.size_push]; omega), Array.getElem?_push, if_pos rfl]
theorem two_block1 : ((w.alloc (.cells #[x] t)).alloc (.cells #[y] u)).heap[w.heap.size + 1]? = some (.cells #[y] u) := by
 show ((w.heap.push _).push _)[w.heap.size + 1]? = _
 rw [Array.getElem?_push, if_pos (by rw [Array.size_push])]
theorem two_cell0 (h : Below ((w.alloc (.cells #[x] t)).alloc (.cells #[y] u)).heap.size ((w.alloc (.cells #[x] t)).alloc (.cells #[y] u)) w') : w'.cell? ⟨w.heap.size, 0, none⟩ = some x := by
 rw [h.cell (by rw [two_size]; show w.heap.size < _; omega), World.cell?, two_block0]; rfl
theorem two_cell1 (h : Below ((w.alloc (.cells #[x] t)).alloc (.cells #[y] u)).heap.size ((w.alloc (.cells #[x] t)).alloc (.cells #[y] u)) w') : w'.cell? ⟨w.heap.size + 1, 0, none⟩ = some y := by
 rw [h.cell (by rw [two_size]; show w.heap.size + 1 < _; omega), World.cell?, two_block1]; rfl
theorem two_frozen0 (h : Below ((w.alloc (.cells #[x] t)).alloc (.cells #[y] u)).heap.size ((w.alloc (.cells #[x] t)).alloc (.cells #[y] u)) w') : w'.frozen? ⟨w.heap.size, 0, none⟩ = false := by
 rw [h.frozen (by rw [two_size]; show w.heap.size < _; omega), World.frozen?, two_block0]; rfl
theorem two_frozen1 (h : Below ((w.alloc (.cells #[x] t)).alloc (.cells #[y] u)).heap.size ((w.alloc (.cells #[x] t)).alloc (.cells #[y] u)) w') : w'.frozen? ⟨w.heap.size + 1, 0, none⟩ = false := by
 rw [h.frozen (by rw [two_size]; show w.heap.size + 1 < _; omega), World.frozen?, two_block1]; rfl
theorem two_ne (n : Nat) : (⟨n, 0, none⟩ : Addr) ≠ ⟨n + 1, 0, none⟩ := by simp
theorem two_grown : Below w.heap.size w ((w.alloc (.cells #[x] t)).alloc (.cells #[y] u)) :=
 ((Below.refl _ w).alloc (Nat.le_refl _) _).alloc (by show _ ≤ (w.heap.push _).size; rw [Array.size_push]; omega) _
theorem two_below (h : Below ((w.alloc (.cells #[x] t)).alloc (.cells #[y] u)).heap.size ((w.alloc (.cells #[x] t)).alloc (.cells #[y] u)) w') : Below w.heap.size w w' :=
 two_grown.trans (h.mono (by rw [two_size]; omega))
end
theorem Binary_walk (op a b : Nat) (w : World) : Calls Tryz.prog 133 #[.int .u8 op, .int .u32 a, .int .u32 b] w fun e w' =>
  e = .returned (.tuple #[.int .u32 (binW op a b), .int .i64 (binE op b)]) ∧ Below w.heap.size w w' := by
 have hmf : ∀ (fn : Fn) (first cap : Array Value) (w : World), (Instr.makeFunc fn first cap).run Tryz.prog w = .ok (.func fn first cap) w := fun _ _ _ _ => rfl
 cases hd : divs op b
 ·have hwalk := binary_walk op a b hd
  generalize binW op a b = x at *
  generalize binE op b = y at *
  go_enter_defers Tryz.func133, Tryz.ntmps133
  go_wp2_with (refine (hwalk _).mono ?_; rintro e w' ⟨rfl, hB⟩; have c0 := two_cell0 hB; have c1 := two_cell1 hB; have z0 := two_frozen0 hB; have z1 := two_frozen1 hB; have c2 : ∀ v, (w'.setCell ⟨w.heap.size, 0, none⟩ v).cell? ⟨w.heap.size + 1, 0, none⟩ = some (.int .i64 0) := fun v => by { rw [World.cell?_setCell_other _ _ _ _ (two_ne _), c1] })
  have hB' := two_below hB
  refine leaves_cons (f := 137) (args := #[.pointer (some ⟨w.heap.size, 0, none⟩), .pointer (some ⟨w.heap.size + 1, 0, none⟩)]) (by simp) (by simp [go_sem]) ?_
  refine (catch_idle _ _ _).mono ?_
  rintro e u' w'' ⟨rfl, rfl, rfl⟩
  simp [Leaves, settle, results, Tryz.results133, go_sem, c0, c1, z0, z1, c2]
  exact (hB'.setCell (by simp) _).setCell (by simp) _
 ·have hwalk := binary_div op a b hd
  go_enter_defers Tryz.func133, Tryz.ntmps133
  go_wp2_with (refine (hwalk _).mono ?_; rintro e w' ⟨⟨u, pv, rfl⟩, rfl⟩)
  refine leaves_cons (f := 137) (args := #[.pointer (some ⟨w.heap.size, 0, none⟩), .pointer (some ⟨w.heap.size + 1, 0, none⟩)]) (by simp) (by simp [go_sem]) ?_
  refine (catch_panicking ⟨w.heap.size, 0, none⟩ ⟨w.heap.size + 1, 0, none⟩ 0 0 _ _ [] _ ?_ ?_ ?_ ?_ (two_ne _)).mono ?_
  ·simp [go_sem]
  ·simp [go_sem]
  ·simp [go_sem]
  ·simp [go_sem]
  rintro e u' w'' ⟨rfl, rfl, rfl⟩
  simp [Leaves, settle, results, Tryz.results133, go_sem]
  exact ⟨by simp [binW, binE, hd], two_grown⟩
end Go.Proofs.YtfplmcpkagpaiaaGreatDoor.A
end
section
namespace Go.Proofs.YtfplmcpkagpaiaaGreatDoor
open Go Go.Sim
theorem known_Binary {p : Array Oper → Bool} : ∀ args h r h', knOUU (fun o a b => .tuple [.int .u32 (binW o a b), .int .i64 (binE o b)]) args h = some (r, h') → CallS Tryz.prog p 133 args h r h' := known_ouu (G := fun o _ b => binE o b) A.Binary_walk
end Go.Proofs.YtfplmcpkagpaiaaGreatDoor
end
