/-
  What the machine of values takes for known of slices.Clone is so; what it asks of the program's functions. Printed by program.
-/
import Derived.Test.YtfbaaaalfolnnacNa
import Derived.WalkKit
import Derived.ProofKit
import Derived.OwnWalk
section
namespace Go.Proofs.Ytfbaaaalfolnnac
open Go Go.Sim
set_option maxRecDepth 100000
set_option linter.unusedVariables false

theorem wpList_append_any {P : Program} (w : World) {ops : Array Oper} {rest : List Oper} {o : Oper} {a : Act} {Q : Exit → Act → World → Prop} (hgd : o.guard = none) (s x : Operand) (t tn : TypeId)
    (ho : o.op = .call { callee := .builtin .append, args := #[s, x], argTypes := #[t, tn] }) (vs vx : Value) (hs : a.eval s = vs) (hx : a.eval x = vx)
    (v' : Value) (w' : World) (hr : (Builtin.append_ #[t, tn] o.type #[vs, vx]).run P w = .ok v' w') (h : wpList P ops Q rest (a.put o.dst v') w') : wpList P ops Q (o :: rest) a w := by
  refine wpList_plain hgd fun K hK' => ?_
  unfold Oper.wp
  simp [execOp, ho, resolve, invoke, builtin, hs, hx, hr, Result.andThen]
  exact hK' _ _ h
theorem clone_nil_12 (w : World) : Calls Try.prog 12 #[.slice none 0 0] w fun e w' => e = .returned (.slice none 0 0) ∧ w' = w := by
  have he := fun w => run_eql_nil2 (P := Try.prog) (t := 43) Try.underlying43 w
  go_enter Try.func12, Try.ntmps12
  go_wp2
  go_ret
  exact ⟨rfl, rfl⟩
theorem clone_some_12 (a : Addr) (n c : Nat) (w w2 : World) (x : Value) (h2 : (Builtin.append_ #[43, 43] 43 #[.slice (some ⟨w.heap.size, 0, none⟩) 0 0, .slice (some a) n c]).run Try.prog (w.alloc (.cells #[] 56 (0, 0))) = .ok x w2) :
    Calls Try.prog 12 #[.slice (some a) n c] w fun e w' => e = .returned x ∧ w' = w2 := by
  have he := fun w => run_eql_nil (P := Try.prog) (t := 43) Try.underlying43 a n c w
  go_enter Try.func12, Try.ntmps12
  go_wp2_with (at_builtin; refine wpList_append_any _ rfl _ _ 43 43 rfl _ _ rfl rfl x w2 h2 ?_)
  go_ret
  exact ⟨rfl, rfl⟩
theorem known_12 : ∀ args h r h', cloneW 3 args h = some (r, h') → CallS Try.prog (fun _ => true) 12 args h r h' := by
  intro args h r h' hc
  obtain ⟨s, rfl⟩ : ∃ s, args = [s] := by
    unfold cloneW cloneWL at hc
    split at hc
    · exact ⟨_, rfl⟩
    · exact ⟨_, rfl⟩
    · cases hc
  intro ok B w args' R hh ha hR
  simp only [VRelL] at ha
  obtain ⟨v, l', rfl, hv, rfl⟩ := ha
  refine callsIn_wide.2 ?_
  have hA := clone_after (P := Try.prog) (t := 43) (e := 56) (ty := 43) (by_ := 24) hh Try.underlying43 size_56 bytes_56 zero_56 (by omega) (by omega) (by omega) rfl hc hv
  rcases hA with ⟨rfl, hA⟩ | ⟨a, n, c, u, w1, x, w2, ok', B', rfl, h1, h2, hA⟩
  · exact (clone_nil_12 w).mono fun e w' ⟨he, hw⟩ => by subst he hw; exact hR _ _ _ _ hA
  · rw [run_build_none (P := Try.prog) Try.underlying43 size_56] at h1
    simp only [Result.ok.injEq] at h1
    obtain ⟨rfl, rfl⟩ := h1
    exact (clone_some_12 a n c w w2 x h2).mono fun e w' ⟨he, hw⟩ => by subst he hw; exact hR _ _ _ _ hA
theorem fnOk : FnOk E (fun _ => true) where
  frame := by
    intro g F hg hF
    exact absurd hg Bool.false_ne_true
  good := by
    have h : (Try.prog.funcs.toList.all fun fn => match fn.body with | none => true | some c => goodCode (fun _ => true) c && !(fn.name == "runtime.NumGoroutine")) = true := by kernel_rfl
    intro f fn c hf h1 h2
    rw [E_P] at h1
    have := List.all_eq_true.1 h fn (Array.mem_toList_iff.2 (Array.mem_of_getElem? h1))
    rw [h2] at this
    simpa using this
theorem eqOk : EqOk E := by
  have h : (E.eqTypes.all fun t => !Try.prog.stoodInHeld t && !Try.prog.eqGuardType Try.prog.depth t) = true := by kernel_rfl
  intro t ht
  have := List.all_eq_true.1 h t (by simpa using ht)
  simpa using this
theorem knownOk : KnownOk E (fun _ => true) := by
  intro f F hF
  change knownT f = some F at hF
  unfold knownT at hF
  split at hF
  · obtain rfl := (Option.some.inj hF).symm
    exact known_12
  · cases hF
theorem knownIn : KnownIn E := by
  intro f F hF
  change knownT f = some F at hF
  unfold knownT at hF
  split at hF
  · exact ⟨Try.f12, Try.f12.body.getD .skip, Try.func12, by kernel_rfl, by simp [Try.f12]⟩
  · cases hF
end Go.Proofs.Ytfbaaaalfolnnac
end
