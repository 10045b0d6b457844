/-
  What the machine of values takes for known of slices.Clone is so; what it asks of the program's functions. Printed by program.
-/
import Derived.Test.YtlachkeneeflaabGreatNa
import Derived.WalkKit
import Derived.ProofKit
import Derived.OwnWalk
section
namespace Go.Proofs.YtlachkeneeflaabGreat
open Go Go.Sim
set_option maxRecDepth 100000
set_option linter.unusedVariables false

theorem wpList_append_any {P : Program} (w : World) {ops : Array Oper} {rest : List Oper} {o : Oper} {a : Act} {Q : Exit → Act → World → Prop} (hgd : o.guard = none) (s x : Operand) (t tn : TypeId)
    (ho : o.op = .call { callee := .builtin .append, args := #[s, x], argTypes := #[t, tn] }) (vs vx : Value) (hs : a.eval s = vs) (hx : a.eval x = vx)
    (v' : Value) (w' : World) (hr : (Builtin.append_ #[t, tn] o.type #[vs, vx]).run P w = .ok v' w') (h : wpList P ops Q rest (a.put o.dst v') w') : wpList P ops Q (o :: rest) a w := by
  refine wpList_plain hgd fun K hK' => ?_
  unfold Oper.wp
  simp [execOp, ho, resolve, invoke, builtin, hs, hx, hr, Result.andThen]
  exact hK' _ _ h
theorem clone_nil_38 (w : World) : Calls Tryz.prog 38 #[.slice none 0 0] w fun e w' => e = .returned (.slice none 0 0) ∧ w' = w := by
  have he := fun w => run_eql_nil2 (P := Tryz.prog) (t := 26) Tryz.underlying26 w
  go_enter Tryz.func38, Tryz.ntmps38
  go_wp2
  go_ret
  exact ⟨rfl, rfl⟩
theorem clone_some_38 (a : Addr) (n c : Nat) (w w2 : World) (x : Value) (h2 : (Builtin.append_ #[26, 26] 26 #[.slice (some ⟨w.heap.size, 0, none⟩) 0 0, .slice (some a) n c]).run Tryz.prog (w.alloc (.cells #[] 46 (0, 0))) = .ok x w2) :
    Calls Tryz.prog 38 #[.slice (some a) n c] w fun e w' => e = .returned x ∧ w' = w2 := by
  have he := fun w => run_eql_nil (P := Tryz.prog) (t := 26) Tryz.underlying26 a n c w
  go_enter Tryz.func38, Tryz.ntmps38
  go_wp2_with (at_builtin; refine wpList_append_any _ rfl _ _ 26 26 rfl _ _ rfl rfl x w2 h2 ?_)
  go_ret
  exact ⟨rfl, rfl⟩
theorem known_38 : ∀ args h r h', cloneW 2 args h = some (r, h') → CallS Tryz.prog (fun _ => true) 38 args h r h' := by
  intro args h r h' hc
  obtain ⟨s, rfl⟩ : ∃ s, args = [s] := by
    unfold cloneW at hc
    split at hc
    · exact ⟨_, rfl⟩
    · exact ⟨_, rfl⟩
    · cases hc
  intro ok B w args' R hh ha hR
  simp only [VRelL] at ha
  obtain ⟨v, l', rfl, hv, rfl⟩ := ha
  refine callsIn_wide.2 ?_
  have hA := clone_after (P := Tryz.prog) (t := 26) (e := 46) (ty := 26) (by_ := 8) hh Tryz.underlying26 size_46 bytes_46 zero_46 (by omega) (by omega) (by omega) rfl hc hv
  rcases hA with ⟨rfl, hA⟩ | ⟨a, n, c, u, w1, x, w2, ok', B', rfl, h1, h2, hA⟩
  · exact (clone_nil_38 w).mono fun e w' ⟨he, hw⟩ => by subst he hw; exact hR _ _ _ _ hA
  · rw [run_build_none (P := Tryz.prog) Tryz.underlying26 size_46] at h1
    simp only [Result.ok.injEq] at h1
    obtain ⟨rfl, rfl⟩ := h1
    exact (clone_some_38 a n c w w2 x h2).mono fun e w' ⟨he, hw⟩ => by subst he hw; exact hR _ _ _ _ hA
theorem clone_nil_39 (w : World) : Calls Tryz.prog 39 #[.slice none 0 0] w fun e w' => e = .returned (.slice none 0 0) ∧ w' = w := by
  have he := fun w => run_eql_nil2 (P := Tryz.prog) (t := 27) Tryz.underlying27 w
  go_enter Tryz.func39, Tryz.ntmps39
  go_wp2
  go_ret
  exact ⟨rfl, rfl⟩
theorem clone_some_39 (a : Addr) (n c : Nat) (w w2 : World) (x : Value) (h2 : (Builtin.append_ #[27, 27] 27 #[.slice (some ⟨w.heap.size, 0, none⟩) 0 0, .slice (some a) n c]).run Tryz.prog (w.alloc (.cells #[] 29 (0, 0))) = .ok x w2) :
    Calls Tryz.prog 39 #[.slice (some a) n c] w fun e w' => e = .returned x ∧ w' = w2 := by
  have he := fun w => run_eql_nil (P := Tryz.prog) (t := 27) Tryz.underlying27 a n c w
  go_enter Tryz.func39, Tryz.ntmps39
  go_wp2_with (at_builtin; refine wpList_append_any _ rfl _ _ 27 27 rfl _ _ rfl rfl x w2 h2 ?_)
  go_ret
  exact ⟨rfl, rfl⟩
theorem known_39 : ∀ args h r h', cloneW 1 args h = some (r, h') → CallS Tryz.prog (fun _ => true) 39 args h r h' := by
  intro args h r h' hc
  obtain ⟨s, rfl⟩ : ∃ s, args = [s] := by
    unfold cloneW at hc
    split at hc
    · exact ⟨_, rfl⟩
    · exact ⟨_, rfl⟩
    · cases hc
  intro ok B w args' R hh ha hR
  simp only [VRelL] at ha
  obtain ⟨v, l', rfl, hv, rfl⟩ := ha
  refine callsIn_wide.2 ?_
  have hA := clone_after (P := Tryz.prog) (t := 27) (e := 29) (ty := 27) (by_ := 4) hh Tryz.underlying27 size_29 bytes_29 zero_29 (by omega) (by omega) (by omega) rfl hc hv
  rcases hA with ⟨rfl, hA⟩ | ⟨a, n, c, u, w1, x, w2, ok', B', rfl, h1, h2, hA⟩
  · exact (clone_nil_39 w).mono fun e w' ⟨he, hw⟩ => by subst he hw; exact hR _ _ _ _ hA
  · rw [run_build_none (P := Tryz.prog) Tryz.underlying27 size_29] at h1
    simp only [Result.ok.injEq] at h1
    obtain ⟨rfl, rfl⟩ := h1
    exact (clone_some_39 a n c w w2 x h2).mono fun e w' ⟨he, hw⟩ => by subst he hw; exact hR _ _ _ _ hA
theorem clone_nil_40 (w : World) : Calls Tryz.prog 40 #[.slice none 0 0] w fun e w' => e = .returned (.slice none 0 0) ∧ w' = w := by
  have he := fun w => run_eql_nil2 (P := Tryz.prog) (t := 28) Tryz.underlying28 w
  go_enter Tryz.func40, Tryz.ntmps40
  go_wp2
  go_ret
  exact ⟨rfl, rfl⟩
theorem clone_some_40 (a : Addr) (n c : Nat) (w w2 : World) (x : Value) (h2 : (Builtin.append_ #[28, 28] 28 #[.slice (some ⟨w.heap.size, 0, none⟩) 0 0, .slice (some a) n c]).run Tryz.prog (w.alloc (.cells #[] 5 (0, 0))) = .ok x w2) :
    Calls Tryz.prog 40 #[.slice (some a) n c] w fun e w' => e = .returned x ∧ w' = w2 := by
  have he := fun w => run_eql_nil (P := Tryz.prog) (t := 28) Tryz.underlying28 a n c w
  go_enter Tryz.func40, Tryz.ntmps40
  go_wp2_with (at_builtin; refine wpList_append_any _ rfl _ _ 28 28 rfl _ _ rfl rfl x w2 h2 ?_)
  go_ret
  exact ⟨rfl, rfl⟩
theorem known_40 : ∀ args h r h', cloneW 1 args h = some (r, h') → CallS Tryz.prog (fun _ => true) 40 args h r h' := by
  intro args h r h' hc
  obtain ⟨s, rfl⟩ : ∃ s, args = [s] := by
    unfold cloneW at hc
    split at hc
    · exact ⟨_, rfl⟩
    · exact ⟨_, rfl⟩
    · cases hc
  intro ok B w args' R hh ha hR
  simp only [VRelL] at ha
  obtain ⟨v, l', rfl, hv, rfl⟩ := ha
  refine callsIn_wide.2 ?_
  have hA := clone_after (P := Tryz.prog) (t := 28) (e := 5) (ty := 28) (by_ := 1) hh Tryz.underlying28 size_5 bytes_5 zero_5 (by omega) (by omega) (by omega) rfl hc hv
  rcases hA with ⟨rfl, hA⟩ | ⟨a, n, c, u, w1, x, w2, ok', B', rfl, h1, h2, hA⟩
  · exact (clone_nil_40 w).mono fun e w' ⟨he, hw⟩ => by subst he hw; exact hR _ _ _ _ hA
  · rw [run_build_none (P := Tryz.prog) Tryz.underlying28 size_5] at h1
    simp only [Result.ok.injEq] at h1
    obtain ⟨rfl, rfl⟩ := h1
    exact (clone_some_40 a n c w w2 x h2).mono fun e w' ⟨he, hw⟩ => by subst he hw; exact hR _ _ _ _ hA
theorem clone_nil_41 (w : World) : Calls Tryz.prog 41 #[.slice none 0 0] w fun e w' => e = .returned (.slice none 0 0) ∧ w' = w := by
  have he := fun w => run_eql_nil2 (P := Tryz.prog) (t := 30) Tryz.underlying30 w
  go_enter Tryz.func41, Tryz.ntmps41
  go_wp2
  go_ret
  exact ⟨rfl, rfl⟩
theorem clone_some_41 (a : Addr) (n c : Nat) (w w2 : World) (x : Value) (h2 : (Builtin.append_ #[30, 30] 30 #[.slice (some ⟨w.heap.size, 0, none⟩) 0 0, .slice (some a) n c]).run Tryz.prog (w.alloc (.cells #[] 48 (0, 0))) = .ok x w2) :
    Calls Tryz.prog 41 #[.slice (some a) n c] w fun e w' => e = .returned x ∧ w' = w2 := by
  have he := fun w => run_eql_nil (P := Tryz.prog) (t := 30) Tryz.underlying30 a n c w
  go_enter Tryz.func41, Tryz.ntmps41
  go_wp2_with (at_builtin; refine wpList_append_any _ rfl _ _ 30 30 rfl _ _ rfl rfl x w2 h2 ?_)
  go_ret
  exact ⟨rfl, rfl⟩
theorem known_41 : ∀ args h r h', cloneW 2 args h = some (r, h') → CallS Tryz.prog (fun _ => true) 41 args h r h' := by
  intro args h r h' hc
  obtain ⟨s, rfl⟩ : ∃ s, args = [s] := by
    unfold cloneW at hc
    split at hc
    · exact ⟨_, rfl⟩
    · exact ⟨_, rfl⟩
    · cases hc
  intro ok B w args' R hh ha hR
  simp only [VRelL] at ha
  obtain ⟨v, l', rfl, hv, rfl⟩ := ha
  refine callsIn_wide.2 ?_
  have hA := clone_after (P := Tryz.prog) (t := 30) (e := 48) (ty := 30) (by_ := 24) hh Tryz.underlying30 size_48 bytes_48 zero_48 (by omega) (by omega) (by omega) rfl hc hv
  rcases hA with ⟨rfl, hA⟩ | ⟨a, n, c, u, w1, x, w2, ok', B', rfl, h1, h2, hA⟩
  · exact (clone_nil_41 w).mono fun e w' ⟨he, hw⟩ => by subst he hw; exact hR _ _ _ _ hA
  · rw [run_build_none (P := Tryz.prog) Tryz.underlying30 size_48] at h1
    simp only [Result.ok.injEq] at h1
    obtain ⟨rfl, rfl⟩ := h1
    exact (clone_some_41 a n c w w2 x h2).mono fun e w' ⟨he, hw⟩ => by subst he hw; exact hR _ _ _ _ hA
theorem clone_nil_84 (w : World) : Calls Tryz.prog 84 #[.slice none 0 0] w fun e w' => e = .returned (.slice none 0 0) ∧ w' = w := by
  have he := fun w => run_eql_nil2 (P := Tryz.prog) (t := 28) Tryz.underlying28 w
  go_enter Tryz.func84, Tryz.ntmps84
  go_wp2
  go_ret
  exact ⟨rfl, rfl⟩
theorem clone_some_84 (a : Addr) (n c : Nat) (w w2 : World) (x : Value) (h2 : (Builtin.append_ #[28, 28] 28 #[.slice (some ⟨w.heap.size, 0, none⟩) 0 0, .slice (some a) n c]).run Tryz.prog (w.alloc (.cells #[] 5 (0, 0))) = .ok x w2) :
    Calls Tryz.prog 84 #[.slice (some a) n c] w fun e w' => e = .returned x ∧ w' = w2 := by
  have he := fun w => run_eql_nil (P := Tryz.prog) (t := 28) Tryz.underlying28 a n c w
  go_enter Tryz.func84, Tryz.ntmps84
  go_wp2_with (at_builtin; refine wpList_append_any _ rfl _ _ 28 28 rfl _ _ rfl rfl x w2 h2 ?_)
  go_ret
  exact ⟨rfl, rfl⟩
theorem known_84 : ∀ args h r h', cloneW 1 args h = some (r, h') → CallS Tryz.prog (fun _ => true) 84 args h r h' := by
  intro args h r h' hc
  obtain ⟨s, rfl⟩ : ∃ s, args = [s] := by
    unfold cloneW at hc
    split at hc
    · exact ⟨_, rfl⟩
    · exact ⟨_, rfl⟩
    · cases hc
  intro ok B w args' R hh ha hR
  simp only [VRelL] at ha
  obtain ⟨v, l', rfl, hv, rfl⟩ := ha
  refine callsIn_wide.2 ?_
  have hA := clone_after (P := Tryz.prog) (t := 28) (e := 5) (ty := 28) (by_ := 1) hh Tryz.underlying28 size_5 bytes_5 zero_5 (by omega) (by omega) (by omega) rfl hc hv
  rcases hA with ⟨rfl, hA⟩ | ⟨a, n, c, u, w1, x, w2, ok', B', rfl, h1, h2, hA⟩
  · exact (clone_nil_84 w).mono fun e w' ⟨he, hw⟩ => by subst he hw; exact hR _ _ _ _ hA
  · rw [run_build_none (P := Tryz.prog) Tryz.underlying28 size_5] at h1
    simp only [Result.ok.injEq] at h1
    obtain ⟨rfl, rfl⟩ := h1
    exact (clone_some_84 a n c w w2 x h2).mono fun e w' ⟨he, hw⟩ => by subst he hw; exact hR _ _ _ _ hA
theorem fnOk : FnOk E (fun _ => true) where
  good := by
    have h : (Tryz.prog.funcs.toList.all fun fn => match fn.body with | none => true | some c => goodCode (fun _ => true) c && !(fn.name == "runtime.NumGoroutine")) = true := by kernel_rfl
    intro f fn c hf h1 h2
    rw [E_P] at h1
    have := List.all_eq_true.1 h fn (Array.mem_toList_iff.2 (Array.mem_of_getElem? h1))
    rw [h2] at this
    simpa using this
theorem eqOk : EqOk E := by
  have h : (E.eqTypes.all fun t => !Tryz.prog.stoodInHeld t && !Tryz.prog.eqGuardType Tryz.prog.depth t) = true := by kernel_rfl
  intro t ht
  have := List.all_eq_true.1 h t (by simpa using ht)
  simpa using this
theorem knownOk : KnownOk E (fun _ => true) := by
  intro f F hF
  change knownT f = some F at hF
  unfold knownT at hF
  split at hF
  · obtain rfl := (Option.some.inj hF).symm
    exact known_38
  · obtain rfl := (Option.some.inj hF).symm
    exact known_39
  · obtain rfl := (Option.some.inj hF).symm
    exact known_40
  · obtain rfl := (Option.some.inj hF).symm
    exact known_41
  · obtain rfl := (Option.some.inj hF).symm
    exact known_84
  · cases hF
theorem knownIn : KnownIn E := by
  intro f F hF
  change knownT f = some F at hF
  unfold knownT at hF
  split at hF
  · exact ⟨Tryz.f38, Tryz.f38.body.getD .skip, Tryz.func38, by kernel_rfl, by simp [Tryz.f38]⟩
  · exact ⟨Tryz.f39, Tryz.f39.body.getD .skip, Tryz.func39, by kernel_rfl, by simp [Tryz.f39]⟩
  · exact ⟨Tryz.f40, Tryz.f40.body.getD .skip, Tryz.func40, by kernel_rfl, by simp [Tryz.f40]⟩
  · exact ⟨Tryz.f41, Tryz.f41.body.getD .skip, Tryz.func41, by kernel_rfl, by simp [Tryz.f41]⟩
  · exact ⟨Tryz.f84, Tryz.f84.body.getD .skip, Tryz.func84, by kernel_rfl, by simp [Tryz.f84]⟩
  · cases hF
end Go.Proofs.YtlachkeneeflaabGreat
end
