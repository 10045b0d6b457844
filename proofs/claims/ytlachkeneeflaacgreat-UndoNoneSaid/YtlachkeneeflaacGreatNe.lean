/-
  What the machine of values takes for known of slices.Clone is so; what it asks of the program's functions. Printed by program.
-/
import Derived.Test.YtlachkeneeflaacGreatNa
import Derived.WalkKit
import Derived.ProofKit
import Derived.OwnWalk
section
namespace Go.Proofs.YtlachkeneeflaacGreat
open Go Go.Sim
set_option maxRecDepth 100000
set_option linter.unusedVariables false

theorem wpList_append_any {P : Program} (w : World) {ops : Array Oper} {rest : List Oper} {o : Oper} {a : Act} {Q : Exit → Act → World → Prop} (hgd : o.guard = none) (s x : Operand) (t tn : TypeId)
    (ho : o.op = .call { callee := .builtin .append, args := #[s, x], argTypes := #[t, tn] }) (vs vx : Value) (hs : a.eval s = vs) (hx : a.eval x = vx)
    (v' : Value) (w' : World) (hr : (Builtin.append_ #[t, tn] o.type #[vs, vx]).run P w = .ok v' w') (h : wpList P ops Q rest (a.put o.dst v') w') : wpList P ops Q (o :: rest) a w := by
  refine wpList_plain hgd fun K hK' => ?_
  unfold Oper.wp
  simp [execOp, ho, resolve, invoke, builtin, hs, hx, hr, Result.andThen]
  exact hK' _ _ h
theorem clone_nil_31 (w : World) : Calls Tryz.prog 31 #[.slice none 0 0] w fun e w' => e = .returned (.slice none 0 0) ∧ w' = w := by
  have he := fun w => run_eql_nil2 (P := Tryz.prog) (t := 23) Tryz.underlying23 w
  go_enter Tryz.func31, Tryz.ntmps31
  go_wp2
  go_ret
  exact ⟨rfl, rfl⟩
theorem clone_some_31 (a : Addr) (n c : Nat) (w w2 : World) (x : Value) (h2 : (Builtin.append_ #[23, 23] 23 #[.slice (some ⟨w.heap.size, 0, none⟩) 0 0, .slice (some a) n c]).run Tryz.prog (w.alloc (.cells #[] 22 (0, 0))) = .ok x w2) :
    Calls Tryz.prog 31 #[.slice (some a) n c] w fun e w' => e = .returned x ∧ w' = w2 := by
  have he := fun w => run_eql_nil (P := Tryz.prog) (t := 23) Tryz.underlying23 a n c w
  go_enter Tryz.func31, Tryz.ntmps31
  go_wp2_with (at_builtin; refine wpList_append_any _ rfl _ _ 23 23 rfl _ _ rfl rfl x w2 h2 ?_)
  go_ret
  exact ⟨rfl, rfl⟩
theorem known_31 : ∀ args h r h', cloneW 1 args h = some (r, h') → CallS Tryz.prog (fun _ => true) 31 args h r h' := by
  intro args h r h' hc
  obtain ⟨s, rfl⟩ : ∃ s, args = [s] := by
    unfold cloneW at hc
    split at hc
    · exact ⟨_, rfl⟩
    · exact ⟨_, rfl⟩
    · cases hc
  intro ok B w args' R hh ha hR
  simp only [VRelL] at ha
  obtain ⟨v, l', rfl, hv, rfl⟩ := ha
  refine callsIn_wide.2 ?_
  have hA := clone_after (P := Tryz.prog) (t := 23) (e := 22) (ty := 23) (by_ := 4) hh Tryz.underlying23 size_22 bytes_22 zero_22 (by omega) (by omega) (by omega) rfl hc hv
  rcases hA with ⟨rfl, hA⟩ | ⟨a, n, c, u, w1, x, w2, ok', B', rfl, h1, h2, hA⟩
  · exact (clone_nil_31 w).mono fun e w' ⟨he, hw⟩ => by subst he hw; exact hR _ _ _ _ hA
  · rw [run_build_none (P := Tryz.prog) Tryz.underlying23 size_22] at h1
    simp only [Result.ok.injEq] at h1
    obtain ⟨rfl, rfl⟩ := h1
    exact (clone_some_31 a n c w w2 x h2).mono fun e w' ⟨he, hw⟩ => by subst he hw; exact hR _ _ _ _ hA
theorem clone_nil_64 (w : World) : Calls Tryz.prog 64 #[.slice none 0 0] w fun e w' => e = .returned (.slice none 0 0) ∧ w' = w := by
  have he := fun w => run_eql_nil2 (P := Tryz.prog) (t := 88) Tryz.underlying88 w
  go_enter Tryz.func64, Tryz.ntmps64
  go_wp2
  go_ret
  exact ⟨rfl, rfl⟩
theorem clone_some_64 (a : Addr) (n c : Nat) (w w2 : World) (x : Value) (h2 : (Builtin.append_ #[88, 88] 88 #[.slice (some ⟨w.heap.size, 0, none⟩) 0 0, .slice (some a) n c]).run Tryz.prog (w.alloc (.cells #[] 137 (0, 0))) = .ok x w2) :
    Calls Tryz.prog 64 #[.slice (some a) n c] w fun e w' => e = .returned x ∧ w' = w2 := by
  have he := fun w => run_eql_nil (P := Tryz.prog) (t := 88) Tryz.underlying88 a n c w
  go_enter Tryz.func64, Tryz.ntmps64
  go_wp2_with (at_builtin; refine wpList_append_any _ rfl _ _ 88 88 rfl _ _ rfl rfl x w2 h2 ?_)
  go_ret
  exact ⟨rfl, rfl⟩
theorem known_64 : ∀ args h r h', cloneW 2 args h = some (r, h') → CallS Tryz.prog (fun _ => true) 64 args h r h' := by
  intro args h r h' hc
  obtain ⟨s, rfl⟩ : ∃ s, args = [s] := by
    unfold cloneW at hc
    split at hc
    · exact ⟨_, rfl⟩
    · exact ⟨_, rfl⟩
    · cases hc
  intro ok B w args' R hh ha hR
  simp only [VRelL] at ha
  obtain ⟨v, l', rfl, hv, rfl⟩ := ha
  refine callsIn_wide.2 ?_
  have hA := clone_after (P := Tryz.prog) (t := 88) (e := 137) (ty := 88) (by_ := 8) hh Tryz.underlying88 size_137 bytes_137 zero_137 (by omega) (by omega) (by omega) rfl hc hv
  rcases hA with ⟨rfl, hA⟩ | ⟨a, n, c, u, w1, x, w2, ok', B', rfl, h1, h2, hA⟩
  · exact (clone_nil_64 w).mono fun e w' ⟨he, hw⟩ => by subst he hw; exact hR _ _ _ _ hA
  · rw [run_build_none (P := Tryz.prog) Tryz.underlying88 size_137] at h1
    simp only [Result.ok.injEq] at h1
    obtain ⟨rfl, rfl⟩ := h1
    exact (clone_some_64 a n c w w2 x h2).mono fun e w' ⟨he, hw⟩ => by subst he hw; exact hR _ _ _ _ hA
theorem clone_nil_65 (w : World) : Calls Tryz.prog 65 #[.slice none 0 0] w fun e w' => e = .returned (.slice none 0 0) ∧ w' = w := by
  have he := fun w => run_eql_nil2 (P := Tryz.prog) (t := 62) Tryz.underlying62 w
  go_enter Tryz.func65, Tryz.ntmps65
  go_wp2
  go_ret
  exact ⟨rfl, rfl⟩
theorem clone_some_65 (a : Addr) (n c : Nat) (w w2 : World) (x : Value) (h2 : (Builtin.append_ #[62, 62] 62 #[.slice (some ⟨w.heap.size, 0, none⟩) 0 0, .slice (some a) n c]).run Tryz.prog (w.alloc (.cells #[] 5 (0, 0))) = .ok x w2) :
    Calls Tryz.prog 65 #[.slice (some a) n c] w fun e w' => e = .returned x ∧ w' = w2 := by
  have he := fun w => run_eql_nil (P := Tryz.prog) (t := 62) Tryz.underlying62 a n c w
  go_enter Tryz.func65, Tryz.ntmps65
  go_wp2_with (at_builtin; refine wpList_append_any _ rfl _ _ 62 62 rfl _ _ rfl rfl x w2 h2 ?_)
  go_ret
  exact ⟨rfl, rfl⟩
theorem known_65 : ∀ args h r h', cloneW 1 args h = some (r, h') → CallS Tryz.prog (fun _ => true) 65 args h r h' := by
  intro args h r h' hc
  obtain ⟨s, rfl⟩ : ∃ s, args = [s] := by
    unfold cloneW at hc
    split at hc
    · exact ⟨_, rfl⟩
    · exact ⟨_, rfl⟩
    · cases hc
  intro ok B w args' R hh ha hR
  simp only [VRelL] at ha
  obtain ⟨v, l', rfl, hv, rfl⟩ := ha
  refine callsIn_wide.2 ?_
  have hA := clone_after (P := Tryz.prog) (t := 62) (e := 5) (ty := 62) (by_ := 1) hh Tryz.underlying62 size_5 bytes_5 zero_5 (by omega) (by omega) (by omega) rfl hc hv
  rcases hA with ⟨rfl, hA⟩ | ⟨a, n, c, u, w1, x, w2, ok', B', rfl, h1, h2, hA⟩
  · exact (clone_nil_65 w).mono fun e w' ⟨he, hw⟩ => by subst he hw; exact hR _ _ _ _ hA
  · rw [run_build_none (P := Tryz.prog) Tryz.underlying62 size_5] at h1
    simp only [Result.ok.injEq] at h1
    obtain ⟨rfl, rfl⟩ := h1
    exact (clone_some_65 a n c w w2 x h2).mono fun e w' ⟨he, hw⟩ => by subst he hw; exact hR _ _ _ _ hA
theorem clone_nil_66 (w : World) : Calls Tryz.prog 66 #[.slice none 0 0] w fun e w' => e = .returned (.slice none 0 0) ∧ w' = w := by
  have he := fun w => run_eql_nil2 (P := Tryz.prog) (t := 89) Tryz.underlying89 w
  go_enter Tryz.func66, Tryz.ntmps66
  go_wp2
  go_ret
  exact ⟨rfl, rfl⟩
theorem clone_some_66 (a : Addr) (n c : Nat) (w w2 : World) (x : Value) (h2 : (Builtin.append_ #[89, 89] 89 #[.slice (some ⟨w.heap.size, 0, none⟩) 0 0, .slice (some a) n c]).run Tryz.prog (w.alloc (.cells #[] 141 (0, 0))) = .ok x w2) :
    Calls Tryz.prog 66 #[.slice (some a) n c] w fun e w' => e = .returned x ∧ w' = w2 := by
  have he := fun w => run_eql_nil (P := Tryz.prog) (t := 89) Tryz.underlying89 a n c w
  go_enter Tryz.func66, Tryz.ntmps66
  go_wp2_with (at_builtin; refine wpList_append_any _ rfl _ _ 89 89 rfl _ _ rfl rfl x w2 h2 ?_)
  go_ret
  exact ⟨rfl, rfl⟩
theorem known_66 : ∀ args h r h', cloneW 2 args h = some (r, h') → CallS Tryz.prog (fun _ => true) 66 args h r h' := by
  intro args h r h' hc
  obtain ⟨s, rfl⟩ : ∃ s, args = [s] := by
    unfold cloneW at hc
    split at hc
    · exact ⟨_, rfl⟩
    · exact ⟨_, rfl⟩
    · cases hc
  intro ok B w args' R hh ha hR
  simp only [VRelL] at ha
  obtain ⟨v, l', rfl, hv, rfl⟩ := ha
  refine callsIn_wide.2 ?_
  have hA := clone_after (P := Tryz.prog) (t := 89) (e := 141) (ty := 89) (by_ := 24) hh Tryz.underlying89 size_141 bytes_141 zero_141 (by omega) (by omega) (by omega) rfl hc hv
  rcases hA with ⟨rfl, hA⟩ | ⟨a, n, c, u, w1, x, w2, ok', B', rfl, h1, h2, hA⟩
  · exact (clone_nil_66 w).mono fun e w' ⟨he, hw⟩ => by subst he hw; exact hR _ _ _ _ hA
  · rw [run_build_none (P := Tryz.prog) Tryz.underlying89 size_141] at h1
    simp only [Result.ok.injEq] at h1
    obtain ⟨rfl, rfl⟩ := h1
    exact (clone_some_66 a n c w w2 x h2).mono fun e w' ⟨he, hw⟩ => by subst he hw; exact hR _ _ _ _ hA
theorem clone_nil_89 (w : World) : Calls Tryz.prog 89 #[.slice none 0 0] w fun e w' => e = .returned (.slice none 0 0) ∧ w' = w := by
  have he := fun w => run_eql_nil2 (P := Tryz.prog) (t := 62) Tryz.underlying62 w
  go_enter Tryz.func89, Tryz.ntmps89
  go_wp2
  go_ret
  exact ⟨rfl, rfl⟩
theorem clone_some_89 (a : Addr) (n c : Nat) (w w2 : World) (x : Value) (h2 : (Builtin.append_ #[62, 62] 62 #[.slice (some ⟨w.heap.size, 0, none⟩) 0 0, .slice (some a) n c]).run Tryz.prog (w.alloc (.cells #[] 5 (0, 0))) = .ok x w2) :
    Calls Tryz.prog 89 #[.slice (some a) n c] w fun e w' => e = .returned x ∧ w' = w2 := by
  have he := fun w => run_eql_nil (P := Tryz.prog) (t := 62) Tryz.underlying62 a n c w
  go_enter Tryz.func89, Tryz.ntmps89
  go_wp2_with (at_builtin; refine wpList_append_any _ rfl _ _ 62 62 rfl _ _ rfl rfl x w2 h2 ?_)
  go_ret
  exact ⟨rfl, rfl⟩
theorem known_89 : ∀ args h r h', cloneW 1 args h = some (r, h') → CallS Tryz.prog (fun _ => true) 89 args h r h' := by
  intro args h r h' hc
  obtain ⟨s, rfl⟩ : ∃ s, args = [s] := by
    unfold cloneW at hc
    split at hc
    · exact ⟨_, rfl⟩
    · exact ⟨_, rfl⟩
    · cases hc
  intro ok B w args' R hh ha hR
  simp only [VRelL] at ha
  obtain ⟨v, l', rfl, hv, rfl⟩ := ha
  refine callsIn_wide.2 ?_
  have hA := clone_after (P := Tryz.prog) (t := 62) (e := 5) (ty := 62) (by_ := 1) hh Tryz.underlying62 size_5 bytes_5 zero_5 (by omega) (by omega) (by omega) rfl hc hv
  rcases hA with ⟨rfl, hA⟩ | ⟨a, n, c, u, w1, x, w2, ok', B', rfl, h1, h2, hA⟩
  · exact (clone_nil_89 w).mono fun e w' ⟨he, hw⟩ => by subst he hw; exact hR _ _ _ _ hA
  · rw [run_build_none (P := Tryz.prog) Tryz.underlying62 size_5] at h1
    simp only [Result.ok.injEq] at h1
    obtain ⟨rfl, rfl⟩ := h1
    exact (clone_some_89 a n c w w2 x h2).mono fun e w' ⟨he, hw⟩ => by subst he hw; exact hR _ _ _ _ hA
theorem fnOk : FnOk E (fun _ => true) where
  good := by
    have h : (Tryz.prog.funcs.toList.all fun fn => match fn.body with | none => true | some c => goodCode (fun _ => true) c && !(fn.name == "runtime.NumGoroutine")) = true := by kernel_rfl
    intro f fn c hf h1 h2
    rw [E_P] at h1
    have := List.all_eq_true.1 h fn (Array.mem_toList_iff.2 (Array.mem_of_getElem? h1))
    rw [h2] at this
    simpa using this
theorem eqOk : EqOk E := by
  have h : (E.eqTypes.all fun t => !Tryz.prog.stoodInHeld t && !Tryz.prog.eqGuardType Tryz.prog.depth t) = true := by kernel_rfl
  intro t ht
  have := List.all_eq_true.1 h t (by simpa using ht)
  simpa using this
theorem knownOk : KnownOk E (fun _ => true) := by
  intro f F hF
  change knownT f = some F at hF
  unfold knownT at hF
  split at hF
  · obtain rfl := (Option.some.inj hF).symm
    exact known_31
  · obtain rfl := (Option.some.inj hF).symm
    exact known_64
  · obtain rfl := (Option.some.inj hF).symm
    exact known_65
  · obtain rfl := (Option.some.inj hF).symm
    exact known_66
  · obtain rfl := (Option.some.inj hF).symm
    exact known_89
  · cases hF
theorem knownIn : KnownIn E := by
  intro f F hF
  change knownT f = some F at hF
  unfold knownT at hF
  split at hF
  · exact ⟨Tryz.f31, Tryz.f31.body.getD .skip, Tryz.func31, by kernel_rfl, by simp [Tryz.f31]⟩
  · exact ⟨Tryz.f64, Tryz.f64.body.getD .skip, Tryz.func64, by kernel_rfl, by simp [Tryz.f64]⟩
  · exact ⟨Tryz.f65, Tryz.f65.body.getD .skip, Tryz.func65, by kernel_rfl, by simp [Tryz.f65]⟩
  · exact ⟨Tryz.f66, Tryz.f66.body.getD .skip, Tryz.func66, by kernel_rfl, by simp [Tryz.f66]⟩
  · exact ⟨Tryz.f89, Tryz.f89.body.getD .skip, Tryz.func89, by kernel_rfl, by simp [Tryz.f89]⟩
  · cases hF
end Go.Proofs.YtlachkeneeflaacGreat
end
