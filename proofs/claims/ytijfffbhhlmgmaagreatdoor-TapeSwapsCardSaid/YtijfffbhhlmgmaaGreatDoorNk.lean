/-
  What the machine of values takes for known of slices.Clone is so. Printed by program.
  What the machine of values takes for known is so; what it asks of the program's functions. Printed by program.
-/
import Derived.Test.YtijfffbhhlmgmaaGreatDoorNe
import Derived.WalkKit
import Derived.ProofKit
import Derived.OwnWalk
import Derived.Test.YtijfffbhhlmgmaaGreatDoorMe
import Derived.Test.YtijfffbhhlmgmaaGreatDoorQd
import Derived.Test.YtijfffbhhlmgmaaGreatDoorMh
section
namespace Go.Proofs.YtijfffbhhlmgmaaGreatDoor
open Go Go.Sim
set_option maxRecDepth 100000
set_option linter.unusedVariables false
set_option linter.unusedSimpArgs false

theorem wpList_append_any {P : Program} (w : World) {ops : Array Oper} {rest : List Oper} {o : Oper} {a : Act} {Q : Exit → Act → World → Prop} (hgd : o.guard = none) (s x : Operand) (t tn : TypeId)
    (ho : o.op = .call { callee := .builtin .append, args := #[s, x], argTypes := #[t, tn] }) (vs vx : Value) (hs : a.eval s = vs) (hx : a.eval x = vx)
    (v' : Value) (w' : World) (hr : (Builtin.append_ #[t, tn] o.type #[vs, vx]).run P w = .ok v' w') (h : wpList P ops Q rest (a.put o.dst v') w') : wpList P ops Q (o :: rest) a w := by
  refine wpList_plain hgd fun K hK' => ?_
  unfold Oper.wp
  simp [execOp, ho, resolve, invoke, builtin, hs, hx, hr, Result.andThen]
  exact hK' _ _ h
theorem clone_nil_45 (w : World) : Calls Tryz.prog 45 #[.slice none 0 0] w fun e w' => e = .returned (.slice none 0 0) ∧ w' = w := by
  have he := fun w => run_eql_nil2 (P := Tryz.prog) (t := 23) Tryz.underlying23 w
  go_enter Tryz.func45, Tryz.ntmps45
  go_wp2
  go_ret
  exact ⟨rfl, rfl⟩
theorem clone_some_45 (a : Addr) (n c : Nat) (w w2 : World) (x : Value) (h2 : (Builtin.append_ #[23, 23] 23 #[.slice (some ⟨w.heap.size, 0, none⟩) 0 0, .slice (some a) n c]).run Tryz.prog (w.alloc (.cells #[] 67 (0, 0))) = .ok x w2) :
    Calls Tryz.prog 45 #[.slice (some a) n c] w fun e w' => e = .returned x ∧ w' = w2 := by
  have he := fun w => run_eql_nil (P := Tryz.prog) (t := 23) Tryz.underlying23 a n c w
  go_enter Tryz.func45, Tryz.ntmps45
  go_wp2_with (at_builtin; refine wpList_append_any _ rfl _ _ 23 23 rfl _ _ rfl rfl x w2 h2 ?_)
  go_ret
  exact ⟨rfl, rfl⟩
theorem known_45 {p : Array Oper → Bool} : ∀ args h r h', cloneCL 8796093022208 2 args h = some (r, h') → CallS Tryz.prog p 45 args h r h' := by
  intro args h r h' hc
  obtain ⟨s, rfl⟩ : ∃ s, args = [s] := by
    unfold cloneCL at hc
    split at hc
    · exact ⟨_, rfl⟩
    · exact ⟨_, rfl⟩
    · cases hc
  intro ok B w args' R hh ha hR
  simp only [VRelL] at ha
  obtain ⟨v, l', rfl, hv, rfl⟩ := ha
  refine callsIn_wide.2 ?_
  have hA := cloneC_after (P := Tryz.prog) (t := 23) (e := 67) (ty := 23) (by_ := 16) hh Tryz.underlying23 size_67 bytes_67 zero_67 (by omega) (by omega) (by omega) rfl hc hv
  rcases hA with ⟨rfl, hA⟩ | ⟨a, n, c, u, w1, x, w2, ok', B', rfl, h1, h2, hA⟩
  · exact (clone_nil_45 w).mono fun e w' ⟨he, hw⟩ => by subst he hw; exact hR _ _ _ _ hA
  · rw [run_build_none (P := Tryz.prog) Tryz.underlying23 size_67] at h1
    simp only [Result.ok.injEq] at h1
    obtain ⟨rfl, rfl⟩ := h1
    exact (clone_some_45 a n c w w2 x h2).mono fun e w' ⟨he, hw⟩ => by subst he hw; exact hR _ _ _ _ hA
theorem clone_nil_58 (w : World) : Calls Tryz.prog 58 #[.slice none 0 0] w fun e w' => e = .returned (.slice none 0 0) ∧ w' = w := by
  have he := fun w => run_eql_nil2 (P := Tryz.prog) (t := 41) Tryz.underlying41 w
  go_enter Tryz.func58, Tryz.ntmps58
  go_wp2
  go_ret
  exact ⟨rfl, rfl⟩
theorem clone_some_58 (a : Addr) (n c : Nat) (w w2 : World) (x : Value) (h2 : (Builtin.append_ #[41, 41] 41 #[.slice (some ⟨w.heap.size, 0, none⟩) 0 0, .slice (some a) n c]).run Tryz.prog (w.alloc (.cells #[] 40 (0, 0))) = .ok x w2) :
    Calls Tryz.prog 58 #[.slice (some a) n c] w fun e w' => e = .returned x ∧ w' = w2 := by
  have he := fun w => run_eql_nil (P := Tryz.prog) (t := 41) Tryz.underlying41 a n c w
  go_enter Tryz.func58, Tryz.ntmps58
  go_wp2_with (at_builtin; refine wpList_append_any _ rfl _ _ 41 41 rfl _ _ rfl rfl x w2 h2 ?_)
  go_ret
  exact ⟨rfl, rfl⟩
theorem known_58 {p : Array Oper → Bool} : ∀ args h r h', cloneCL 35184372088832 1 args h = some (r, h') → CallS Tryz.prog p 58 args h r h' := by
  intro args h r h' hc
  obtain ⟨s, rfl⟩ : ∃ s, args = [s] := by
    unfold cloneCL at hc
    split at hc
    · exact ⟨_, rfl⟩
    · exact ⟨_, rfl⟩
    · cases hc
  intro ok B w args' R hh ha hR
  simp only [VRelL] at ha
  obtain ⟨v, l', rfl, hv, rfl⟩ := ha
  refine callsIn_wide.2 ?_
  have hA := cloneC_after (P := Tryz.prog) (t := 41) (e := 40) (ty := 41) (by_ := 4) hh Tryz.underlying41 size_40 bytes_40 zero_40 (by omega) (by omega) (by omega) rfl hc hv
  rcases hA with ⟨rfl, hA⟩ | ⟨a, n, c, u, w1, x, w2, ok', B', rfl, h1, h2, hA⟩
  · exact (clone_nil_58 w).mono fun e w' ⟨he, hw⟩ => by subst he hw; exact hR _ _ _ _ hA
  · rw [run_build_none (P := Tryz.prog) Tryz.underlying41 size_40] at h1
    simp only [Result.ok.injEq] at h1
    obtain ⟨rfl, rfl⟩ := h1
    exact (clone_some_58 a n c w w2 x h2).mono fun e w' ⟨he, hw⟩ => by subst he hw; exact hR _ _ _ _ hA
theorem clone_nil_70 (w : World) : Calls Tryz.prog 70 #[.slice none 0 0] w fun e w' => e = .returned (.slice none 0 0) ∧ w' = w := by
  have he := fun w => run_eql_nil2 (P := Tryz.prog) (t := 55) Tryz.underlying55 w
  go_enter Tryz.func70, Tryz.ntmps70
  go_wp2
  go_ret
  exact ⟨rfl, rfl⟩
theorem clone_some_70 (a : Addr) (n c : Nat) (w w2 : World) (x : Value) (h2 : (Builtin.append_ #[55, 55] 55 #[.slice (some ⟨w.heap.size, 0, none⟩) 0 0, .slice (some a) n c]).run Tryz.prog (w.alloc (.cells #[] 5 (0, 0))) = .ok x w2) :
    Calls Tryz.prog 70 #[.slice (some a) n c] w fun e w' => e = .returned x ∧ w' = w2 := by
  have he := fun w => run_eql_nil (P := Tryz.prog) (t := 55) Tryz.underlying55 a n c w
  go_enter Tryz.func70, Tryz.ntmps70
  go_wp2_with (at_builtin; refine wpList_append_any _ rfl _ _ 55 55 rfl _ _ rfl rfl x w2 h2 ?_)
  go_ret
  exact ⟨rfl, rfl⟩
theorem known_70 {p : Array Oper → Bool} : ∀ args h r h', cloneCL 140737488355328 1 args h = some (r, h') → CallS Tryz.prog p 70 args h r h' := by
  intro args h r h' hc
  obtain ⟨s, rfl⟩ : ∃ s, args = [s] := by
    unfold cloneCL at hc
    split at hc
    · exact ⟨_, rfl⟩
    · exact ⟨_, rfl⟩
    · cases hc
  intro ok B w args' R hh ha hR
  simp only [VRelL] at ha
  obtain ⟨v, l', rfl, hv, rfl⟩ := ha
  refine callsIn_wide.2 ?_
  have hA := cloneC_after (P := Tryz.prog) (t := 55) (e := 5) (ty := 55) (by_ := 1) hh Tryz.underlying55 size_5 bytes_5 zero_5 (by omega) (by omega) (by omega) rfl hc hv
  rcases hA with ⟨rfl, hA⟩ | ⟨a, n, c, u, w1, x, w2, ok', B', rfl, h1, h2, hA⟩
  · exact (clone_nil_70 w).mono fun e w' ⟨he, hw⟩ => by subst he hw; exact hR _ _ _ _ hA
  · rw [run_build_none (P := Tryz.prog) Tryz.underlying55 size_5] at h1
    simp only [Result.ok.injEq] at h1
    obtain ⟨rfl, rfl⟩ := h1
    exact (clone_some_70 a n c w w2 x h2).mono fun e w' ⟨he, hw⟩ => by subst he hw; exact hR _ _ _ _ hA
end Go.Proofs.YtijfffbhhlmgmaaGreatDoor
end
section
namespace Go.Proofs.YtijfffbhhlmgmaaGreatDoor
open Go Go.Sim Go.Sim.Kr
set_option maxRecDepth 100000
set_option linter.unusedVariables false
set_option linter.unusedSimpArgs false

theorem fnOk : FnOk E pM where
  frame := by
    intro g F hg hF
    simp only [E, Bool.or_eq_true] at hg
    rcases hg with ((hg | hg) | hg) | hg
    · obtain rfl : g = 6 := Nat.eq_of_beq_eq_true hg
      obtain rfl := (Option.some.inj hF).symm
      exact Kr.trueV_frame
    · obtain rfl : g = 45 := Nat.eq_of_beq_eq_true hg
      obtain rfl := (Option.some.inj hF).symm
      exact clFrame 8796093022208 2
    · obtain rfl : g = 58 := Nat.eq_of_beq_eq_true hg
      obtain rfl := (Option.some.inj hF).symm
      exact clFrame 35184372088832 1
    · obtain rfl : g = 70 := Nat.eq_of_beq_eq_true hg
      obtain rfl := (Option.some.inj hF).symm
      exact clFrame 140737488355328 1
  good := mok0.fn.good
theorem eqOk : EqOk E := by
  have h : (E.eqTypes.all fun t => !Tryz.prog.stoodInHeld t && !Tryz.prog.eqGuardType Tryz.prog.depth t) = true := by kernel_rfl
  intro t ht
  have := List.all_eq_true.1 h t (by simpa using ht)
  simpa using this
theorem knownOk : KnownOk E pM := by
  intro f F hF
  change knownT f = some F at hF
  unfold knownT at hF
  split at hF
  · obtain rfl := (Option.some.inj hF).symm
    exact known_45
  · obtain rfl := (Option.some.inj hF).symm
    exact known_58
  · obtain rfl := (Option.some.inj hF).symm
    exact known_70
  · obtain rfl := (Option.some.inj hF).symm
    exact awakeKnown
  · cases hF
theorem knownIn : KnownIn E := by
  intro f F hF
  change knownT f = some F at hF
  unfold knownT at hF
  split at hF
  · exact ⟨Tryz.f45, Tryz.f45.body.getD .skip, Tryz.func45, by kernel_rfl, by simp [Tryz.f45]⟩
  · exact ⟨Tryz.f58, Tryz.f58.body.getD .skip, Tryz.func58, by kernel_rfl, by simp [Tryz.f58]⟩
  · exact ⟨Tryz.f70, Tryz.f70.body.getD .skip, Tryz.func70, by kernel_rfl, by simp [Tryz.f70]⟩
  · exact ⟨Tryz.f6, Tryz.f6.body.getD .skip, Tryz.func6, by kernel_rfl, by simp [Tryz.f6]⟩
  · cases hF
end Go.Proofs.YtijfffbhhlmgmaaGreatDoor
end
