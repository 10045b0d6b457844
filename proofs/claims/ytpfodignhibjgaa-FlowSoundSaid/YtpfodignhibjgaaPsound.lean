/-
  FlowSound: whatever the code and its jumps, the law answers true, and the argument reads behind the call as it read before. No condition.
-/
import Derived.Test.YtpfodignhibjgaaNn
import Derived.Test.YtpfodignhibjgaaNq
import Derived.Test.YtpfodignhibjgaaNd
import Derived.Test.YtpfodignhibjgaaRows
import Derived.WalkKit
import Derived.ProofKit
import Derived.OpenShut
section
namespace Go.Proofs.Ytpfodignhibjgaa.flowSound
open Go Go.Sim Go.Proofs.Ytpfodignhibjgaa Go.ChangeShapes Go.WideShapes Go.ChangeAt Go.RowKit
set_option linter.unusedVariables false
set_option maxRecDepth 100000

theorem own : ownKnob Try.prog.godebug = none := by kernel_rfl
theorem laidOut : laidOutB Try.prog = true := by kernel_rfl
theorem reads : (Try.f4.params.toList.all fun t => Try.prog.readableRec t && decide (t < Try.prog.types.size)) = true := by kernel_rfl

theorem lifted (os : Os) (started : os.Started) (H : Type) (enc : TypeId × Value → H) :
    ReturnsInHanded {} Try.checked os 4 .any (Rows.flowSoundSpec.pre6 enc Try.prog Try.f4 Rows.flowSoundRow.domain false) (Rows.flowSoundSpec.post enc Try.prog Try.f4 false true false false) := by
  refine returnsInHanded_of_change_sized (C := Try.checked) own started (by kernel_rfl) Try.func4
    (ChangeSpec.witness6 (enc := enc) (C := Try.checked) false ⟨#[], #[.agg #[.slice none 0 0, .slice none 0 0]], []⟩ 8 (by kernel_rfl) (by kernel_rfl) (by kernel_rfl) (by kernel_rfl)) ?_
  intro W base args ds gs before hval0 hW hcnd hwt _
  have hval : ∀ (j : Nat) t v, Try.f4.params[j]? = some t → args[j]? = some v → Value.okWide Try.prog W .any base t v := hval0
  have hW' := hW
  obtain ⟨p, q, hA0, hV, rfl, hfz, hnd⟩ := hW
  have hA : DataW.TrodAll enc Try.prog W 0 (fun _ => true) true Try.f4.params.toList args.toList ds p := hA0
  rw [Try.params4] at hA hval
  obtain ⟨v0, vs0, d0, ds0, p0, q0, hargs, rfl, rfl, h0, r0⟩ := trodAll_cons hA
  obtain ⟨rfl, rfl, rfl⟩ := trodAll_nil r0
  obtain rfl : args = #[v0] := by cases args; simp_all
  obtain ⟨rfl, rfl⟩ := trodVars_none hV
  obtain ⟨code, jumps, g0, m0⟩ := codeS_in (hval 0 25 v0 rfl rfl) h0
  have m0' := m0 0 _ _ rfl rfl hwt
  have hlaw := FlowSound code jumps m0'
  have hc := law_calls (E := E) (w := W) (args' := #[v0]) eqOk fnOk knownOk knownIn (f := 4) rfl rfl (by simp) (by simp) hlaw (by simp only [VRelL]; exact ⟨v0, _, rfl, g0, rfl⟩)
  refine Calls.mono (P := Try.prog) hc fun e W' ⟨he, hb⟩ => ?_
  subst he
  exact ⟨_, rfl, law_post (tb := 4) laidOut (fun t ht => by have := List.all_eq_true.1 reads t ht; simp at this; exact this) Try.underlying4 (by kernel_rfl) rfl hW' rfl hb⟩

theorem over : Rows.flowSoundRow.holds Try.pinned (OpenSpec.ofChange Rows.flowSoundSpec) :=
  OpenClaim.holds_of_wide 4 Try.f4 rfl rfl rfl rfl rfl rfl rfl ⟨rfl, rfl, rfl, rfl, rfl⟩ rfl rfl rfl rfl rfl (by kernel_rfl) Try.func4 (by kernel_rfl)
    (of_decide_eq_true (by kernel_rfl)) (by unfold Func.isWrapper; first | (rw [if_pos (by decide +kernel)]; kernel_rfl) | (rw [if_neg (by decide +kernel)]; exact ⟨rfl, rfl⟩))
    (fun os started H enc _ => lifted os started H enc)

/-- ████ THE STATEMENT ████ -/
theorem proved : Rows.FlowSoundSaid :=
  over
#print axioms proved
end Go.Proofs.Ytpfodignhibjgaa.flowSound
end
