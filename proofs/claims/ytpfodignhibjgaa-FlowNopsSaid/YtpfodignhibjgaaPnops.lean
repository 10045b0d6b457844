/-
  FlowNops: whatever the code, its jumps and the number, the law answers true, and each argument reads behind the call as it read before. No condition.
-/
import Derived.Test.YtpfodignhibjgaaNn
import Derived.Test.YtpfodignhibjgaaNm
import Derived.Test.YtpfodignhibjgaaNd
import Derived.Test.YtpfodignhibjgaaRows
import Derived.WalkKit
import Derived.ProofKit
import Derived.OpenShut
section
namespace Go.Proofs.Ytpfodignhibjgaa.flowNops
open Go Go.Sim Go.Proofs.Ytpfodignhibjgaa Go.ChangeShapes Go.WideShapes Go.ChangeAt Go.RowKit
set_option linter.unusedVariables false
set_option maxRecDepth 100000

theorem own : ownKnob Try.prog.godebug = none := by kernel_rfl
theorem laidOut : laidOutB Try.prog = true := by kernel_rfl
theorem reads : (Try.f3.params.toList.all fun t => Try.prog.readableRec t && decide (t < Try.prog.types.size)) = true := by kernel_rfl

theorem lifted (os : Os) (started : os.Started) (H : Type) (enc : TypeId × Value → H) :
    ReturnsInHanded {} Try.checked os 3 .any (Rows.flowNopsSpec.pre6 enc Try.prog Try.f3 Rows.flowNopsRow.domain false) (Rows.flowNopsSpec.post enc Try.prog Try.f3 false true false false) := by
  refine returnsInHanded_of_change_sized (C := Try.checked) own started (by kernel_rfl) Try.func3
    (ChangeSpec.witness6 (enc := enc) (C := Try.checked) false ⟨#[], #[.agg #[.slice none 0 0, .slice none 0 0], .int .i64 0], []⟩ 8 (by kernel_rfl) (by kernel_rfl) (by kernel_rfl) (by kernel_rfl)) ?_
  intro W base args ds gs before hval0 hW hcnd hwt _
  have hval : ∀ (j : Nat) t v, Try.f3.params[j]? = some t → args[j]? = some v → Value.okWide Try.prog W .any base t v := hval0
  have hW' := hW
  obtain ⟨p, q, hA0, hV, rfl, hfz, hnd⟩ := hW
  have hA : DataW.TrodAll enc Try.prog W 0 (fun _ => true) true Try.f3.params.toList args.toList ds p := hA0
  rw [Try.params3] at hA hval
  obtain ⟨v0, vs0, d0, ds0, p0, q0, hargs, rfl, rfl, h0, r0⟩ := trodAll_cons hA
  obtain ⟨v1, vs1, d1, ds1, p1, q1, rfl, rfl, rfl, h1, r1⟩ := trodAll_cons r0
  obtain ⟨rfl, rfl, rfl⟩ := trodAll_nil r1
  obtain rfl : args = #[v0, v1] := by cases args; simp_all
  obtain ⟨rfl, rfl⟩ := trodVars_none hV
  obtain ⟨code, jumps, g0, m0⟩ := codeS_in (hval 0 25 v0 rfl rfl) h0
  obtain ⟨a, g1⟩ := int_in (hval 1 3 v1 rfl rfl) h1
  have m0' := m0 0 _ _ rfl rfl hwt
  have hlaw := FlowNops code jumps a m0'
  have hc := law_calls (E := E) (w := W) (args' := #[v0, v1]) eqOk fnOk knownOk knownIn (f := 3) rfl rfl (by simp) (by simp) hlaw (by simp only [VRelL]; exact ⟨v0, _, rfl, g0, v1, _, rfl, g1, rfl⟩)
  refine Calls.mono (P := Try.prog) hc fun e W' ⟨he, hb⟩ => ?_
  subst he
  exact ⟨_, rfl, law_post (tb := 4) laidOut (fun t ht => by have := List.all_eq_true.1 reads t ht; simp at this; exact this) Try.underlying4 (by kernel_rfl) rfl hW' rfl hb⟩

theorem over : Rows.flowNopsRow.holds Try.pinned (OpenSpec.ofChange Rows.flowNopsSpec) :=
  OpenClaim.holds_of_wide 3 Try.f3 rfl rfl rfl rfl rfl rfl rfl ⟨rfl, rfl, rfl, rfl, rfl⟩ rfl rfl rfl rfl rfl (by kernel_rfl) Try.func3 (by kernel_rfl)
    (of_decide_eq_true (by kernel_rfl)) (by unfold Func.isWrapper; first | (rw [if_pos (by decide +kernel)]; kernel_rfl) | (rw [if_neg (by decide +kernel)]; exact ⟨rfl, rfl⟩))
    (fun os started H enc _ => lifted os started H enc)

/-- ████ THE STATEMENT ████ -/
theorem proved : Rows.FlowNopsSaid :=
  over
#print axioms proved
end Go.Proofs.Ytpfodignhibjgaa.flowNops
end
