/-
  FuseMeans: whatever the code, the stretch, the words, the bytes and the place, the law answers true, and each argument reads behind the call as it read before. No condition.
-/
import Derived.Test.YtjmipgfaghjgmaaNl
import Derived.Test.YtjmipgfaghjgmaaQf
import Derived.Test.YtjmipgfaghjgmaaNd
import Derived.Test.YtjmipgfaghjgmaaRows
import Derived.WalkKit
import Derived.ProofKit
import Derived.OpenShut
section
namespace Go.Proofs.Ytjmipgfaghjgmaa.fuseMeans
open Go Go.Sim Go.Proofs.Ytjmipgfaghjgmaa Go.ChangeShapes Go.WideShapes Go.ChangeAt Go.RowKit
set_option linter.unusedVariables false
set_option maxRecDepth 100000

theorem own : ownKnob Try.prog.godebug = none := by kernel_rfl
theorem laidOut : laidOutB Try.prog = true := by kernel_rfl
theorem reads : (Try.f3.params.toList.all fun t => Try.prog.readableRec t && decide (t < Try.prog.types.size)) = true := by kernel_rfl

theorem lifted (os : Os) (started : os.Started) (H : Type) (enc : TypeId × Value → H) :
    ReturnsInHanded {} Try.checked os 3 .any (Rows.fuseMeansSpec.pre6 enc Try.prog Try.f3 Rows.fuseMeansRow.domain false) (Rows.fuseMeansSpec.post enc Try.prog Try.f3 false true false false) := by
  refine returnsInHanded_of_change_sized (C := Try.checked) own started (by kernel_rfl) Try.func3
    (ChangeSpec.witness6 (enc := enc) (C := Try.checked) false ⟨#[], #[.slice none 0 0, .int .u32 0, .int .u32 0, .slice none 0 0, .slice none 0 0, .int .u32 0], []⟩ 8 (by kernel_rfl) (by kernel_rfl) (by kernel_rfl) (by kernel_rfl)) ?_
  intro W base args ds gs before hval0 hW hcnd hwt _
  have hval : ∀ (j : Nat) t v, Try.f3.params[j]? = some t → args[j]? = some v → Value.okWide Try.prog W .any base t v := hval0
  have hW' := hW
  obtain ⟨p, q, hA0, hV, rfl, hfz, hnd⟩ := hW
  have hA : DataW.TrodAll enc Try.prog W 0 (fun _ => true) true Try.f3.params.toList args.toList ds p := hA0
  rw [Try.params3] at hA hval
  obtain ⟨v0, vs0, d0, ds0, p0, q0, hargs, rfl, rfl, h0, r0⟩ := trodAll_cons hA
  obtain ⟨v1, vs1, d1, ds1, p1, q1, rfl, rfl, rfl, h1, r1⟩ := trodAll_cons r0
  obtain ⟨v2, vs2, d2, ds2, p2, q2, rfl, rfl, rfl, h2, r2⟩ := trodAll_cons r1
  obtain ⟨v3, vs3, d3, ds3, p3, q3, rfl, rfl, rfl, h3, r3⟩ := trodAll_cons r2
  obtain ⟨v4, vs4, d4, ds4, p4, q4, rfl, rfl, rfl, h4, r4⟩ := trodAll_cons r3
  obtain ⟨v5, vs5, d5, ds5, p5, q5, rfl, rfl, rfl, h5, r5⟩ := trodAll_cons r4
  obtain ⟨rfl, rfl, rfl⟩ := trodAll_nil r5
  obtain rfl : args = #[v0, v1, v2, v3, v4, v5] := by cases args; simp_all
  obtain ⟨rfl, rfl⟩ := trodVars_none hV
  obtain ⟨c, g0, l0, m0⟩ := code_in (hval 0 22 v0 rfl rfl) h0
  obtain ⟨a, g1, l1⟩ := u32_in (hval 1 23 v1 rfl rfl) h1
  obtain ⟨e, g2, l2⟩ := u32_in (hval 2 23 v2 rfl rfl) h2
  obtain ⟨O, g3, m3⟩ := words_in (hval 3 24 v3 rfl rfl) h3
  obtain ⟨R, g4, m4⟩ := raw_in (hval 4 25 v4 rfl rfl) h4
  obtain ⟨sp, g5, l5⟩ := u32_in (hval 5 23 v5 rfl rfl) h5
  have m3' := m3 3 _ _ rfl rfl hwt
  have m4' := m4 4 _ _ rfl rfl hwt
  have hlaw := FuseMeans false c a e O R sp l1 l2 l0 m3' (by omega)
  have hc := law_calls (E := E) (w := W) (args' := #[v0, v1, v2, v3, v4, v5]) eqOk fnOk knownOk knownIn (f := 3) rfl rfl (by simp) (by simp) hlaw (by simp only [VRelL]; exact ⟨v0, _, rfl, g0, v1, _, rfl, g1, v2, _, rfl, g2, v3, _, rfl, g3, v4, _, rfl, g4, v5, _, rfl, g5, rfl⟩)
  refine Calls.mono (P := Try.prog) hc fun e W' ⟨he, hb⟩ => ?_
  subst he
  exact ⟨_, rfl, law_post (tb := 4) laidOut (fun t ht => by have := List.all_eq_true.1 reads t ht; simp at this; exact this) Try.underlying4 (by kernel_rfl) rfl hW' rfl hb⟩

theorem over : Rows.fuseMeansRow.holds Try.pinned (OpenSpec.ofChange Rows.fuseMeansSpec) :=
  OpenClaim.holds_of_wide 3 Try.f3 rfl rfl rfl rfl rfl rfl rfl ⟨rfl, rfl, rfl, rfl, rfl⟩ rfl rfl rfl rfl rfl (by kernel_rfl) Try.func3 (by kernel_rfl)
    (of_decide_eq_true (by kernel_rfl)) (by unfold Func.isWrapper; first | (rw [if_pos (by decide +kernel)]; kernel_rfl) | (rw [if_neg (by decide +kernel)]; exact ⟨rfl, rfl⟩))
    (fun os started H enc _ => lifted os started H enc)

/-- ████ THE STATEMENT ████ -/
theorem proved : Rows.FuseMeansSaid :=
  over
#print axioms proved
end Go.Proofs.Ytjmipgfaghjgmaa.fuseMeans
end
