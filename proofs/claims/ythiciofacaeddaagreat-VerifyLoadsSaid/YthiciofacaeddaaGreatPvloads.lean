/-
 VerifyLoads: whatever the bytes, the law answers true, and the argument reads behind the call as it read before. No condition.
-/
import Derived.Test.YthiciofacaeddaaGreatLd
import Derived.Test.YthiciofacaeddaaGreatLf
import Derived.Test.YthiciofacaeddaaGreatNb
import Derived.Test.YthiciofacaeddaaGreatRows
import Derived.WalkKit
import Derived.ProofKit
import Derived.OpenShut
section
namespace Go.Proofs.YthiciofacaeddaaGreat.verifyLoads
open Go Go.Sim Go.Proofs.YthiciofacaeddaaGreat Go.ChangeShapes Go.WideShapes Go.ChangeAt Go.RowKit
set_option linter.unusedVariables false
set_option maxRecDepth 100000

theorem own : ownKnob Tryz.prog.godebug = none := by kernel_rfl
theorem laidOut : laidOutB Tryz.prog = true := by kernel_rfl
theorem reads : (Tryz.f6.params.toList.all fun t => Tryz.prog.readableRec t && decide (t < Tryz.prog.types.size)) = true := by kernel_rfl

theorem lifted (os : Os) (started : os.Started) (H : Type) (enc : TypeId × Value → H) :
  ReturnsInHanded {} Tryz.checked os 6 .any (Rows.verifyLoadsSpec.pre6 enc Tryz.prog Tryz.f6 Rows.verifyLoadsRow.domain false) (Rows.verifyLoadsSpec.post enc Tryz.prog Tryz.f6 false true false false) := by
 refine returnsInHanded_of_change_sized (C := Tryz.checked) own started (by kernel_rfl) Tryz.func6
  (ChangeSpec.witness6 (enc := enc) (C := Tryz.checked) false ⟨#[], #[.slice none 0 0], []⟩ 8 (by kernel_rfl) (by kernel_rfl) (by kernel_rfl) (by kernel_rfl)) ?_
 intro W base args ds gs before hval0 hW hcnd hwt _
 have hval : ∀ (j : Nat) t v, Tryz.f6.params[j]? = some t → args[j]? = some v → Value.okWide Tryz.prog W .any base t v := hval0
 have hW' := hW
 obtain ⟨p, q, hA0, hV, rfl, hfz, hnd⟩ := hW
 have hA : DataW.TrodAll enc Tryz.prog W 0 (fun _ => true) true Tryz.f6.params.toList args.toList ds p := hA0
 rw [Tryz.params6] at hA hval
 obtain ⟨v0, vs0, d0, ds0, p0, q0, hargs, rfl, rfl, h0, r0⟩ := trodAll_cons hA
 obtain ⟨rfl, rfl, rfl⟩ := trodAll_nil r0
 obtain rfl : args = #[v0] := by cases args; simp_all
 obtain ⟨rfl, rfl⟩ := trodVars_none hV
 obtain ⟨l, g0, _, _⟩ := bytes_in Tryz.underlying24 Tryz.underlying5 (by kernel_rfl) (hval 0 24 v0 rfl rfl) h0
 have hl : l.length ≤ 140737488351232 := by
  obtain ⟨fuel, hf⟩ := h0
  have hcs : v0.cells.toList = [v0] := by
   rcases slice_shape Tryz.underlying24 (hval 0 24 v0 rfl rfl) with rfl | ⟨b, off, len, cap, rfl, _⟩ <;> rfl
  rw [hcs] at hf
  have hw := weight_le (j := 0) Tryz.underlying24 hf g0 rfl rfl hwt
  have hb : Tryz.prog.bytesOf 5 = 1 := by kernel_rfl
  rw [hb] at hw
  omega
 have hlaw := VerifyLoads l hl
 have hc := law_calls (E := E) (w := W) (args' := #[v0]) eqOk fnOk knownOk knownIn (f := 6) rfl rfl (by simp) (by simp) hlaw (by simp only [VRelL]; exact ⟨v0, _, rfl, g0, rfl⟩)
 refine Calls.mono (P := Tryz.prog) hc fun e W' ⟨he, hb⟩ => ?_
 subst he
 exact ⟨_, rfl, law_post (tb := 4) laidOut (fun t ht => by have := List.all_eq_true.1 reads t ht; simp at this; exact this) Tryz.underlying4 (by kernel_rfl) rfl hW' rfl hb⟩

theorem over : Rows.verifyLoadsRow.holds Tryz.pinned (OpenSpec.ofChange Rows.verifyLoadsSpec) :=
 OpenClaim.holds_of_wide 6 Tryz.f6 rfl rfl rfl rfl rfl rfl rfl ⟨rfl, rfl, rfl, rfl, rfl⟩ rfl rfl rfl rfl rfl (by kernel_rfl) Tryz.func6 (by kernel_rfl)
  (of_decide_eq_true (by kernel_rfl)) (by unfold Func.isWrapper; first | (rw [if_pos (by decide +kernel)]; kernel_rfl) | (rw [if_neg (by decide +kernel)]; exact ⟨rfl, rfl⟩))
  (fun os started H enc _ => lifted os started H enc)

theorem proved : Rows.VerifyLoadsSaid :=
 over
#print axioms proved
end Go.Proofs.YthiciofacaeddaaGreat.verifyLoads
end
