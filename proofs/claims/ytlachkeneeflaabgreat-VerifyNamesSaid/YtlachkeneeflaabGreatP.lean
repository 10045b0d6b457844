/-
  VerifyNames: the function takes no input and answers true, for every memory. No condition.
-/
import Derived.Test.YtlachkeneeflaabGreatNl
import Derived.Test.YtlachkeneeflaabGreatNm
import Derived.Test.YtlachkeneeflaabGreatMe
import Derived.Test.YtlachkeneeflaabGreatRows
import Derived.WalkKit
import Derived.ProofKit
import Derived.OpenShut
section
namespace Go.Proofs.YtlachkeneeflaabGreat.verifyNames
open Go Go.Sim Go.Proofs.YtlachkeneeflaabGreat Go.ChangeShapes Go.WideShapes Go.ChangeAt Go.RowKit
set_option linter.unusedVariables false
set_option linter.unusedSimpArgs false
set_option maxRecDepth 100000

theorem own : ownKnob Tryz.prog.godebug = none := by kernel_rfl
theorem laidOut : laidOutB Tryz.prog = true := by kernel_rfl
theorem reads : (Tryz.f3.params.toList.all fun t => Tryz.prog.readableRec t && decide (t < Tryz.prog.types.size)) = true := by kernel_rfl
theorem evo (f : FuncId) (lent : Bool) (args : List V) (r : V) (n : Nat) (h : pureV E3 (ev E3 n) f lent args = some r) : pureV E3 (om E3) f lent args = some r :=
  (pureV_fs E3 f lent args).mono (fun c s r hr => (om_iff E3).mpr ⟨n, hr⟩) h

theorem lifted (os : Os) (started : os.Started) (H : Type) (enc : TypeId × Value → H) :
    ReturnsInHanded {} Tryz.checked os 3 .any (Rows.verifyNamesSpec.pre6 enc Tryz.prog Tryz.f3 Rows.verifyNamesRow.domain false) (Rows.verifyNamesSpec.post enc Tryz.prog Tryz.f3 false true false false) := by
  refine returnsInHanded_of_change (C := Tryz.checked) own started (by kernel_rfl) Tryz.func3
    (ChangeSpec.witness6 (enc := enc) (C := Tryz.checked) false ⟨#[], #[], []⟩ 8 (by kernel_rfl) (by kernel_rfl) (by kernel_rfl) (by kernel_rfl)) ?_
  intro W base args ds gs before hval0 hW hcnd _
  have hval : ∀ (j : Nat) t v, Tryz.f3.params[j]? = some t → args[j]? = some v → Value.okWide Tryz.prog W .any base t v := hval0
  have hW' := hW
  obtain ⟨p, q, hA0, hV, rfl, hfz, hnd⟩ := hW
  have hA : DataW.TrodAll enc Tryz.prog W 0 (fun _ => true) true Tryz.f3.params.toList args.toList ds p := hA0
  rw [Tryz.params3] at hA hval
  obtain ⟨rfl, rfl, rfl⟩ := trodAll_none hA
  obtain ⟨rfl, rfl⟩ := trodVars_none hV
  have hlaw := evo 3 false [] (.bool true) 400 names_eval
  have hR : VRelL (fun b => b < W.heap.size) W Bd.none_ [] ([] : List Value) := by
    simp only [VRelL]
  have hc := law_calls (E := E3) (w := W) (args' := #[]) eqOk3 fnOk3 knownOk3 knownIn3 (f := 3) rfl rfl (by rfl) (by rfl) hlaw hR
  refine Calls.mono (P := Tryz.prog) hc fun e W' ⟨he, hb⟩ => ?_
  subst he
  exact ⟨_, rfl, law_post (tb := 4) laidOut (fun t ht => by have := List.all_eq_true.1 reads t ht; simp at this; exact this) Tryz.underlying4 (by kernel_rfl) rfl hW' rfl hb⟩

theorem over : Rows.verifyNamesRow.holds Tryz.pinned (OpenSpec.ofChange Rows.verifyNamesSpec) :=
  OpenClaim.holds_of_wide 3 Tryz.f3 rfl rfl rfl rfl rfl rfl rfl ⟨rfl, rfl, rfl, rfl, rfl⟩ rfl rfl rfl rfl rfl (by kernel_rfl) Tryz.func3 (by kernel_rfl)
    (of_decide_eq_true (by kernel_rfl)) (by unfold Func.isWrapper; first | (rw [if_pos (by decide +kernel)]; kernel_rfl) | (rw [if_neg (by decide +kernel)]; exact ⟨rfl, rfl⟩))
    (fun os started H enc _ => lifted os started H enc)

/-- ████ THE STATEMENT ████ -/
theorem proved : Rows.VerifyNamesSaid :=
  over
#print axioms proved
end Go.Proofs.YtlachkeneeflaabGreat.verifyNames
end
