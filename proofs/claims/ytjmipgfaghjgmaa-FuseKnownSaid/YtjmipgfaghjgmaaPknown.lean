/-
  FuseKnown: the function takes no input and answers true, for every memory. No condition.
-/
import Derived.Test.YtjmipgfaghjgmaaNm
import Derived.Test.YtjmipgfaghjgmaaMe
import Derived.Test.YtjmipgfaghjgmaaRows
import Derived.WalkKit
import Derived.ProofKit
import Derived.OpenShut
section
namespace Go.Proofs.Ytjmipgfaghjgmaa.fuseKnown
open Go Go.Sim Go.Proofs.Ytjmipgfaghjgmaa Go.ChangeShapes Go.WideShapes Go.ChangeAt Go.RowKit
set_option linter.unusedVariables false
set_option maxRecDepth 100000

theorem own : ownKnob Try.prog.godebug = none := by kernel_rfl
theorem laidOut : laidOutB Try.prog = true := by kernel_rfl
theorem reads : (Try.f5.params.toList.all fun t => Try.prog.readableRec t && decide (t < Try.prog.types.size)) = true := by kernel_rfl

theorem lifted (os : Os) (started : os.Started) (H : Type) (enc : TypeId × Value → H) :
    ReturnsInHanded {} Try.checked os 5 .any (Rows.fuseKnownSpec.pre6 enc Try.prog Try.f5 Rows.fuseKnownRow.domain false) (Rows.fuseKnownSpec.post enc Try.prog Try.f5 false true false false) := by
  refine returnsInHanded_of_change (C := Try.checked) own started (by kernel_rfl) Try.func5
    (ChangeSpec.witness6 (enc := enc) (C := Try.checked) false ⟨#[], #[], []⟩ 8 (by kernel_rfl) (by kernel_rfl) (by kernel_rfl) (by kernel_rfl)) ?_
  intro W base args ds gs before hval0 hW hcnd _
  have hval : ∀ (j : Nat) t v, Try.f5.params[j]? = some t → args[j]? = some v → Value.okWide Try.prog W .any base t v := hval0
  have hW' := hW
  obtain ⟨p, q, hA0, hV, rfl, hfz, hnd⟩ := hW
  have hA : DataW.TrodAll enc Try.prog W 0 (fun _ => true) true Try.f5.params.toList args.toList ds p := hA0
  rw [Try.params5] at hA hval
  obtain ⟨rfl, rfl, rfl⟩ := trodAll_none hA
  obtain ⟨rfl, rfl⟩ := trodVars_none hV
  have hlaw : pureV EL (om EL) 5 false [] = some (bb true) := pure_evals FuseKnown
  have hR : VRelL (fun b => b < W.heap.size) W Bd.none_ [] ([] : List Value) := by
    simp only [VRelL]
  have hc := law_calls (E := EL) (w := W) (args' := #[]) eqOkL fnOkL knownOkL knownInL (f := 5) rfl rfl (by rfl) (by rfl) hlaw hR
  refine Calls.mono (P := Try.prog) hc fun e W' ⟨he, hb⟩ => ?_
  subst he
  exact ⟨_, rfl, law_post (tb := 4) laidOut (fun t ht => by have := List.all_eq_true.1 reads t ht; simp at this; exact this) Try.underlying4 (by kernel_rfl) rfl hW' rfl hb⟩

theorem over : Rows.fuseKnownRow.holds Try.pinned (OpenSpec.ofChange Rows.fuseKnownSpec) :=
  OpenClaim.holds_of_wide 5 Try.f5 rfl rfl rfl rfl rfl rfl rfl ⟨rfl, rfl, rfl, rfl, rfl⟩ rfl rfl rfl rfl rfl (by kernel_rfl) Try.func5 (by kernel_rfl)
    (of_decide_eq_true (by kernel_rfl)) (by unfold Func.isWrapper; first | (rw [if_pos (by decide +kernel)]; kernel_rfl) | (rw [if_neg (by decide +kernel)]; exact ⟨rfl, rfl⟩))
    (fun os started H enc _ => lifted os started H enc)

/-- ████ THE STATEMENT ████ -/
theorem proved : Rows.FuseKnownSaid :=
  over
#print axioms proved
end Go.Proofs.Ytjmipgfaghjgmaa.fuseKnown
end
