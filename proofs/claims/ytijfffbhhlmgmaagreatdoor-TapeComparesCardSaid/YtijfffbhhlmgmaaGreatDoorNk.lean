/-
 What the machine of values takes for known at TapeCompares is so.
-/
import Derived.Test.YtijfffbhhlmgmaaGreatDoorNe
import Derived.Test.YtijfffbhhlmgmaaGreatDoorQd
section
namespace Go.Proofs.YtijfffbhhlmgmaaGreatDoor
open Go Go.Sim Go.Sim.Kr
set_option maxRecDepth 100000
set_option linter.unusedVariables false
theorem fnOkE : FnOk E pM where
 frame := by
  intro g F hg hF args h r h' hr
  obtain rfl : g = 6 := Nat.eq_of_beq_eq_true hg
  obtain rfl := (Option.some.inj hF).symm
  cases args with
  | nil =>
   simp only [trueV, Option.some.injEq, Prod.mk.injEq] at hr
   obtain ⟨rfl, rfl⟩ := hr
   exact ⟨rfl, fun _ _ _ => rfl⟩
  | cons a l => cases hr
 good := mok0.fn.good
theorem eqOkE : EqOk E := by
 have h : (E.eqTypes.all fun t => !Tryz.prog.stoodInHeld t && !Tryz.prog.eqGuardType Tryz.prog.depth t) = true := by kernel_rfl
 intro t ht
 have := List.all_eq_true.1 h t (by simpa using ht)
 simpa using this
theorem knownOkE : KnownOk E pM := by
 intro f F hF
 change knownT f = some F at hF
 unfold knownT at hF
 split at hF
 ·obtain rfl := (Option.some.inj hF).symm
  exact awakeKnown
 ·cases hF
theorem knownInE : KnownIn E := by
 intro f F hF
 change knownT f = some F at hF
 unfold knownT at hF
 split at hF
 ·exact ⟨Tryz.f6, Tryz.f6.body.getD .skip, Tryz.func6, by kernel_rfl, by simp [Tryz.f6]⟩
 ·cases hF
end Go.Proofs.YtijfffbhhlmgmaaGreatDoor
end
