/-
  The law's awake answers true; the settings that know it.
-/
import Derived.Test.YtijfffbhhlmgmaaGreatDoorNa
section
namespace Go.Proofs.YtijfffbhhlmgmaaGreatDoor
open Go Go.Sim Go.Sim.Kr
set_option maxRecDepth 1000000
theorem evAwake : trueF K3 3000 6 = true := by kernel_rfl
theorem awakeKnown : ∀ args h r h', trueV args h = some (r, h') → CallS Tryz.prog pM 6 args h r h' := trueV_known k3 m3 evAwake
end Go.Proofs.YtijfffbhhlmgmaaGreatDoor
end
