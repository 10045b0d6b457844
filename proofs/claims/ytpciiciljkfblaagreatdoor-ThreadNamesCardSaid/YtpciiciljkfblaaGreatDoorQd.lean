/-
  The law's awake answers true.
-/
import Derived.Test.YtpciiciljkfblaaGreatDoorNb
section
namespace Go.Proofs.YtpciiciljkfblaaGreatDoor
open Go Go.Sim Go.Sim.Kr
set_option maxRecDepth 1000000
theorem evAwake : trueF K3 3000 7 = true := by kernel_rfl
end Go.Proofs.YtpciiciljkfblaaGreatDoor
end
