/-
  The law's awake answers true.
-/
import Derived.Test.YtpciiciljkfblabGreatDoorNb
section
namespace Go.Proofs.YtpciiciljkfblabGreatDoor
open Go Go.Sim Go.Sim.Kr
set_option maxRecDepth 1000000
theorem evAwake : trueF K3 3000 5 = true := by kernel_rfl
end Go.Proofs.YtpciiciljkfblabGreatDoor
end
