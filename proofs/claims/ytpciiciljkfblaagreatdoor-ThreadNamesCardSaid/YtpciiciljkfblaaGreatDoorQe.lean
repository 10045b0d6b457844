/-
  ThreadNames answers true in the machine.
-/
import Derived.Test.YtpciiciljkfblaaGreatDoorNc
section
namespace Go.Proofs.YtpciiciljkfblaaGreatDoor
open Go Go.Sim Go.Sim.Kr
set_option maxRecDepth 1000000
theorem evNames : trueF K4 9000 3 = true := by kernel_rfl
end Go.Proofs.YtpciiciljkfblaaGreatDoor
end
