/-
  Lines of the tables are true. Printed by program.
-/
import Derived.Test.YtpciiciljkfblaaGreatDoorNa
section
namespace Go.Proofs.YtpciiciljkfblaaGreatDoor
open Go Go.Sim Go.Sim.Kr
set_option maxRecDepth 1000000
set_option linter.unusedVariables false
theorem q4 : subQ Kc0 3000 101 ln4 = true := by kernel_rfl
theorem q5 : subQ Kc0 3000 101 ln5 = true := by kernel_rfl
end Go.Proofs.YtpciiciljkfblaaGreatDoor
end
