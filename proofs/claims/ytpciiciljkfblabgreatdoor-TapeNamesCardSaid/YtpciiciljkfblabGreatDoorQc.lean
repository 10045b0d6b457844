/-
  Lines of the table are true. Printed by program.
-/
import Derived.Test.YtpciiciljkfblabGreatDoorNa
section
namespace Go.Proofs.YtpciiciljkfblabGreatDoor
open Go Go.Sim Go.Sim.Kr
set_option maxRecDepth 1000000
set_option linter.unusedVariables false
theorem q4 : subQ Kc 3000 197 ln4 = true := by kernel_rfl
end Go.Proofs.YtpciiciljkfblabGreatDoor
end
