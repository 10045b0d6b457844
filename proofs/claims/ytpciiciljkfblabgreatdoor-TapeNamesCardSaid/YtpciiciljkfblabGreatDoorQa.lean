/-
  Lines of the table are true. Printed by program.
-/
import Derived.Test.YtpciiciljkfblabGreatDoorNa
section
namespace Go.Proofs.YtpciiciljkfblabGreatDoor
open Go Go.Sim Go.Sim.Kr
set_option maxRecDepth 1000000
set_option linter.unusedVariables false
theorem q0 : subQ Kc 3000 197 ln0 = true := by kernel_rfl
theorem q1 : subQ Kc 3000 197 ln1 = true := by kernel_rfl
end Go.Proofs.YtpciiciljkfblabGreatDoor
end
