/-
  Lines of the tables are true. Printed by program.
  Lines of the tables are true. Printed by program.
  Lines of the tables are true. Printed by program.
  Lines of the tables are true. Printed by program.
-/
import Derived.Test.YtpciiciljkfblaaGreatDoorNa
section
namespace Go.Proofs.YtpciiciljkfblaaGreatDoor
open Go Go.Sim Go.Sim.Kr
set_option maxRecDepth 1000000
set_option linter.unusedVariables false
theorem q8 : subQ Kc0 3000 83 ln8 = true := by kernel_rfl
theorem q9 : subQ Kc0 3000 83 ln9 = true := by kernel_rfl
end Go.Proofs.YtpciiciljkfblaaGreatDoor
end
section
namespace Go.Proofs.YtpciiciljkfblaaGreatDoor
open Go Go.Sim Go.Sim.Kr
set_option maxRecDepth 1000000
set_option linter.unusedVariables false
theorem q10 : subQ Kc0 3000 83 ln10 = true := by kernel_rfl
theorem q11 : subQ Kc0 3000 83 ln11 = true := by kernel_rfl
end Go.Proofs.YtpciiciljkfblaaGreatDoor
end
section
namespace Go.Proofs.YtpciiciljkfblaaGreatDoor
open Go Go.Sim Go.Sim.Kr
set_option maxRecDepth 1000000
set_option linter.unusedVariables false
theorem q12 : subQ Kc0 3000 83 ln12 = true := by kernel_rfl
theorem q13 : subQ Kc0 3000 83 ln13 = true := by kernel_rfl
end Go.Proofs.YtpciiciljkfblaaGreatDoor
end
section
namespace Go.Proofs.YtpciiciljkfblaaGreatDoor
open Go Go.Sim Go.Sim.Kr
set_option maxRecDepth 1000000
set_option linter.unusedVariables false
theorem q14 : subQ Kc0 3000 83 ln14 = true := by kernel_rfl
theorem q15 : subQ Kc0 3000 83 ln15 = true := by kernel_rfl
end Go.Proofs.YtpciiciljkfblaaGreatDoor
end
