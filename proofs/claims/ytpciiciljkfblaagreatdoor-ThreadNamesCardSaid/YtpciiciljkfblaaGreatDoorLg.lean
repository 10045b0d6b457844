/-
  ThreadNames: cells of the card, by the kernel.
-/
import Derived.Test.YtpciiciljkfblaaGreatDoorRows
import GoSem.ClaimSeven
import Derived.SevenTiedAt
section
namespace Go.Proofs.YtpciiciljkfblaaGreatDoor.threadNames
open Go
set_option maxRecDepth 100000
theorem cGoes : false = Rows.threadNamesRow.goesBy Tryz.pinned.checked.prog := by kernel_rfl
end Go.Proofs.YtpciiciljkfblaaGreatDoor.threadNames
end
