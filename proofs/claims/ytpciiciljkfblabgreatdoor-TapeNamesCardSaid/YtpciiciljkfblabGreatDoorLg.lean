/-
  TapeNames: cells of the card, by the kernel.
-/
import Derived.Test.YtpciiciljkfblabGreatDoorRows
import GoSem.ClaimSeven
import Derived.SevenTiedAt
section
namespace Go.Proofs.YtpciiciljkfblabGreatDoor.tapeNames
open Go
set_option maxRecDepth 100000
theorem cGoes : false = Rows.tapeNamesRow.goesBy Tryz.pinned.checked.prog := by kernel_rfl
end Go.Proofs.YtpciiciljkfblabGreatDoor.tapeNames
end
