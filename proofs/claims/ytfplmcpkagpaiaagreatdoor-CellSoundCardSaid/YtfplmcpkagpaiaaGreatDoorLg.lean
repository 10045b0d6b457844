/-
 CellSound: cells of the card, by the kernel.
-/
import Derived.Test.YtfplmcpkagpaiaaGreatDoorRows
import GoSem.ClaimSeven
import Derived.SevenTiedAt
set_option maxRecDepth 100000
set_option linter.unusedSimpArgs false
set_option linter.unusedVariables false
section
namespace Go.Proofs.YtfplmcpkagpaiaaGreatDoor.cellSound
open Go
theorem cGoes : false = Rows.cellSoundRow.goesBy Tryz.pinned.checked.prog := by kernel_rfl
end Go.Proofs.YtfplmcpkagpaiaaGreatDoor.cellSound
end
