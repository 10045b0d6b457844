/-
  TapeSwaps: cells of the card, by the kernel.
-/
import Derived.Test.YtijfffbhhlmgmaaGreatDoorRows
import GoSem.ClaimSeven
import Derived.SevenTiedAt
section
namespace Go.Proofs.YtijfffbhhlmgmaaGreatDoor.tapeSwaps
open Go
set_option maxRecDepth 100000
theorem cGoes : false = Rows.tapeSwapsRow.goesBy Tryz.pinned.checked.prog := by kernel_rfl
end Go.Proofs.YtijfffbhhlmgmaaGreatDoor.tapeSwaps
end
