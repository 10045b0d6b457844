/-
  TapeSwaps: a cell of the row, by the kernel.
-/
import Derived.Test.YtijfffbhhlmgmaaGreatDoorRows
section
namespace Go.Proofs.YtijfffbhhlmgmaaGreatDoor.tapeSwaps
open Go
set_option maxRecDepth 100000
theorem unf : Tryz.pinned.checked.prog.unfollowed 4 = true := by kernel_rfl
end Go.Proofs.YtijfffbhhlmgmaaGreatDoor.tapeSwaps
end
