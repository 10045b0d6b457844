/-
  TapeSwaps: a cell of the row, by the kernel.
-/
import Derived.Test.YtijfffbhhlmgmaaGreatDoorRows
section
namespace Go.Proofs.YtijfffbhhlmgmaaGreatDoor.tapeSwaps
open Go
set_option maxRecDepth 100000
theorem nam : Tryz.pinned.checked.prog.varsNamed 4 = ["math/bits.deBruijn64tab"] := by kernel_rfl
end Go.Proofs.YtijfffbhhlmgmaaGreatDoor.tapeSwaps
end
