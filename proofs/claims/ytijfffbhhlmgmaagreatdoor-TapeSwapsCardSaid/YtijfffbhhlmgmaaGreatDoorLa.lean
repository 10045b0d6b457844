/-
  TapeSwaps: a cell of the row, by the kernel.
-/
import Derived.Test.YtijfffbhhlmgmaaGreatDoorRows
section
namespace Go.Proofs.YtijfffbhhlmgmaaGreatDoor.tapeSwaps
open Go
set_option maxRecDepth 100000
theorem inP : Tryz.pinned.checked.prog.inPlace 4 = ["math.Float32frombits", "math.Float32bits"] := by kernel_rfl
end Go.Proofs.YtijfffbhhlmgmaaGreatDoor.tapeSwaps
end
