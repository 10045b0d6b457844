/-
 TapeCompares: a cell of the row, by the kernel.
-/
import Derived.Test.YtijfffbhhlmgmaaGreatDoorRows
section
namespace Go.Proofs.YtijfffbhhlmgmaaGreatDoor.tapeCompares
open Go
set_option maxRecDepth 100000
theorem inP : Tryz.pinned.checked.prog.inPlace 3 = ["math.Float32frombits", "math.Float32bits"] := by kernel_rfl
end Go.Proofs.YtijfffbhhlmgmaaGreatDoor.tapeCompares
end
