/-
 CellSound: a cell of the row, by the kernel.
-/
import Derived.Test.YtfplmcpkagpaiaaGreatDoorRows
set_option maxRecDepth 100000
set_option linter.unusedSimpArgs false
set_option linter.unusedVariables false
section
namespace Go.Proofs.YtfplmcpkagpaiaaGreatDoor.cellSound
open Go
theorem rcs : Tryz.pinned.checked.prog.recurses 4 = true := by kernel_rfl
end Go.Proofs.YtfplmcpkagpaiaaGreatDoor.cellSound
end
