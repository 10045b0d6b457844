/-
 CellSound: a cell of the row, by the kernel.
-/
import Derived.Test.YtfplmcpkagpaiaaGreatDoorRows
set_option maxRecDepth 100000
set_option linter.unusedSimpArgs false
set_option linter.unusedVariables false
section
namespace Go.Proofs.YtfplmcpkagpaiaaGreatDoor.cellSound
open Go
theorem nam : Tryz.pinned.checked.prog.varsNamed 4 = ["math/bits.deBruijn64tab"] := by kernel_rfl
end Go.Proofs.YtfplmcpkagpaiaaGreatDoor.cellSound
end
