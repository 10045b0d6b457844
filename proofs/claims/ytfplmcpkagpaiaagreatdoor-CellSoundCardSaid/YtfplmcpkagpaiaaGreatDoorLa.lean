/-
 CellSound: a cell of the row, by the kernel.
 CellSound: cells of the card, by the kernel.
 CellSound: cells of the card, by the kernel.
-/
import Derived.Test.YtfplmcpkagpaiaaGreatDoorRows
import GoSem.ClaimSeven
import Derived.SevenTiedAt
set_option maxRecDepth 100000
set_option linter.unusedSimpArgs false
set_option linter.unusedVariables false
section
namespace Go.Proofs.YtfplmcpkagpaiaaGreatDoor.cellSound
open Go
theorem inP : Tryz.pinned.checked.prog.inPlace 4 = ["math.Float32frombits", "math.Float32bits"] := by kernel_rfl
end Go.Proofs.YtfplmcpkagpaiaaGreatDoor.cellSound
end
section
namespace Go.Proofs.YtfplmcpkagpaiaaGreatDoor.cellSound
open Go
theorem cWf : Rows.cellSoundRow.wfByText (OpenSpec.ofChange Rows.cellSoundSpec) = true := by kernel_rfl
theorem cMain : Tryz.pinned.checked.prog.mainIs = some (true, "32c1b34041b5aa412e0fcfd4b48bd88f7494e341d9de23ac1fa29aded474c492".toList) := by kernel_rfl
theorem cName : Tryz.prog.funcNamed "playpen/playpenlaw23.CellSound" = some 4 := by kernel_rfl
end Go.Proofs.YtfplmcpkagpaiaaGreatDoor.cellSound
end
section
namespace Go.Proofs.YtfplmcpkagpaiaaGreatDoor.cellSound
open Go
theorem cLooks : true = Tryz.pinned.checked.prog.looks [] := by kernel_rfl
theorem cStand28 : Tryz.pinned.checked.prog.wantsStandIn 28 = false := by kernel_rfl
end Go.Proofs.YtfplmcpkagpaiaaGreatDoor.cellSound
end
