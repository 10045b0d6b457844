/-
 TapeCompares: cells of the card, by the kernel.
 TapeCompares: cells of the card, by the kernel.
-/
import Derived.Test.YtijfffbhhlmgmaaGreatDoorRows
import GoSem.ClaimSeven
import Derived.SevenTiedAt
section
namespace Go.Proofs.YtijfffbhhlmgmaaGreatDoor.tapeCompares
open Go
set_option maxRecDepth 100000
theorem cWf : Rows.tapeComparesRow.wfByText (OpenSpec.ofChange Rows.tapeComparesSpec) = true := by kernel_rfl
theorem cMain : Tryz.pinned.checked.prog.mainIs = some (true, "bc8d2d5d981cb3bea2dfb76752c9e6d352c38367628e9a79c796d12c253d9c2d".toList) := by kernel_rfl
theorem cName : Tryz.prog.funcNamed "playpen/playpenlaw27.TapeCompares" = some 3 := by kernel_rfl
end Go.Proofs.YtijfffbhhlmgmaaGreatDoor.tapeCompares
end
section
namespace Go.Proofs.YtijfffbhhlmgmaaGreatDoor.tapeCompares
open Go
set_option maxRecDepth 100000
theorem cLooks : true = Tryz.pinned.checked.prog.looks [] := by kernel_rfl
theorem cStand : Tryz.pinned.checked.prog.wantsStandIn 26 = false := by kernel_rfl
end Go.Proofs.YtijfffbhhlmgmaaGreatDoor.tapeCompares
end
