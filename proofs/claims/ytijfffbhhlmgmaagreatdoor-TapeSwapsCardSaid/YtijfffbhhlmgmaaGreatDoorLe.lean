/-
  TapeSwaps: cells of the card, by the kernel.
  TapeSwaps: cells of the card, by the kernel.
-/
import Derived.Test.YtijfffbhhlmgmaaGreatDoorRows
import GoSem.ClaimSeven
import Derived.SevenTiedAt
section
namespace Go.Proofs.YtijfffbhhlmgmaaGreatDoor.tapeSwaps
open Go
set_option maxRecDepth 100000
theorem cWf : Rows.tapeSwapsRow.wfByText (OpenSpec.ofChange Rows.tapeSwapsSpec) = true := by kernel_rfl
theorem cMain : Tryz.pinned.checked.prog.mainIs = some (true, "bc8d2d5d981cb3bea2dfb76752c9e6d352c38367628e9a79c796d12c253d9c2d".toList) := by kernel_rfl
theorem cName : Tryz.prog.funcNamed "playpen/playpenlaw27.TapeSwaps" = some 4 := by kernel_rfl
end Go.Proofs.YtijfffbhhlmgmaaGreatDoor.tapeSwaps
end
section
namespace Go.Proofs.YtijfffbhhlmgmaaGreatDoor.tapeSwaps
open Go
set_option maxRecDepth 100000
theorem cLooks : true = Tryz.pinned.checked.prog.looks [] := by kernel_rfl
theorem cStand : Tryz.pinned.checked.prog.wantsStandIn 26 = false := by kernel_rfl
theorem cStand3 : Tryz.pinned.checked.prog.wantsStandIn 3 = false := by kernel_rfl
end Go.Proofs.YtijfffbhhlmgmaaGreatDoor.tapeSwaps
end
