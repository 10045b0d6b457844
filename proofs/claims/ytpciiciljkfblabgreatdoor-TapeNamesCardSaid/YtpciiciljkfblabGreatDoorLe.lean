/-
  TapeNames: cells of the card, by the kernel.
  TapeNames: cells of the card, by the kernel.
-/
import Derived.Test.YtpciiciljkfblabGreatDoorRows
import GoSem.ClaimSeven
import Derived.SevenTiedAt
section
namespace Go.Proofs.YtpciiciljkfblabGreatDoor.tapeNames
open Go
set_option maxRecDepth 100000
theorem cWf : Rows.tapeNamesRow.wfByText (OpenSpec.ofChange Rows.tapeNamesSpec) = true := by kernel_rfl
theorem cMain : Tryz.pinned.checked.prog.mainIs = some (true, "11b4ac5cefed2460f42da7355bc1a2da92b01e8bab06a05fcbb59898d344c36b".toList) := by kernel_rfl
theorem cName : Tryz.prog.funcNamed "playpen/playpenlaw27.TapeNames" = some 3 := by kernel_rfl
end Go.Proofs.YtpciiciljkfblabGreatDoor.tapeNames
end
section
namespace Go.Proofs.YtpciiciljkfblabGreatDoor.tapeNames
open Go
set_option maxRecDepth 100000
theorem cLooks : true = Tryz.pinned.checked.prog.looks [] := by kernel_rfl
end Go.Proofs.YtpciiciljkfblabGreatDoor.tapeNames
end
