/-
  ThreadNames: cells of the card, by the kernel.
  ThreadNames: cells of the card, by the kernel.
-/
import Derived.Test.YtpciiciljkfblaaGreatDoorRows
import GoSem.ClaimSeven
import Derived.SevenTiedAt
section
namespace Go.Proofs.YtpciiciljkfblaaGreatDoor.threadNames
open Go
set_option maxRecDepth 100000
theorem cWf : Rows.threadNamesRow.wfByText (OpenSpec.ofChange Rows.threadNamesSpec) = true := by kernel_rfl
theorem cMain : Tryz.pinned.checked.prog.mainIs = some (true, "f579e3284a47d561ea7bbe19e3450de7054aaeb86340d9fa3a99f1e2dbb570bb".toList) := by kernel_rfl
theorem cName : Tryz.prog.funcNamed "playpen/playpenlaw24.ThreadNames" = some 3 := by kernel_rfl
end Go.Proofs.YtpciiciljkfblaaGreatDoor.threadNames
end
section
namespace Go.Proofs.YtpciiciljkfblaaGreatDoor.threadNames
open Go
set_option maxRecDepth 100000
theorem cLooks : true = Tryz.pinned.checked.prog.looks [] := by kernel_rfl
end Go.Proofs.YtpciiciljkfblaaGreatDoor.threadNames
end
