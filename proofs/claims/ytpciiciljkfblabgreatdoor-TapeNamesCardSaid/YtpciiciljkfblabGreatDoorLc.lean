/-
  TapeNames: a cell of the row, by the kernel.
-/
import Derived.Test.YtpciiciljkfblabGreatDoorRows
section
namespace Go.Proofs.YtpciiciljkfblabGreatDoor.tapeNames
open Go
set_option maxRecDepth 100000
theorem rcs : Tryz.pinned.checked.prog.recurses 3 = true := by kernel_rfl
end Go.Proofs.YtpciiciljkfblabGreatDoor.tapeNames
end
