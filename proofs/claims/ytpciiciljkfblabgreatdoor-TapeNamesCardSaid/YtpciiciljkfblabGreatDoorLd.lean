/-
  TapeNames: a cell of the row, by the kernel.
-/
import Derived.Test.YtpciiciljkfblabGreatDoorRows
section
namespace Go.Proofs.YtpciiciljkfblabGreatDoor.tapeNames
open Go
set_option maxRecDepth 100000
theorem nam : Tryz.pinned.checked.prog.varsNamed 3 = ["math/bits.deBruijn64tab"] := by kernel_rfl
end Go.Proofs.YtpciiciljkfblabGreatDoor.tapeNames
end
