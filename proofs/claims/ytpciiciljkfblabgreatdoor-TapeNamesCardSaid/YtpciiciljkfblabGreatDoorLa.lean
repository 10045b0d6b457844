/-
  TapeNames: a cell of the row, by the kernel.
-/
import Derived.Test.YtpciiciljkfblabGreatDoorRows
section
namespace Go.Proofs.YtpciiciljkfblabGreatDoor.tapeNames
open Go
set_option maxRecDepth 100000
theorem inP : Tryz.pinned.checked.prog.inPlace 3 = ["math.Float32frombits", "math.Float32bits"] := by kernel_rfl
end Go.Proofs.YtpciiciljkfblabGreatDoor.tapeNames
end
