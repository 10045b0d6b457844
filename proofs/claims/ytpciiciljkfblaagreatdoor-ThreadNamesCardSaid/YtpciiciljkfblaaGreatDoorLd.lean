/-
  ThreadNames: a cell of the row, by the kernel.
-/
import Derived.Test.YtpciiciljkfblaaGreatDoorRows
section
namespace Go.Proofs.YtpciiciljkfblaaGreatDoor.threadNames
open Go
set_option maxRecDepth 100000
theorem nam : Tryz.pinned.checked.prog.varsNamed 3 = ["math/bits.deBruijn64tab"] := by kernel_rfl
end Go.Proofs.YtpciiciljkfblaaGreatDoor.threadNames
end
