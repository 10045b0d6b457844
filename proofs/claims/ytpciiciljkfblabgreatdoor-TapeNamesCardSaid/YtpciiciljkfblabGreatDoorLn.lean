/-
  TapeNames: the cells of the row.
-/
import Derived.Test.YtpciiciljkfblabGreatDoorLa
import Derived.Test.YtpciiciljkfblabGreatDoorLb
import Derived.Test.YtpciiciljkfblabGreatDoorLc
import Derived.Test.YtpciiciljkfblabGreatDoorLd
import Derived.WalkKit
import Derived.ProofKit
import Derived.OpenShut
import Derived.Stop.Joined
section
namespace Go.Proofs.YtpciiciljkfblabGreatDoor.tapeNames
open Go
set_option linter.unusedVariables false
set_option maxRecDepth 100000
theorem closed : joinedFacts Tryz.pinned.checked.prog 3 Tryz.f3 Rows.tapeNamesSpec Rows.tapeNamesRow = true := by
  unfold joinedFacts
  rw [inP, unf, rcs, nam]
  kernel_rfl
end Go.Proofs.YtpciiciljkfblabGreatDoor.tapeNames
end
