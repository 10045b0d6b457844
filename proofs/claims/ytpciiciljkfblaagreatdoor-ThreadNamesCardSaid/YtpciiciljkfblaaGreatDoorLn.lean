/-
  ThreadNames: the cells of the row.
-/
import Derived.Test.YtpciiciljkfblaaGreatDoorLa
import Derived.Test.YtpciiciljkfblaaGreatDoorLb
import Derived.Test.YtpciiciljkfblaaGreatDoorLc
import Derived.Test.YtpciiciljkfblaaGreatDoorLd
import Derived.WalkKit
import Derived.ProofKit
import Derived.OpenShut
import Derived.Stop.Joined
section
namespace Go.Proofs.YtpciiciljkfblaaGreatDoor.threadNames
open Go
set_option linter.unusedVariables false
set_option maxRecDepth 100000
theorem closed : joinedFacts Tryz.pinned.checked.prog 3 Tryz.f3 Rows.threadNamesSpec Rows.threadNamesRow = true := by
  unfold joinedFacts
  rw [inP, unf, rcs, nam]
  kernel_rfl
end Go.Proofs.YtpciiciljkfblaaGreatDoor.threadNames
end
