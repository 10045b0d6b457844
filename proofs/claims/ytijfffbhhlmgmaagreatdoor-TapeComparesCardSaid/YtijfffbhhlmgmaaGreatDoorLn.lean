/-
 TapeCompares: the cells of the row.
-/
import Derived.Test.YtijfffbhhlmgmaaGreatDoorLa
import Derived.Test.YtijfffbhhlmgmaaGreatDoorLb
import Derived.Test.YtijfffbhhlmgmaaGreatDoorLc
import Derived.Test.YtijfffbhhlmgmaaGreatDoorLd
import Derived.WalkKit
import Derived.ProofKit
import Derived.OpenShut
import Derived.Stop.Joined
section
namespace Go.Proofs.YtijfffbhhlmgmaaGreatDoor.tapeCompares
open Go
set_option linter.unusedVariables false
set_option maxRecDepth 100000
theorem closed : joinedFacts Tryz.pinned.checked.prog 3 Tryz.f3 Rows.tapeComparesSpec Rows.tapeComparesRow = true := by
 unfold joinedFacts
 rw [inP, unf, rcs, nam]
 kernel_rfl
end Go.Proofs.YtijfffbhhlmgmaaGreatDoor.tapeCompares
end
