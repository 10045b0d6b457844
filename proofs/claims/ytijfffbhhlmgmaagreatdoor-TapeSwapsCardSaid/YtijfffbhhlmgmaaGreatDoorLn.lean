/-
  TapeSwaps: the cells of the row.
-/
import Derived.Test.YtijfffbhhlmgmaaGreatDoorLa
import Derived.Test.YtijfffbhhlmgmaaGreatDoorLb
import Derived.Test.YtijfffbhhlmgmaaGreatDoorLc
import Derived.Test.YtijfffbhhlmgmaaGreatDoorLd
import Derived.WalkKit
import Derived.ProofKit
import Derived.OpenShut
import Derived.Stop.Joined
section
namespace Go.Proofs.YtijfffbhhlmgmaaGreatDoor.tapeSwaps
open Go
set_option linter.unusedVariables false
set_option maxRecDepth 100000
theorem closed : joinedFacts Tryz.pinned.checked.prog 4 Tryz.f4 Rows.tapeSwapsSpec Rows.tapeSwapsRow = true := by
  unfold joinedFacts
  rw [inP, unf, rcs, nam]
  kernel_rfl
end Go.Proofs.YtijfffbhhlmgmaaGreatDoor.tapeSwaps
end
