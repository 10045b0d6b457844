/-
 CellSound: the cells of the row.
-/
import Derived.Test.YtfplmcpkagpaiaaGreatDoorLa
import Derived.Test.YtfplmcpkagpaiaaGreatDoorLb
import Derived.Test.YtfplmcpkagpaiaaGreatDoorLc
import Derived.Test.YtfplmcpkagpaiaaGreatDoorLd
import Derived.WalkKit
import Derived.ProofKit
import Derived.OpenShut
import Derived.Stop.Joined
set_option maxRecDepth 100000
set_option linter.unusedSimpArgs false
set_option linter.unusedVariables false
section
namespace Go.Proofs.YtfplmcpkagpaiaaGreatDoor.cellSound
open Go
theorem closed : joinedFacts Tryz.pinned.checked.prog 4 Tryz.f4 Rows.cellSoundSpec Rows.cellSoundRow = true := by
 unfold joinedFacts
 rw [inP, unf, rcs, nam]
 kernel_rfl
end Go.Proofs.YtfplmcpkagpaiaaGreatDoor.cellSound
end
