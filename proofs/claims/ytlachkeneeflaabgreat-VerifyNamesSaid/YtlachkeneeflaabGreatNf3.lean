/-
  An evaluation.
-/
import Derived.Test.YtlachkeneeflaabGreatNi
section
namespace Go.Proofs.YtlachkeneeflaabGreat
open Go Go.Sim
set_option maxRecDepth 1000000
theorem find_3 : pureV E2 (ev E2 400) 17 false (findT.getD 3 ([], .poison)).1 = some (findT.getD 3 ([], .poison)).2 := by kernel_rfl
end Go.Proofs.YtlachkeneeflaabGreat
end
