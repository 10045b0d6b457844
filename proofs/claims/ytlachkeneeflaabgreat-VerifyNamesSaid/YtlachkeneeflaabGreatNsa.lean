/-
  An evaluation.
-/
import Derived.Test.YtlachkeneeflaabGreatNi
section
namespace Go.Proofs.YtlachkeneeflaabGreat
open Go Go.Sim
set_option maxRecDepth 1000000
theorem sum_0 : pureV E2 (ev E2 400) 21 false (sumT.getD 0 ([], .poison)).1 = some (sumT.getD 0 ([], .poison)).2 := by kernel_rfl
end Go.Proofs.YtlachkeneeflaabGreat
end
