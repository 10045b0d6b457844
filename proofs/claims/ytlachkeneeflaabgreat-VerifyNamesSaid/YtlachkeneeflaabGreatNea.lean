/-
  An evaluation.
-/
import Derived.Test.YtlachkeneeflaabGreatNi
section
namespace Go.Proofs.YtlachkeneeflaabGreat
open Go Go.Sim
set_option maxRecDepth 1000000
theorem enc_0 : pureV E2 (ev E2 400) 20 false (encT.getD 0 ([], .poison)).1 = some (encT.getD 0 ([], .poison)).2 := by kernel_rfl
end Go.Proofs.YtlachkeneeflaabGreat
end
