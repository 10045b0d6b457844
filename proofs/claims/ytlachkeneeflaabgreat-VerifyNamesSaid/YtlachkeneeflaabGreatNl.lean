/-
  An evaluation.
-/
import Derived.Test.YtlachkeneeflaabGreatNi
section
namespace Go.Proofs.YtlachkeneeflaabGreat
open Go Go.Sim
set_option maxRecDepth 1000000
theorem names_eval : pureV E3 (ev E3 400) 3 false [] = some (.bool true) := by kernel_rfl
end Go.Proofs.YtlachkeneeflaabGreat
end
