/-
  An evaluation.
-/
import Derived.Test.YtlachkeneeflaabGreatNi
section
namespace Go.Proofs.YtlachkeneeflaabGreat
open Go Go.Sim
set_option maxRecDepth 1000000
theorem info_eval : (List.range 60).map (fun n => pureV E (ev E 400) 67 false [.int .u8 (.ofNat n)]) = infoT.map some := by kernel_rfl
end Go.Proofs.YtlachkeneeflaabGreat
end
