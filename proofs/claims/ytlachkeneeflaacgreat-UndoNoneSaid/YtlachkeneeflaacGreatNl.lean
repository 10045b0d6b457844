/-
  UndoNone, reckoned: runs that are nil or that nobody made.
-/
import Derived.Test.YtlachkeneeflaacGreatNa
section
namespace Go.Proofs.YtlachkeneeflaacGreat
open Go Go.Sim
set_option maxRecDepth 1000000
theorem none_eval (o k n p q : Int) (n1 n2 n3 : Nat) : pureV E (ev E 200) 3 false [.agg [.int .i64 o, .int .i64 k, .int .i64 n, .int .u32 p, .scon [] 0 n1 false, .scon [] 0 n2 false], .scon [] 0 n3 false, .int .i64 q] = some (.bool true) := by kernel_rfl
end Go.Proofs.YtlachkeneeflaacGreat
end
