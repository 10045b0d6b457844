/-
  PoolNone, reckoned: pools that are nil or that nobody made.
-/
import Derived.Test.YtfbaaaalfolnnacNa
section
namespace Go.Proofs.Ytfbaaaalfolnnac
open Go Go.Sim
set_option maxRecDepth 1000000
theorem none_eval (x0 x1 x2 x3 : Int) (n1 n2 : Nat) : pureV E (ev E 200) 3 false [.agg [.int .i64 x0, .int .i64 x1, .int .i64 x2, .int .u32 x3, .scon [] 0 n1 false, .scon [] 0 n2 false]] = some (.bool true) := by kernel_rfl
end Go.Proofs.Ytfbaaaalfolnnac
end
