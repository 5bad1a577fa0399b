/- The package's tables that calls lean on: the powers of ten. -/
import Derived.Test.YtmgkinebhllhhaaDoorBase
import Derived.Lib.ItoaNum
namespace Go.Proofs.YtmgkinebhllhhaaDoor.A
open Go
/-- package-level tables: block, cells -/
def globs : List (Nat × List Value) := [(1, Lib.pow10Tab.map fun z => Value.int .u64 z)]
end Go.Proofs.YtmgkinebhllhhaaDoor.A
