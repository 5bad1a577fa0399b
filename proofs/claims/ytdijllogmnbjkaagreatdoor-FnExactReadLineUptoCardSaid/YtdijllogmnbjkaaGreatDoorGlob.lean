/- The package's variables that calls lean on: a length, two errors, the powers of ten. -/
import Derived.Test.YtdijllogmnbjkaaGreatDoorBase
import Derived.Lib.ItoaNum
namespace Go.Proofs.YtdijllogmnbjkaaGreatDoor.A
open Go
/-- package-level variables that calls lean on: block, what its cells are -/
def globs : List (Nat × (Array Value → Prop)) :=
  [(0, fun cs => ∃ m, cs = #[.int .i64 m]), (1, fun cs => ∃ v, cs = #[v] ∧ (v = .nilIface ∨ ∃ t p, v = .iface t p)), (2, fun cs => ∃ v, cs = #[v] ∧ (v = .nilIface ∨ ∃ t p, v = .iface t p)),
   (5, fun cs => cs = (Lib.pow10Tab.map fun z => Value.int .u64 z).toArray)]
end Go.Proofs.YtdijllogmnbjkaaGreatDoor.A
