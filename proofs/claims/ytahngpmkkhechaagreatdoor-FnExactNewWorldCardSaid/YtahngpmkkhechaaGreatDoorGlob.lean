/- The package's variables that calls lean on: two errors, the powers of ten. -/
import Derived.Test.YtahngpmkkhechaaGreatDoorBase
import Derived.Lib.ItoaNum
namespace Go.Proofs.YtahngpmkkhechaaGreatDoor.A
open Go
/-- package-level variables that calls lean on: block, what its cells are -/
def globs : List (Nat × (Array Value → Prop)) :=
  [(1, fun cs => ∃ v, cs = #[v] ∧ (v = .nilIface ∨ ∃ t p, v = .iface t p)), (2, fun cs => ∃ v, cs = #[v] ∧ (v = .nilIface ∨ ∃ t p, v = .iface t p)),
   (3, fun cs => cs = (Lib.pow10Tab.map fun z => Value.int .u64 z).toArray)]
end Go.Proofs.YtahngpmkkhechaaGreatDoor.A
