/- The package's tables that calls lean on: none here. -/
import Derived.Test.YtimbkhphcnehmaaBase
namespace Go.Proofs.Ytimbkhphcnehmaa.A
open Go
/-- package-level variables that calls lean on: block, what its cells are -/
def globs : List (Nat × (Array Value → Prop)) := []
end Go.Proofs.Ytimbkhphcnehmaa.A
