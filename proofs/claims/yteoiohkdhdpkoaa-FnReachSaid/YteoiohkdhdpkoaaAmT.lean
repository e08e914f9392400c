/- The package variables that lie in memory from the start on, by their blocks: none here. -/
import Derived.WalkKit
namespace Go.Am
open Go

/-- Blocks of package variables with their cells. -/
def tabs : List (Nat × Array Value) := []
end Go.Am

