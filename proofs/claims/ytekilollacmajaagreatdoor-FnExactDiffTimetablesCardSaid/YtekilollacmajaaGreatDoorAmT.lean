/- The package variables that lie in memory from the start on, by their blocks: the powers of ten. -/
import Derived.WalkKit
import Derived.Lib.ItoaNum
namespace Go.Am
open Go

/-- Blocks of package variables with their cells. -/
def tabs : List (Nat × Array Value) := [(0, (Lib.pow10Tab.map fun z => Value.int .u64 z).toArray)]
end Go.Am

