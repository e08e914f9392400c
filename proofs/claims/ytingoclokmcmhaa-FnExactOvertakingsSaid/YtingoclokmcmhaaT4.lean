/- The walk of the length of a line; what the runs of a valid line add up to. -/
import Derived.Test.YtingoclokmcmhaaT3
namespace Go.Proofs.Ytingoclokmcmhaa
open Go Go.Am
set_option maxRecDepth 100000
set_option maxHeartbeats 4000000
attribute [local irreducible] amOps amC opCall opIndexAddr opPick retQ opMake opStore amDraw opAppend opLoad opNilCmp opIndex opSlice

end Go.Proofs.Ytingoclokmcmhaa

