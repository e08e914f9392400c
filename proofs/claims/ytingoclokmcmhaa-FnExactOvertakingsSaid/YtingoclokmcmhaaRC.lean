/- The walk of cmp.Compare at int. -/
import Derived.Test.YtingoclokmcmhaaB1
namespace Go.Proofs.Ytingoclokmcmhaa
open Go Go.Am
set_option maxRecDepth 100000
set_option maxHeartbeats 4000000
attribute [local irreducible] amOps amC opCall opIndexAddr opPick retQ opMake opStore amDraw opAppend opLoad opNilCmp opIndex opSlice

def cmpI (x y : Int) : Int := if x < y then -1 else if y < x then 1 else 0
end Go.Proofs.Ytingoclokmcmhaa

