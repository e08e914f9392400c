/- The walk of cmp.Or at int. -/
import Derived.Test.YtingoclokmcmhaaT4
import Derived.Test.YtingoclokmcmhaaRC
namespace Go.Proofs.Ytingoclokmcmhaa
open Go Go.Am
set_option maxRecDepth 100000
set_option maxHeartbeats 4000000
attribute [local irreducible] amOps amC opCall opIndexAddr opPick retQ opMake opStore amDraw opAppend opLoad opNilCmp opIndex opSlice

def orF : List Int → Int
  | [] => 0
  | v :: l => if v = 0 then orF l else v
end Go.Proofs.Ytingoclokmcmhaa

