/-
  No cell of these rows narrows 'for every input' (looked for: loops, veiled, ifaces, maps, wideKeys, modest, calm, conditions, laid).
  DERIVED. THE GIVEN ROWS OF THIS SEAT. 10 by the template 'for every input the law returns true; each argument reads behind the call as it read before'; 0 by the template 'total and deterministic' (their statements: YtnjojepeilgikaaTotals.lean).
  GIVEN WITH THE SEED: the statements are not yours to turn. If you find one false, say at which input.
  Laid BY PROGRAM, IN A SANDBOX (cutbox-rows.mjs): the forced cells as the released guide's own fill.sh prints them over the translation a681ddb6efbb300a… (all of the seat's roots in one cut). By AI agents, Wed Nov 11 2026. No macro, syntax, notation, axiom, sorry.
-/
import Derived.Test.YtnjojepeilgikaaChecked
import GoSem.Claim
import GoSem.ClaimJoined
import GoSem.ClaimMapViews
import Derived.JoinedTies
import Derived.KernelRfl
namespace Go.Proofs.Ytnjojepeilgikaa
/- THE CELL 'sum', in the pinned program and in every row, IS THE sha256 OF THE DUMP (.gsa) THAT YtnjojepeilgikaaProg.lean LOADS. Nothing in Lean hashes anything: it is a label: what it is worth is what the hold of that sum in a sandbox is worth. -/
noncomputable def Try.pinned : Pinned := { name := "ytnjojepeilgikaa", sum := "a681ddb6efbb300a62cc9eced7cd75095d96c15564f7e4d7e7ca8b3f21ca2412", checked := Try.checked }
namespace Rows
def none {H : Type} : Left H := { results := [], args := [] }

/-- 'laws.FnExactIsValidVisits': WHATEVER THE INPUT: true; the input reads as it did. -/
def fnExactIsValidVisitsSpec : ChangeSpec := { name := "fnExactIsValidVisits", fn := fun _ => fun
  | [d] => { results := [.lit (.bool true)], args := [d] }
  | _ => none }
def fnExactIsValidVisitsRow : OpenClaim := { program := "ytnjojepeilgikaa", sum := "a681ddb6efbb300a62cc9eced7cd75095d96c15564f7e4d7e7ca8b3f21ca2412", func := "loop.example/g00900/laws.FnExactIsValidVisits", spec := "fnExactIsValidVisits", apart := false }
def FnExactIsValidVisitsSaid : Prop := fnExactIsValidVisitsRow.holds Try.pinned (OpenSpec.ofChange fnExactIsValidVisitsSpec)

/-- ITS FALSE NEIGHBOUR: 'it returns false'. Refute it at one input. -/
def fnExactIsValidVisitsWrong : ChangeSpec := { name := "fnExactIsValidVisits", fn := fun _ => fun
  | [d] => { results := [.lit (.bool false)], args := [d] }
  | _ => none }
def FnExactIsValidVisitsWrongFalsely : Prop := fnExactIsValidVisitsRow.holds Try.pinned (OpenSpec.ofChange fnExactIsValidVisitsWrong)

/-- 'laws.FnExactMeanDelay': WHATEVER THE INPUT: true; the input reads as it did. -/
def fnExactMeanDelaySpec : ChangeSpec := { name := "fnExactMeanDelay", fn := fun _ => fun
  | [d] => { results := [.lit (.bool true)], args := [d] }
  | _ => none }
def fnExactMeanDelayRow : OpenClaim := { program := "ytnjojepeilgikaa", sum := "a681ddb6efbb300a62cc9eced7cd75095d96c15564f7e4d7e7ca8b3f21ca2412", func := "loop.example/g00900/laws.FnExactMeanDelay", spec := "fnExactMeanDelay", apart := false }
def FnExactMeanDelaySaid : Prop := fnExactMeanDelayRow.holds Try.pinned (OpenSpec.ofChange fnExactMeanDelaySpec)

/-- ITS FALSE NEIGHBOUR: 'it returns false'. Refute it at one input. -/
def fnExactMeanDelayWrong : ChangeSpec := { name := "fnExactMeanDelay", fn := fun _ => fun
  | [d] => { results := [.lit (.bool false)], args := [d] }
  | _ => none }
def FnExactMeanDelayWrongFalsely : Prop := fnExactMeanDelayRow.holds Try.pinned (OpenSpec.ofChange fnExactMeanDelayWrong)

/-- 'laws.FnExactPunctualShare': WHATEVER THE INPUT: true; the input reads as it did. -/
def fnExactPunctualShareSpec : ChangeSpec := { name := "fnExactPunctualShare", fn := fun _ => fun
  | [d1, d2, d3] => { results := [.lit (.bool true)], args := [d1, d2, d3] }
  | _ => none }
def fnExactPunctualShareRow : OpenClaim := { program := "ytnjojepeilgikaa", sum := "a681ddb6efbb300a62cc9eced7cd75095d96c15564f7e4d7e7ca8b3f21ca2412", func := "loop.example/g00900/laws.FnExactPunctualShare", spec := "fnExactPunctualShare", unfollowed := true, recurses := true, apart := false }
def FnExactPunctualShareSaid : Prop := fnExactPunctualShareRow.holds Try.pinned (OpenSpec.ofChange fnExactPunctualShareSpec)

/-- ITS FALSE NEIGHBOUR: 'it returns false'. Refute it at one input. -/
def fnExactPunctualShareWrong : ChangeSpec := { name := "fnExactPunctualShare", fn := fun _ => fun
  | [d1, d2, d3] => { results := [.lit (.bool false)], args := [d1, d2, d3] }
  | _ => none }
def FnExactPunctualShareWrongFalsely : Prop := fnExactPunctualShareRow.holds Try.pinned (OpenSpec.ofChange fnExactPunctualShareWrong)

/-- 'laws.FnExactPersonShare': WHATEVER THE INPUT: true; the input reads as it did. -/
def fnExactPersonShareSpec : ChangeSpec := { name := "fnExactPersonShare", fn := fun _ => fun
  | [d1, d2, d3] => { results := [.lit (.bool true)], args := [d1, d2, d3] }
  | _ => none }
def fnExactPersonShareRow : OpenClaim := { program := "ytnjojepeilgikaa", sum := "a681ddb6efbb300a62cc9eced7cd75095d96c15564f7e4d7e7ca8b3f21ca2412", func := "loop.example/g00900/laws.FnExactPersonShare", spec := "fnExactPersonShare", unfollowed := true, recurses := true, apart := false }
def FnExactPersonShareSaid : Prop := fnExactPersonShareRow.holds Try.pinned (OpenSpec.ofChange fnExactPersonShareSpec)

/-- ITS FALSE NEIGHBOUR: 'it returns false'. Refute it at one input. -/
def fnExactPersonShareWrong : ChangeSpec := { name := "fnExactPersonShare", fn := fun _ => fun
  | [d1, d2, d3] => { results := [.lit (.bool false)], args := [d1, d2, d3] }
  | _ => none }
def FnExactPersonShareWrongFalsely : Prop := fnExactPersonShareRow.holds Try.pinned (OpenSpec.ofChange fnExactPersonShareWrong)

/-- 'laws.FnExactShiftVisits': WHATEVER THE INPUT: true; the input reads as it did. -/
def fnExactShiftVisitsSpec : ChangeSpec := { name := "fnExactShiftVisits", fn := fun _ => fun
  | [d1, d2] => { results := [.lit (.bool true)], args := [d1, d2] }
  | _ => none }
def fnExactShiftVisitsRow : OpenClaim := { program := "ytnjojepeilgikaa", sum := "a681ddb6efbb300a62cc9eced7cd75095d96c15564f7e4d7e7ca8b3f21ca2412", func := "loop.example/g00900/laws.FnExactShiftVisits", spec := "fnExactShiftVisits", apart := false }
def FnExactShiftVisitsSaid : Prop := fnExactShiftVisitsRow.holds Try.pinned (OpenSpec.ofChange fnExactShiftVisitsSpec)

/-- ITS FALSE NEIGHBOUR: 'it returns false'. Refute it at one input. -/
def fnExactShiftVisitsWrong : ChangeSpec := { name := "fnExactShiftVisits", fn := fun _ => fun
  | [d1, d2] => { results := [.lit (.bool false)], args := [d1, d2] }
  | _ => none }
def FnExactShiftVisitsWrongFalsely : Prop := fnExactShiftVisitsRow.holds Try.pinned (OpenSpec.ofChange fnExactShiftVisitsWrong)

/-- 'laws.FnExactWorstStop': WHATEVER THE INPUT: true; the input reads as it did. -/
def fnExactWorstStopSpec : ChangeSpec := { name := "fnExactWorstStop", fn := fun _ => fun
  | [d1, d2, d3] => { results := [.lit (.bool true)], args := [d1, d2, d3] }
  | _ => none }
def fnExactWorstStopRow : OpenClaim := { program := "ytnjojepeilgikaa", sum := "a681ddb6efbb300a62cc9eced7cd75095d96c15564f7e4d7e7ca8b3f21ca2412", func := "loop.example/g00900/laws.FnExactWorstStop", spec := "fnExactWorstStop", unfollowed := true, recurses := true, apart := false }
def FnExactWorstStopSaid : Prop := fnExactWorstStopRow.holds Try.pinned (OpenSpec.ofChange fnExactWorstStopSpec)

/-- ITS FALSE NEIGHBOUR: 'it returns false'. Refute it at one input. -/
def fnExactWorstStopWrong : ChangeSpec := { name := "fnExactWorstStop", fn := fun _ => fun
  | [d1, d2, d3] => { results := [.lit (.bool false)], args := [d1, d2, d3] }
  | _ => none }
def FnExactWorstStopWrongFalsely : Prop := fnExactWorstStopRow.holds Try.pinned (OpenSpec.ofChange fnExactWorstStopWrong)

/-- 'laws.FnExactBestBuffer': WHATEVER THE INPUT: true; the input reads as it did. -/
def fnExactBestBufferSpec : ChangeSpec := { name := "fnExactBestBuffer", fn := fun _ => fun
  | [d1, d2, d3, d4] => { results := [.lit (.bool true)], args := [d1, d2, d3, d4] }
  | _ => none }
def fnExactBestBufferRow : OpenClaim := { program := "ytnjojepeilgikaa", sum := "a681ddb6efbb300a62cc9eced7cd75095d96c15564f7e4d7e7ca8b3f21ca2412", func := "loop.example/g00900/laws.FnExactBestBuffer", spec := "fnExactBestBuffer", unfollowed := true, recurses := true, apart := false }
def FnExactBestBufferSaid : Prop := fnExactBestBufferRow.holds Try.pinned (OpenSpec.ofChange fnExactBestBufferSpec)

/-- ITS FALSE NEIGHBOUR: 'it returns false'. Refute it at one input. -/
def fnExactBestBufferWrong : ChangeSpec := { name := "fnExactBestBuffer", fn := fun _ => fun
  | [d1, d2, d3, d4] => { results := [.lit (.bool false)], args := [d1, d2, d3, d4] }
  | _ => none }
def FnExactBestBufferWrongFalsely : Prop := fnExactBestBufferRow.holds Try.pinned (OpenSpec.ofChange fnExactBestBufferWrong)

/-- 'laws.FnShares': WHATEVER THE INPUT: true; the input reads as it did. -/
def fnSharesSpec : ChangeSpec := { name := "fnShares", fn := fun _ => fun
  | [d] => { results := [.lit (.bool true)], args := [d] }
  | _ => none }
def fnSharesRow : OpenClaim := { program := "ytnjojepeilgikaa", sum := "a681ddb6efbb300a62cc9eced7cd75095d96c15564f7e4d7e7ca8b3f21ca2412", func := "loop.example/g00900/laws.FnShares", spec := "fnShares", unfollowed := true, recurses := true, apart := false }
def FnSharesSaid : Prop := fnSharesRow.holds Try.pinned (OpenSpec.ofChange fnSharesSpec)

/-- ITS FALSE NEIGHBOUR: 'it returns false'. Refute it at one input. -/
def fnSharesWrong : ChangeSpec := { name := "fnShares", fn := fun _ => fun
  | [d] => { results := [.lit (.bool false)], args := [d] }
  | _ => none }
def FnSharesWrongFalsely : Prop := fnSharesRow.holds Try.pinned (OpenSpec.ofChange fnSharesWrong)

/-- 'laws.FnExactDelayQuantile': WHATEVER THE INPUT: true; the input reads as it did. -/
def fnExactDelayQuantileSpec : ChangeSpec := { name := "fnExactDelayQuantile", fn := fun _ => fun
  | [d1, d2, d3] => { results := [.lit (.bool true)], args := [d1, d2, d3] }
  | _ => none }
def fnExactDelayQuantileRow : OpenClaim := { program := "ytnjojepeilgikaa", sum := "a681ddb6efbb300a62cc9eced7cd75095d96c15564f7e4d7e7ca8b3f21ca2412", func := "loop.example/g00900/laws.FnExactDelayQuantile", spec := "fnExactDelayQuantile", recurses := true, apart := false }
def FnExactDelayQuantileSaid : Prop := fnExactDelayQuantileRow.holds Try.pinned (OpenSpec.ofChange fnExactDelayQuantileSpec)

/-- ITS FALSE NEIGHBOUR: 'it returns false'. Refute it at one input. -/
def fnExactDelayQuantileWrong : ChangeSpec := { name := "fnExactDelayQuantile", fn := fun _ => fun
  | [d1, d2, d3] => { results := [.lit (.bool false)], args := [d1, d2, d3] }
  | _ => none }
def FnExactDelayQuantileWrongFalsely : Prop := fnExactDelayQuantileRow.holds Try.pinned (OpenSpec.ofChange fnExactDelayQuantileWrong)

/-- 'laws.FnExactExcessWait': WHATEVER THE INPUT: true; the input reads as it did. -/
def fnExactExcessWaitSpec : ChangeSpec := { name := "fnExactExcessWait", fn := fun _ => fun
  | [d1, d2] => { results := [.lit (.bool true)], args := [d1, d2] }
  | _ => none }
def fnExactExcessWaitRow : OpenClaim := { program := "ytnjojepeilgikaa", sum := "a681ddb6efbb300a62cc9eced7cd75095d96c15564f7e4d7e7ca8b3f21ca2412", func := "loop.example/g00900/laws.FnExactExcessWait", spec := "fnExactExcessWait", recurses := true, apart := false }
def FnExactExcessWaitSaid : Prop := fnExactExcessWaitRow.holds Try.pinned (OpenSpec.ofChange fnExactExcessWaitSpec)

/-- ITS FALSE NEIGHBOUR: 'it returns false'. Refute it at one input. -/
def fnExactExcessWaitWrong : ChangeSpec := { name := "fnExactExcessWait", fn := fun _ => fun
  | [d1, d2] => { results := [.lit (.bool false)], args := [d1, d2] }
  | _ => none }
def FnExactExcessWaitWrongFalsely : Prop := fnExactExcessWaitRow.holds Try.pinned (OpenSpec.ofChange fnExactExcessWaitWrong)

/- THE SECOND FORM. 'bulk': how many values and letters a reading holds, each counted each time it is reached (what is shared counts as often as it is met; a slice's spare places count too). A statement '..UptoSaid' is the law's where the arguments, and the package variables that the reading takes, are together of bulk at most 1048576: NARROWER than '..Said'. Prove '..Said' where nothing that the law and all that it calls make is longer than what came in: it says more and counts as full. Else prove '..UptoSaid'. A law counts once. -/
mutual
def uptoBulk {H : Type} : DataW H → Nat
  | .lit (.string bytes) => bytes.length + 1
  | .lit _ => 1
  | .nil => 1
  | .ptr d => uptoBulk d + 1
  | .slice elems spare => uptoBulkAll elems + uptoBulkAll spare + 1
  | .agg parts => uptoBulkAll parts + 1
  | .iface _ d => uptoBulk d + 1
  | .map entries => uptoBulkEntries entries + 1
  | .held _ => 1
def uptoBulkAll {H : Type} : List (DataW H) → Nat
  | [] => 0
  | d :: r => uptoBulk d + uptoBulkAll r
def uptoBulkEntries {H : Type} : List (Lit × DataW H) → Nat
  | [] => 0
  | x :: r => uptoBulkEntry x + uptoBulkEntries r
def uptoBulkEntry {H : Type} : Lit × DataW H → Nat
  | (.string bytes, d) => bytes.length + uptoBulk d + 1
  | (_, d) => uptoBulk d + 1
 end
def uptoSmall : (H : Type) → List (DataW H) → Bool := fun _ ds => decide (uptoBulkAll ds ≤ 1048576)
def OpenSpec.upto (s : _root_.Go.ChangeSpec) : _root_.Go.OpenSpec := { _root_.Go.OpenSpec.ofChange s with cond := some uptoSmall }

/-- 'laws.FnExactIsValidVisits', WHERE WHAT IT READS IS OF BULK AT MOST 1048576: true; the input reads as it did. -/
def fnExactIsValidVisitsUptoRow : OpenClaim := { program := "ytnjojepeilgikaa", sum := "a681ddb6efbb300a62cc9eced7cd75095d96c15564f7e4d7e7ca8b3f21ca2412", func := "loop.example/g00900/laws.FnExactIsValidVisits", spec := "fnExactIsValidVisits", apart := false, narrowed := true }
def FnExactIsValidVisitsUptoSaid : Prop := fnExactIsValidVisitsUptoRow.holds Try.pinned (OpenSpec.upto fnExactIsValidVisitsSpec)

/-- 'laws.FnExactMeanDelay', WHERE WHAT IT READS IS OF BULK AT MOST 1048576: true; the input reads as it did. -/
def fnExactMeanDelayUptoRow : OpenClaim := { program := "ytnjojepeilgikaa", sum := "a681ddb6efbb300a62cc9eced7cd75095d96c15564f7e4d7e7ca8b3f21ca2412", func := "loop.example/g00900/laws.FnExactMeanDelay", spec := "fnExactMeanDelay", apart := false, narrowed := true }
def FnExactMeanDelayUptoSaid : Prop := fnExactMeanDelayUptoRow.holds Try.pinned (OpenSpec.upto fnExactMeanDelaySpec)

/-- 'laws.FnExactPunctualShare', WHERE WHAT IT READS IS OF BULK AT MOST 1048576: true; the input reads as it did. -/
def fnExactPunctualShareUptoRow : OpenClaim := { program := "ytnjojepeilgikaa", sum := "a681ddb6efbb300a62cc9eced7cd75095d96c15564f7e4d7e7ca8b3f21ca2412", func := "loop.example/g00900/laws.FnExactPunctualShare", spec := "fnExactPunctualShare", unfollowed := true, recurses := true, apart := false, narrowed := true }
def FnExactPunctualShareUptoSaid : Prop := fnExactPunctualShareUptoRow.holds Try.pinned (OpenSpec.upto fnExactPunctualShareSpec)

/-- 'laws.FnExactPersonShare', WHERE WHAT IT READS IS OF BULK AT MOST 1048576: true; the input reads as it did. -/
def fnExactPersonShareUptoRow : OpenClaim := { program := "ytnjojepeilgikaa", sum := "a681ddb6efbb300a62cc9eced7cd75095d96c15564f7e4d7e7ca8b3f21ca2412", func := "loop.example/g00900/laws.FnExactPersonShare", spec := "fnExactPersonShare", unfollowed := true, recurses := true, apart := false, narrowed := true }
def FnExactPersonShareUptoSaid : Prop := fnExactPersonShareUptoRow.holds Try.pinned (OpenSpec.upto fnExactPersonShareSpec)

/-- 'laws.FnExactShiftVisits', WHERE WHAT IT READS IS OF BULK AT MOST 1048576: true; the input reads as it did. -/
def fnExactShiftVisitsUptoRow : OpenClaim := { program := "ytnjojepeilgikaa", sum := "a681ddb6efbb300a62cc9eced7cd75095d96c15564f7e4d7e7ca8b3f21ca2412", func := "loop.example/g00900/laws.FnExactShiftVisits", spec := "fnExactShiftVisits", apart := false, narrowed := true }
def FnExactShiftVisitsUptoSaid : Prop := fnExactShiftVisitsUptoRow.holds Try.pinned (OpenSpec.upto fnExactShiftVisitsSpec)

/-- 'laws.FnExactWorstStop', WHERE WHAT IT READS IS OF BULK AT MOST 1048576: true; the input reads as it did. -/
def fnExactWorstStopUptoRow : OpenClaim := { program := "ytnjojepeilgikaa", sum := "a681ddb6efbb300a62cc9eced7cd75095d96c15564f7e4d7e7ca8b3f21ca2412", func := "loop.example/g00900/laws.FnExactWorstStop", spec := "fnExactWorstStop", unfollowed := true, recurses := true, apart := false, narrowed := true }
def FnExactWorstStopUptoSaid : Prop := fnExactWorstStopUptoRow.holds Try.pinned (OpenSpec.upto fnExactWorstStopSpec)

/-- 'laws.FnExactBestBuffer', WHERE WHAT IT READS IS OF BULK AT MOST 1048576: true; the input reads as it did. -/
def fnExactBestBufferUptoRow : OpenClaim := { program := "ytnjojepeilgikaa", sum := "a681ddb6efbb300a62cc9eced7cd75095d96c15564f7e4d7e7ca8b3f21ca2412", func := "loop.example/g00900/laws.FnExactBestBuffer", spec := "fnExactBestBuffer", unfollowed := true, recurses := true, apart := false, narrowed := true }
def FnExactBestBufferUptoSaid : Prop := fnExactBestBufferUptoRow.holds Try.pinned (OpenSpec.upto fnExactBestBufferSpec)

/-- 'laws.FnShares', WHERE WHAT IT READS IS OF BULK AT MOST 1048576: true; the input reads as it did. -/
def fnSharesUptoRow : OpenClaim := { program := "ytnjojepeilgikaa", sum := "a681ddb6efbb300a62cc9eced7cd75095d96c15564f7e4d7e7ca8b3f21ca2412", func := "loop.example/g00900/laws.FnShares", spec := "fnShares", unfollowed := true, recurses := true, apart := false, narrowed := true }
def FnSharesUptoSaid : Prop := fnSharesUptoRow.holds Try.pinned (OpenSpec.upto fnSharesSpec)

/-- 'laws.FnExactDelayQuantile', WHERE WHAT IT READS IS OF BULK AT MOST 1048576: true; the input reads as it did. -/
def fnExactDelayQuantileUptoRow : OpenClaim := { program := "ytnjojepeilgikaa", sum := "a681ddb6efbb300a62cc9eced7cd75095d96c15564f7e4d7e7ca8b3f21ca2412", func := "loop.example/g00900/laws.FnExactDelayQuantile", spec := "fnExactDelayQuantile", recurses := true, apart := false, narrowed := true }
def FnExactDelayQuantileUptoSaid : Prop := fnExactDelayQuantileUptoRow.holds Try.pinned (OpenSpec.upto fnExactDelayQuantileSpec)

/-- 'laws.FnExactExcessWait', WHERE WHAT IT READS IS OF BULK AT MOST 1048576: true; the input reads as it did. -/
def fnExactExcessWaitUptoRow : OpenClaim := { program := "ytnjojepeilgikaa", sum := "a681ddb6efbb300a62cc9eced7cd75095d96c15564f7e4d7e7ca8b3f21ca2412", func := "loop.example/g00900/laws.FnExactExcessWait", spec := "fnExactExcessWait", recurses := true, apart := false, narrowed := true }
def FnExactExcessWaitUptoSaid : Prop := fnExactExcessWaitUptoRow.holds Try.pinned (OpenSpec.upto fnExactExcessWaitSpec)

end Rows
end Go.Proofs.Ytnjojepeilgikaa
