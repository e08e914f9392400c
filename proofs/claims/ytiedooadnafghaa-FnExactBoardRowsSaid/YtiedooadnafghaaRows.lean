/-
  No cell of these rows narrows 'for every input' (looked for: loops, veiled, ifaces, maps, wideKeys, modest, calm, conditions, laid).
  DERIVED. THE GIVEN ROWS OF THIS SEAT. 10 by the template 'for every input the law returns true; each argument reads behind the call as it read before'; 0 by the template 'total and deterministic' (their statements: YtiedooadnafghaaTotals.lean).
  GIVEN WITH THE SEED: the statements are not yours to turn. If you find one false, say at which input.
  Laid BY PROGRAM, IN A SANDBOX (cutbox-rows.mjs): the forced cells as the released guide's own fill.sh prints them over the translation a5628be38a9b51b4… (all of the seat's roots in one cut). By AI agents, Wed Nov 11 2026. No macro, syntax, notation, axiom, sorry.
-/
import Derived.Test.YtiedooadnafghaaChecked
import GoSem.Claim
import GoSem.ClaimJoined
import GoSem.ClaimMapViews
import Derived.JoinedTies
import Derived.KernelRfl
namespace Go.Proofs.Ytiedooadnafghaa
/- THE CELL 'sum', in the pinned program and in every row, IS THE sha256 OF THE DUMP (.gsa) THAT YtiedooadnafghaaProg.lean LOADS. Nothing in Lean hashes anything: it is a label: what it is worth is what the hold of that sum in a sandbox is worth. -/
noncomputable def Try.pinned : Pinned := { name := "ytiedooadnafghaa", sum := "a5628be38a9b51b41c8daf07e09104aad4a6059e343346296944e8eaeed34df4", checked := Try.checked }
namespace Rows
def none {H : Type} : Left H := { results := [], args := [] }

/-- 'laws.FnExactIsValidTripDelays': WHATEVER THE INPUT: true; the input reads as it did. -/
def fnExactIsValidTripDelaysSpec : ChangeSpec := { name := "fnExactIsValidTripDelays", fn := fun _ => fun
  | [d1, d2] => { results := [.lit (.bool true)], args := [d1, d2] }
  | _ => none }
def fnExactIsValidTripDelaysRow : OpenClaim := { program := "ytiedooadnafghaa", sum := "a5628be38a9b51b41c8daf07e09104aad4a6059e343346296944e8eaeed34df4", func := "loop.example/g00900/laws.FnExactIsValidTripDelays", spec := "fnExactIsValidTripDelays", unfollowed := true, recurses := true, apart := false }
def FnExactIsValidTripDelaysSaid : Prop := fnExactIsValidTripDelaysRow.holds Try.pinned (OpenSpec.ofChange fnExactIsValidTripDelaysSpec)

/-- ITS FALSE NEIGHBOUR: 'it returns false'. Refute it at one input. -/
def fnExactIsValidTripDelaysWrong : ChangeSpec := { name := "fnExactIsValidTripDelays", fn := fun _ => fun
  | [d1, d2] => { results := [.lit (.bool false)], args := [d1, d2] }
  | _ => none }
def FnExactIsValidTripDelaysWrongFalsely : Prop := fnExactIsValidTripDelaysRow.holds Try.pinned (OpenSpec.ofChange fnExactIsValidTripDelaysWrong)

/-- 'laws.FnExactPredictArrivals': WHATEVER THE INPUT: true; the input reads as it did. -/
def fnExactPredictArrivalsSpec : ChangeSpec := { name := "fnExactPredictArrivals", fn := fun _ => fun
  | [d1, d2, d3] => { results := [.lit (.bool true)], args := [d1, d2, d3] }
  | _ => none }
def fnExactPredictArrivalsRow : OpenClaim := { program := "ytiedooadnafghaa", sum := "a5628be38a9b51b41c8daf07e09104aad4a6059e343346296944e8eaeed34df4", func := "loop.example/g00900/laws.FnExactPredictArrivals", spec := "fnExactPredictArrivals", unfollowed := true, recurses := true, apart := false }
def FnExactPredictArrivalsSaid : Prop := fnExactPredictArrivalsRow.holds Try.pinned (OpenSpec.ofChange fnExactPredictArrivalsSpec)

/-- ITS FALSE NEIGHBOUR: 'it returns false'. Refute it at one input. -/
def fnExactPredictArrivalsWrong : ChangeSpec := { name := "fnExactPredictArrivals", fn := fun _ => fun
  | [d1, d2, d3] => { results := [.lit (.bool false)], args := [d1, d2, d3] }
  | _ => none }
def FnExactPredictArrivalsWrongFalsely : Prop := fnExactPredictArrivalsRow.holds Try.pinned (OpenSpec.ofChange fnExactPredictArrivalsWrong)

/-- 'laws.FnExactDelayTrip': WHATEVER THE INPUT: true; the input reads as it did. -/
def fnExactDelayTripSpec : ChangeSpec := { name := "fnExactDelayTrip", fn := fun _ => fun
  | [d1, d2, d3, d4] => { results := [.lit (.bool true)], args := [d1, d2, d3, d4] }
  | _ => none }
def fnExactDelayTripRow : OpenClaim := { program := "ytiedooadnafghaa", sum := "a5628be38a9b51b41c8daf07e09104aad4a6059e343346296944e8eaeed34df4", func := "loop.example/g00900/laws.FnExactDelayTrip", spec := "fnExactDelayTrip", unfollowed := true, recurses := true, apart := false }
def FnExactDelayTripSaid : Prop := fnExactDelayTripRow.holds Try.pinned (OpenSpec.ofChange fnExactDelayTripSpec)

/-- ITS FALSE NEIGHBOUR: 'it returns false'. Refute it at one input. -/
def fnExactDelayTripWrong : ChangeSpec := { name := "fnExactDelayTrip", fn := fun _ => fun
  | [d1, d2, d3, d4] => { results := [.lit (.bool false)], args := [d1, d2, d3, d4] }
  | _ => none }
def FnExactDelayTripWrongFalsely : Prop := fnExactDelayTripRow.holds Try.pinned (OpenSpec.ofChange fnExactDelayTripWrong)

/-- 'laws.FnExactNextByLine': WHATEVER THE INPUT: true; the input reads as it did. -/
def fnExactNextByLineSpec : ChangeSpec := { name := "fnExactNextByLine", fn := fun _ => fun
  | [d1, d2, d3, d4] => { results := [.lit (.bool true)], args := [d1, d2, d3, d4] }
  | _ => none }
def fnExactNextByLineRow : OpenClaim := { program := "ytiedooadnafghaa", sum := "a5628be38a9b51b41c8daf07e09104aad4a6059e343346296944e8eaeed34df4", func := "loop.example/g00900/laws.FnExactNextByLine", spec := "fnExactNextByLine", unfollowed := true, recurses := true, apart := false }
def FnExactNextByLineSaid : Prop := fnExactNextByLineRow.holds Try.pinned (OpenSpec.ofChange fnExactNextByLineSpec)

/-- ITS FALSE NEIGHBOUR: 'it returns false'. Refute it at one input. -/
def fnExactNextByLineWrong : ChangeSpec := { name := "fnExactNextByLine", fn := fun _ => fun
  | [d1, d2, d3, d4] => { results := [.lit (.bool false)], args := [d1, d2, d3, d4] }
  | _ => none }
def FnExactNextByLineWrongFalsely : Prop := fnExactNextByLineRow.holds Try.pinned (OpenSpec.ofChange fnExactNextByLineWrong)

/-- 'laws.FnExactOvertakings': WHATEVER THE INPUT: true; the input reads as it did. -/
def fnExactOvertakingsSpec : ChangeSpec := { name := "fnExactOvertakings", fn := fun _ => fun
  | [d1, d2, d3] => { results := [.lit (.bool true)], args := [d1, d2, d3] }
  | _ => none }
def fnExactOvertakingsRow : OpenClaim := { program := "ytiedooadnafghaa", sum := "a5628be38a9b51b41c8daf07e09104aad4a6059e343346296944e8eaeed34df4", func := "loop.example/g00900/laws.FnExactOvertakings", spec := "fnExactOvertakings", unfollowed := true, recurses := true, apart := false }
def FnExactOvertakingsSaid : Prop := fnExactOvertakingsRow.holds Try.pinned (OpenSpec.ofChange fnExactOvertakingsSpec)

/-- ITS FALSE NEIGHBOUR: 'it returns false'. Refute it at one input. -/
def fnExactOvertakingsWrong : ChangeSpec := { name := "fnExactOvertakings", fn := fun _ => fun
  | [d1, d2, d3] => { results := [.lit (.bool false)], args := [d1, d2, d3] }
  | _ => none }
def FnExactOvertakingsWrongFalsely : Prop := fnExactOvertakingsRow.holds Try.pinned (OpenSpec.ofChange fnExactOvertakingsWrong)

/-- 'laws.FnExactDelayMessages': WHATEVER THE INPUT: true; the input reads as it did. -/
def fnExactDelayMessagesSpec : ChangeSpec := { name := "fnExactDelayMessages", fn := fun _ => fun
  | [d1, d2, d3] => { results := [.lit (.bool true)], args := [d1, d2, d3] }
  | _ => none }
def fnExactDelayMessagesRow : OpenClaim := { program := "ytiedooadnafghaa", sum := "a5628be38a9b51b41c8daf07e09104aad4a6059e343346296944e8eaeed34df4", func := "loop.example/g00900/laws.FnExactDelayMessages", spec := "fnExactDelayMessages", unfollowed := true, recurses := true, apart := false }
def FnExactDelayMessagesSaid : Prop := fnExactDelayMessagesRow.holds Try.pinned (OpenSpec.ofChange fnExactDelayMessagesSpec)

/-- ITS FALSE NEIGHBOUR: 'it returns false'. Refute it at one input. -/
def fnExactDelayMessagesWrong : ChangeSpec := { name := "fnExactDelayMessages", fn := fun _ => fun
  | [d1, d2, d3] => { results := [.lit (.bool false)], args := [d1, d2, d3] }
  | _ => none }
def FnExactDelayMessagesWrongFalsely : Prop := fnExactDelayMessagesRow.holds Try.pinned (OpenSpec.ofChange fnExactDelayMessagesWrong)

/-- 'laws.FnExactBoardRows': WHATEVER THE INPUT: true; the input reads as it did. -/
def fnExactBoardRowsSpec : ChangeSpec := { name := "fnExactBoardRows", fn := fun _ => fun
  | [d1, d2, d3, d4, d5] => { results := [.lit (.bool true)], args := [d1, d2, d3, d4, d5] }
  | _ => none }
def fnExactBoardRowsRow : OpenClaim := { program := "ytiedooadnafghaa", sum := "a5628be38a9b51b41c8daf07e09104aad4a6059e343346296944e8eaeed34df4", func := "loop.example/g00900/laws.FnExactBoardRows", spec := "fnExactBoardRows", unfollowed := true, recurses := true, apart := false }
def FnExactBoardRowsSaid : Prop := fnExactBoardRowsRow.holds Try.pinned (OpenSpec.ofChange fnExactBoardRowsSpec)

/-- ITS FALSE NEIGHBOUR: 'it returns false'. Refute it at one input. -/
def fnExactBoardRowsWrong : ChangeSpec := { name := "fnExactBoardRows", fn := fun _ => fun
  | [d1, d2, d3, d4, d5] => { results := [.lit (.bool false)], args := [d1, d2, d3, d4, d5] }
  | _ => none }
def FnExactBoardRowsWrongFalsely : Prop := fnExactBoardRowsRow.holds Try.pinned (OpenSpec.ofChange fnExactBoardRowsWrong)

/-- 'laws.FnExactPlaceOf': WHATEVER THE INPUT: true; the input reads as it did. -/
def fnExactPlaceOfSpec : ChangeSpec := { name := "fnExactPlaceOf", fn := fun _ => fun
  | [d1, d2] => { results := [.lit (.bool true)], args := [d1, d2] }
  | _ => none }
def fnExactPlaceOfRow : OpenClaim := { program := "ytiedooadnafghaa", sum := "a5628be38a9b51b41c8daf07e09104aad4a6059e343346296944e8eaeed34df4", func := "loop.example/g00900/laws.FnExactPlaceOf", spec := "fnExactPlaceOf", apart := false }
def FnExactPlaceOfSaid : Prop := fnExactPlaceOfRow.holds Try.pinned (OpenSpec.ofChange fnExactPlaceOfSpec)

/-- ITS FALSE NEIGHBOUR: 'it returns false'. Refute it at one input. -/
def fnExactPlaceOfWrong : ChangeSpec := { name := "fnExactPlaceOf", fn := fun _ => fun
  | [d1, d2] => { results := [.lit (.bool false)], args := [d1, d2] }
  | _ => none }
def FnExactPlaceOfWrongFalsely : Prop := fnExactPlaceOfRow.holds Try.pinned (OpenSpec.ofChange fnExactPlaceOfWrong)

/-- 'laws.FnExactIsValidReports': WHATEVER THE INPUT: true; the input reads as it did. -/
def fnExactIsValidReportsSpec : ChangeSpec := { name := "fnExactIsValidReports", fn := fun _ => fun
  | [d1, d2] => { results := [.lit (.bool true)], args := [d1, d2] }
  | _ => none }
def fnExactIsValidReportsRow : OpenClaim := { program := "ytiedooadnafghaa", sum := "a5628be38a9b51b41c8daf07e09104aad4a6059e343346296944e8eaeed34df4", func := "loop.example/g00900/laws.FnExactIsValidReports", spec := "fnExactIsValidReports", apart := false }
def FnExactIsValidReportsSaid : Prop := fnExactIsValidReportsRow.holds Try.pinned (OpenSpec.ofChange fnExactIsValidReportsSpec)

/-- ITS FALSE NEIGHBOUR: 'it returns false'. Refute it at one input. -/
def fnExactIsValidReportsWrong : ChangeSpec := { name := "fnExactIsValidReports", fn := fun _ => fun
  | [d1, d2] => { results := [.lit (.bool false)], args := [d1, d2] }
  | _ => none }
def FnExactIsValidReportsWrongFalsely : Prop := fnExactIsValidReportsRow.holds Try.pinned (OpenSpec.ofChange fnExactIsValidReportsWrong)

/-- 'laws.FnExactSpeedOf': WHATEVER THE INPUT: true; the input reads as it did. -/
def fnExactSpeedOfSpec : ChangeSpec := { name := "fnExactSpeedOf", fn := fun _ => fun
  | [d1, d2, d3] => { results := [.lit (.bool true)], args := [d1, d2, d3] }
  | _ => none }
def fnExactSpeedOfRow : OpenClaim := { program := "ytiedooadnafghaa", sum := "a5628be38a9b51b41c8daf07e09104aad4a6059e343346296944e8eaeed34df4", func := "loop.example/g00900/laws.FnExactSpeedOf", spec := "fnExactSpeedOf", apart := false }
def FnExactSpeedOfSaid : Prop := fnExactSpeedOfRow.holds Try.pinned (OpenSpec.ofChange fnExactSpeedOfSpec)

/-- ITS FALSE NEIGHBOUR: 'it returns false'. Refute it at one input. -/
def fnExactSpeedOfWrong : ChangeSpec := { name := "fnExactSpeedOf", fn := fun _ => fun
  | [d1, d2, d3] => { results := [.lit (.bool false)], args := [d1, d2, d3] }
  | _ => none }
def FnExactSpeedOfWrongFalsely : Prop := fnExactSpeedOfRow.holds Try.pinned (OpenSpec.ofChange fnExactSpeedOfWrong)

/- THE SECOND FORM. 'bulk': how many values and letters a reading holds, each counted each time it is reached (what is shared counts as often as it is met; a slice's spare places count too). A statement '..UptoSaid' is the law's where the arguments, and the package variables that the reading takes, are together of bulk at most 1048576: NARROWER than '..Said'. Prove '..Said' where nothing that the law and all that it calls make is longer than what came in: it says more and counts as full. Else prove '..UptoSaid'. A law counts once. -/
mutual
def uptoBulk {H : Type} : DataW H → Nat
  | .lit (.string bytes) => bytes.length + 1
  | .lit _ => 1
  | .nil => 1
  | .ptr d => uptoBulk d + 1
  | .slice elems spare => uptoBulkAll elems + uptoBulkAll spare + 1
  | .agg parts => uptoBulkAll parts + 1
  | .iface _ d => uptoBulk d + 1
  | .map entries => uptoBulkEntries entries + 1
  | .held _ => 1
def uptoBulkAll {H : Type} : List (DataW H) → Nat
  | [] => 0
  | d :: r => uptoBulk d + uptoBulkAll r
def uptoBulkEntries {H : Type} : List (Lit × DataW H) → Nat
  | [] => 0
  | x :: r => uptoBulkEntry x + uptoBulkEntries r
def uptoBulkEntry {H : Type} : Lit × DataW H → Nat
  | (.string bytes, d) => bytes.length + uptoBulk d + 1
  | (_, d) => uptoBulk d + 1
 end
def uptoSmall : (H : Type) → List (DataW H) → Bool := fun _ ds => decide (uptoBulkAll ds ≤ 1048576)
def OpenSpec.upto (s : _root_.Go.ChangeSpec) : _root_.Go.OpenSpec := { _root_.Go.OpenSpec.ofChange s with cond := some uptoSmall }

/-- 'laws.FnExactIsValidTripDelays', WHERE WHAT IT READS IS OF BULK AT MOST 1048576: true; the input reads as it did. -/
def fnExactIsValidTripDelaysUptoRow : OpenClaim := { program := "ytiedooadnafghaa", sum := "a5628be38a9b51b41c8daf07e09104aad4a6059e343346296944e8eaeed34df4", func := "loop.example/g00900/laws.FnExactIsValidTripDelays", spec := "fnExactIsValidTripDelays", unfollowed := true, recurses := true, apart := false, narrowed := true }
def FnExactIsValidTripDelaysUptoSaid : Prop := fnExactIsValidTripDelaysUptoRow.holds Try.pinned (OpenSpec.upto fnExactIsValidTripDelaysSpec)

/-- 'laws.FnExactPredictArrivals', WHERE WHAT IT READS IS OF BULK AT MOST 1048576: true; the input reads as it did. -/
def fnExactPredictArrivalsUptoRow : OpenClaim := { program := "ytiedooadnafghaa", sum := "a5628be38a9b51b41c8daf07e09104aad4a6059e343346296944e8eaeed34df4", func := "loop.example/g00900/laws.FnExactPredictArrivals", spec := "fnExactPredictArrivals", unfollowed := true, recurses := true, apart := false, narrowed := true }
def FnExactPredictArrivalsUptoSaid : Prop := fnExactPredictArrivalsUptoRow.holds Try.pinned (OpenSpec.upto fnExactPredictArrivalsSpec)

/-- 'laws.FnExactDelayTrip', WHERE WHAT IT READS IS OF BULK AT MOST 1048576: true; the input reads as it did. -/
def fnExactDelayTripUptoRow : OpenClaim := { program := "ytiedooadnafghaa", sum := "a5628be38a9b51b41c8daf07e09104aad4a6059e343346296944e8eaeed34df4", func := "loop.example/g00900/laws.FnExactDelayTrip", spec := "fnExactDelayTrip", unfollowed := true, recurses := true, apart := false, narrowed := true }
def FnExactDelayTripUptoSaid : Prop := fnExactDelayTripUptoRow.holds Try.pinned (OpenSpec.upto fnExactDelayTripSpec)

/-- 'laws.FnExactNextByLine', WHERE WHAT IT READS IS OF BULK AT MOST 1048576: true; the input reads as it did. -/
def fnExactNextByLineUptoRow : OpenClaim := { program := "ytiedooadnafghaa", sum := "a5628be38a9b51b41c8daf07e09104aad4a6059e343346296944e8eaeed34df4", func := "loop.example/g00900/laws.FnExactNextByLine", spec := "fnExactNextByLine", unfollowed := true, recurses := true, apart := false, narrowed := true }
def FnExactNextByLineUptoSaid : Prop := fnExactNextByLineUptoRow.holds Try.pinned (OpenSpec.upto fnExactNextByLineSpec)

/-- 'laws.FnExactOvertakings', WHERE WHAT IT READS IS OF BULK AT MOST 1048576: true; the input reads as it did. -/
def fnExactOvertakingsUptoRow : OpenClaim := { program := "ytiedooadnafghaa", sum := "a5628be38a9b51b41c8daf07e09104aad4a6059e343346296944e8eaeed34df4", func := "loop.example/g00900/laws.FnExactOvertakings", spec := "fnExactOvertakings", unfollowed := true, recurses := true, apart := false, narrowed := true }
def FnExactOvertakingsUptoSaid : Prop := fnExactOvertakingsUptoRow.holds Try.pinned (OpenSpec.upto fnExactOvertakingsSpec)

/-- 'laws.FnExactDelayMessages', WHERE WHAT IT READS IS OF BULK AT MOST 1048576: true; the input reads as it did. -/
def fnExactDelayMessagesUptoRow : OpenClaim := { program := "ytiedooadnafghaa", sum := "a5628be38a9b51b41c8daf07e09104aad4a6059e343346296944e8eaeed34df4", func := "loop.example/g00900/laws.FnExactDelayMessages", spec := "fnExactDelayMessages", unfollowed := true, recurses := true, apart := false, narrowed := true }
def FnExactDelayMessagesUptoSaid : Prop := fnExactDelayMessagesUptoRow.holds Try.pinned (OpenSpec.upto fnExactDelayMessagesSpec)

/-- 'laws.FnExactBoardRows', WHERE WHAT IT READS IS OF BULK AT MOST 1048576: true; the input reads as it did. -/
def fnExactBoardRowsUptoRow : OpenClaim := { program := "ytiedooadnafghaa", sum := "a5628be38a9b51b41c8daf07e09104aad4a6059e343346296944e8eaeed34df4", func := "loop.example/g00900/laws.FnExactBoardRows", spec := "fnExactBoardRows", unfollowed := true, recurses := true, apart := false, narrowed := true }
def FnExactBoardRowsUptoSaid : Prop := fnExactBoardRowsUptoRow.holds Try.pinned (OpenSpec.upto fnExactBoardRowsSpec)

/-- 'laws.FnExactPlaceOf', WHERE WHAT IT READS IS OF BULK AT MOST 1048576: true; the input reads as it did. -/
def fnExactPlaceOfUptoRow : OpenClaim := { program := "ytiedooadnafghaa", sum := "a5628be38a9b51b41c8daf07e09104aad4a6059e343346296944e8eaeed34df4", func := "loop.example/g00900/laws.FnExactPlaceOf", spec := "fnExactPlaceOf", apart := false, narrowed := true }
def FnExactPlaceOfUptoSaid : Prop := fnExactPlaceOfUptoRow.holds Try.pinned (OpenSpec.upto fnExactPlaceOfSpec)

/-- 'laws.FnExactIsValidReports', WHERE WHAT IT READS IS OF BULK AT MOST 1048576: true; the input reads as it did. -/
def fnExactIsValidReportsUptoRow : OpenClaim := { program := "ytiedooadnafghaa", sum := "a5628be38a9b51b41c8daf07e09104aad4a6059e343346296944e8eaeed34df4", func := "loop.example/g00900/laws.FnExactIsValidReports", spec := "fnExactIsValidReports", apart := false, narrowed := true }
def FnExactIsValidReportsUptoSaid : Prop := fnExactIsValidReportsUptoRow.holds Try.pinned (OpenSpec.upto fnExactIsValidReportsSpec)

/-- 'laws.FnExactSpeedOf', WHERE WHAT IT READS IS OF BULK AT MOST 1048576: true; the input reads as it did. -/
def fnExactSpeedOfUptoRow : OpenClaim := { program := "ytiedooadnafghaa", sum := "a5628be38a9b51b41c8daf07e09104aad4a6059e343346296944e8eaeed34df4", func := "loop.example/g00900/laws.FnExactSpeedOf", spec := "fnExactSpeedOf", apart := false, narrowed := true }
def FnExactSpeedOfUptoSaid : Prop := fnExactSpeedOfUptoRow.holds Try.pinned (OpenSpec.upto fnExactSpeedOfSpec)

end Rows
end Go.Proofs.Ytiedooadnafghaa
