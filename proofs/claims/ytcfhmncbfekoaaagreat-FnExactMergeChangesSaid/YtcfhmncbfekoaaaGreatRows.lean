/-
  No cell of these rows narrows 'for every input' (looked for: loops, veiled, ifaces, maps, wideKeys, modest, calm, conditions, laid).
  DERIVED. THE GIVEN ROWS OF THIS SEAT. 3 by the template 'for every input the law returns true; each argument reads behind the call as it read before'; 0 by the template 'total and deterministic' (their statements: YtcfhmncbfekoaaaGreatTotals.lean).
  GIVEN WITH THE SEED: the statements are not yours to turn. If you find one false, say at which input.
  Laid BY PROGRAM, IN A SANDBOX (cutbox-rows.mjs): the forced cells as the released guide's own fill.sh prints them over the translation 2eee386262eaf5e1… (all of the seat's roots in one cut). By AI agents, Wed Nov 11 2026. No macro, syntax, notation, axiom, sorry.
-/
import Derived.Test.YtcfhmncbfekoaaaGreatChecked
import GoSem.Claim
import GoSem.ClaimJoined
import GoSem.ClaimMapViews
import Derived.JoinedTies
import Derived.KernelRfl
namespace Go.Proofs.YtcfhmncbfekoaaaGreat
/- THE CELL 'sum', in the pinned program and in every row, IS THE sha256 OF THE DUMP (.gsa) THAT YtcfhmncbfekoaaaGreatProg.lean LOADS. Nothing in Lean hashes anything: it is a label: what it is worth is what the hold of that sum in a sandbox is worth. -/
noncomputable def Tryz.pinned : Pinned := { name := "ytcfhmncbfekoaaagreat", sum := "2eee386262eaf5e1544ac25bf6c16632a9abfd3a1c57691c3042c56a3c9ab19c", checked := Tryz.checked }
namespace Rows
def none {H : Type} : Left H := { results := [], args := [] }

/-- 'laws.FnExactMergeChanges': WHATEVER THE INPUT: true; the input reads as it did. -/
def fnExactMergeChangesSpec : ChangeSpec := { name := "fnExactMergeChanges", fn := fun _ => fun
  | [d1, d2, d3] => { results := [.lit (.bool true)], args := [d1, d2, d3] }
  | _ => none }
def fnExactMergeChangesRow : OpenClaim := { program := "ytcfhmncbfekoaaagreat", sum := "2eee386262eaf5e1544ac25bf6c16632a9abfd3a1c57691c3042c56a3c9ab19c", func := "loop.example/g00900/laws.FnExactMergeChanges", spec := "fnExactMergeChanges", inPlace := ["slices.overlaps[loop.example/g00900/impl.Trip]"], unfollowed := true, recurses := true, apart := false }
def FnExactMergeChangesSaid : Prop := fnExactMergeChangesRow.holds Tryz.pinned (OpenSpec.ofChange fnExactMergeChangesSpec)

/-- ITS FALSE NEIGHBOUR: 'it returns false'. Refute it at one input. -/
def fnExactMergeChangesWrong : ChangeSpec := { name := "fnExactMergeChanges", fn := fun _ => fun
  | [d1, d2, d3] => { results := [.lit (.bool false)], args := [d1, d2, d3] }
  | _ => none }
def FnExactMergeChangesWrongFalsely : Prop := fnExactMergeChangesRow.holds Tryz.pinned (OpenSpec.ofChange fnExactMergeChangesWrong)

/-- 'laws.FnExactChangedStops': WHATEVER THE INPUT: true; the input reads as it did. -/
def fnExactChangedStopsSpec : ChangeSpec := { name := "fnExactChangedStops", fn := fun _ => fun
  | [d1, d2] => { results := [.lit (.bool true)], args := [d1, d2] }
  | _ => none }
def fnExactChangedStopsRow : OpenClaim := { program := "ytcfhmncbfekoaaagreat", sum := "2eee386262eaf5e1544ac25bf6c16632a9abfd3a1c57691c3042c56a3c9ab19c", func := "loop.example/g00900/laws.FnExactChangedStops", spec := "fnExactChangedStops", inPlace := ["slices.overlaps[loop.example/g00900/impl.Trip]"], unfollowed := true, recurses := true, apart := false }
def FnExactChangedStopsSaid : Prop := fnExactChangedStopsRow.holds Tryz.pinned (OpenSpec.ofChange fnExactChangedStopsSpec)

/-- ITS FALSE NEIGHBOUR: 'it returns false'. Refute it at one input. -/
def fnExactChangedStopsWrong : ChangeSpec := { name := "fnExactChangedStops", fn := fun _ => fun
  | [d1, d2] => { results := [.lit (.bool false)], args := [d1, d2] }
  | _ => none }
def FnExactChangedStopsWrongFalsely : Prop := fnExactChangedStopsRow.holds Tryz.pinned (OpenSpec.ofChange fnExactChangedStopsWrong)

/-- 'laws.FnExactConflictingTrips': WHATEVER THE INPUT: true; the input reads as it did. -/
def fnExactConflictingTripsSpec : ChangeSpec := { name := "fnExactConflictingTrips", fn := fun _ => fun
  | [d1, d2, d3] => { results := [.lit (.bool true)], args := [d1, d2, d3] }
  | _ => none }
def fnExactConflictingTripsRow : OpenClaim := { program := "ytcfhmncbfekoaaagreat", sum := "2eee386262eaf5e1544ac25bf6c16632a9abfd3a1c57691c3042c56a3c9ab19c", func := "loop.example/g00900/laws.FnExactConflictingTrips", spec := "fnExactConflictingTrips", inPlace := ["slices.overlaps[loop.example/g00900/impl.Trip]"], unfollowed := true, recurses := true, apart := false }
def FnExactConflictingTripsSaid : Prop := fnExactConflictingTripsRow.holds Tryz.pinned (OpenSpec.ofChange fnExactConflictingTripsSpec)

/-- ITS FALSE NEIGHBOUR: 'it returns false'. Refute it at one input. -/
def fnExactConflictingTripsWrong : ChangeSpec := { name := "fnExactConflictingTrips", fn := fun _ => fun
  | [d1, d2, d3] => { results := [.lit (.bool false)], args := [d1, d2, d3] }
  | _ => none }
def FnExactConflictingTripsWrongFalsely : Prop := fnExactConflictingTripsRow.holds Tryz.pinned (OpenSpec.ofChange fnExactConflictingTripsWrong)

/- THE SECOND FORM. 'bulk': how many values and letters a reading holds, each counted each time it is reached (what is shared counts as often as it is met; a slice's spare places count too). A statement '..UptoSaid' is the law's where the arguments, and the package variables that the reading takes, are together of bulk at most 1048576: NARROWER than '..Said'. Prove '..Said' where nothing that the law and all that it calls make is longer than what came in: it says more and counts as full. Else prove '..UptoSaid'. A law counts once. -/
mutual
def uptoBulk {H : Type} : DataW H → Nat
  | .lit (.string bytes) => bytes.length + 1
  | .lit _ => 1
  | .nil => 1
  | .ptr d => uptoBulk d + 1
  | .slice elems spare => uptoBulkAll elems + uptoBulkAll spare + 1
  | .agg parts => uptoBulkAll parts + 1
  | .iface _ d => uptoBulk d + 1
  | .map entries => uptoBulkEntries entries + 1
  | .held _ => 1
def uptoBulkAll {H : Type} : List (DataW H) → Nat
  | [] => 0
  | d :: r => uptoBulk d + uptoBulkAll r
def uptoBulkEntries {H : Type} : List (Lit × DataW H) → Nat
  | [] => 0
  | x :: r => uptoBulkEntry x + uptoBulkEntries r
def uptoBulkEntry {H : Type} : Lit × DataW H → Nat
  | (.string bytes, d) => bytes.length + uptoBulk d + 1
  | (_, d) => uptoBulk d + 1
 end
def uptoSmall : (H : Type) → List (DataW H) → Bool := fun _ ds => decide (uptoBulkAll ds ≤ 1048576)
def OpenSpec.upto (s : _root_.Go.ChangeSpec) : _root_.Go.OpenSpec := { _root_.Go.OpenSpec.ofChange s with cond := some uptoSmall }

/-- 'laws.FnExactMergeChanges', WHERE WHAT IT READS IS OF BULK AT MOST 1048576: true; the input reads as it did. -/
def fnExactMergeChangesUptoRow : OpenClaim := { program := "ytcfhmncbfekoaaagreat", sum := "2eee386262eaf5e1544ac25bf6c16632a9abfd3a1c57691c3042c56a3c9ab19c", func := "loop.example/g00900/laws.FnExactMergeChanges", spec := "fnExactMergeChanges", inPlace := ["slices.overlaps[loop.example/g00900/impl.Trip]"], unfollowed := true, recurses := true, apart := false, narrowed := true }
def FnExactMergeChangesUptoSaid : Prop := fnExactMergeChangesUptoRow.holds Tryz.pinned (OpenSpec.upto fnExactMergeChangesSpec)

/-- 'laws.FnExactChangedStops', WHERE WHAT IT READS IS OF BULK AT MOST 1048576: true; the input reads as it did. -/
def fnExactChangedStopsUptoRow : OpenClaim := { program := "ytcfhmncbfekoaaagreat", sum := "2eee386262eaf5e1544ac25bf6c16632a9abfd3a1c57691c3042c56a3c9ab19c", func := "loop.example/g00900/laws.FnExactChangedStops", spec := "fnExactChangedStops", inPlace := ["slices.overlaps[loop.example/g00900/impl.Trip]"], unfollowed := true, recurses := true, apart := false, narrowed := true }
def FnExactChangedStopsUptoSaid : Prop := fnExactChangedStopsUptoRow.holds Tryz.pinned (OpenSpec.upto fnExactChangedStopsSpec)

/-- 'laws.FnExactConflictingTrips', WHERE WHAT IT READS IS OF BULK AT MOST 1048576: true; the input reads as it did. -/
def fnExactConflictingTripsUptoRow : OpenClaim := { program := "ytcfhmncbfekoaaagreat", sum := "2eee386262eaf5e1544ac25bf6c16632a9abfd3a1c57691c3042c56a3c9ab19c", func := "loop.example/g00900/laws.FnExactConflictingTrips", spec := "fnExactConflictingTrips", inPlace := ["slices.overlaps[loop.example/g00900/impl.Trip]"], unfollowed := true, recurses := true, apart := false, narrowed := true }
def FnExactConflictingTripsUptoSaid : Prop := fnExactConflictingTripsUptoRow.holds Tryz.pinned (OpenSpec.upto fnExactConflictingTripsSpec)

end Rows
end Go.Proofs.YtcfhmncbfekoaaaGreat
