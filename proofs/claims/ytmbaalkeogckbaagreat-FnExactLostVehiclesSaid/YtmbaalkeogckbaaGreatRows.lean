/-
  No cell of these rows narrows 'for every input' (looked for: loops, veiled, ifaces, maps, wideKeys, modest, calm, conditions, laid).
  DERIVED. THE GIVEN ROWS OF THIS SEAT. 4 by the template 'for every input the law returns true; each argument reads behind the call as it read before'; 0 by the template 'total and deterministic' (their statements: YtmbaalkeogckbaaGreatTotals.lean).
  GIVEN WITH THE SEED: the statements are not yours to turn. If you find one false, say at which input.
  Laid BY PROGRAM, IN A SANDBOX (cutbox-rows.mjs): the forced cells as the released guide's own fill.sh prints them over the translation 87ee592dc5753d38… (all of the seat's roots in one cut). By AI agents, Wed Nov 11 2026. No macro, syntax, notation, axiom, sorry.
-/
import Derived.Test.YtmbaalkeogckbaaGreatChecked
import GoSem.Claim
import GoSem.ClaimJoined
import GoSem.ClaimMapViews
import Derived.JoinedTies
import Derived.KernelRfl
namespace Go.Proofs.YtmbaalkeogckbaaGreat
/- THE CELL 'sum', in the pinned program and in every row, IS THE sha256 OF THE DUMP (.gsa) THAT YtmbaalkeogckbaaGreatProg.lean LOADS. Nothing in Lean hashes anything: it is a label: what it is worth is what the hold of that sum in a sandbox is worth. -/
noncomputable def Tryz.pinned : Pinned := { name := "ytmbaalkeogckbaagreat", sum := "87ee592dc5753d384e7c311ebead4302cfc241e09a6ebeaab9872017b4adcd1d", checked := Tryz.checked }
namespace Rows
def none {H : Type} : Left H := { results := [], args := [] }

/-- 'laws.FnExactConflictingTrips': WHATEVER THE INPUT: true; the input reads as it did. -/
def fnExactConflictingTripsSpec : ChangeSpec := { name := "fnExactConflictingTrips", fn := fun _ => fun
  | [d1, d2, d3] => { results := [.lit (.bool true)], args := [d1, d2, d3] }
  | _ => none }
def fnExactConflictingTripsRow : OpenClaim := { program := "ytmbaalkeogckbaagreat", sum := "87ee592dc5753d384e7c311ebead4302cfc241e09a6ebeaab9872017b4adcd1d", func := "loop.example/g00900/laws.FnExactConflictingTrips", spec := "fnExactConflictingTrips", inPlace := ["slices.overlaps[loop.example/g00900/impl.Trip]"], unfollowed := true, recurses := true, apart := false }
def FnExactConflictingTripsSaid : Prop := fnExactConflictingTripsRow.holds Tryz.pinned (OpenSpec.ofChange fnExactConflictingTripsSpec)

/-- ITS FALSE NEIGHBOUR: 'it returns false'. Refute it at one input. -/
def fnExactConflictingTripsWrong : ChangeSpec := { name := "fnExactConflictingTrips", fn := fun _ => fun
  | [d1, d2, d3] => { results := [.lit (.bool false)], args := [d1, d2, d3] }
  | _ => none }
def FnExactConflictingTripsWrongFalsely : Prop := fnExactConflictingTripsRow.holds Tryz.pinned (OpenSpec.ofChange fnExactConflictingTripsWrong)

/-- 'laws.FnExactMatchReports': WHATEVER THE INPUT: true; the input reads as it did. -/
def fnExactMatchReportsSpec : ChangeSpec := { name := "fnExactMatchReports", fn := fun _ => fun
  | [d1, d2, d3] => { results := [.lit (.bool true)], args := [d1, d2, d3] }
  | _ => none }
def fnExactMatchReportsRow : OpenClaim := { program := "ytmbaalkeogckbaagreat", sum := "87ee592dc5753d384e7c311ebead4302cfc241e09a6ebeaab9872017b4adcd1d", func := "loop.example/g00900/laws.FnExactMatchReports", spec := "fnExactMatchReports", unfollowed := true, recurses := true, apart := false }
def FnExactMatchReportsSaid : Prop := fnExactMatchReportsRow.holds Tryz.pinned (OpenSpec.ofChange fnExactMatchReportsSpec)

/-- ITS FALSE NEIGHBOUR: 'it returns false'. Refute it at one input. -/
def fnExactMatchReportsWrong : ChangeSpec := { name := "fnExactMatchReports", fn := fun _ => fun
  | [d1, d2, d3] => { results := [.lit (.bool false)], args := [d1, d2, d3] }
  | _ => none }
def FnExactMatchReportsWrongFalsely : Prop := fnExactMatchReportsRow.holds Tryz.pinned (OpenSpec.ofChange fnExactMatchReportsWrong)

/-- 'laws.FnExactMissingTrips': WHATEVER THE INPUT: true; the input reads as it did. -/
def fnExactMissingTripsSpec : ChangeSpec := { name := "fnExactMissingTrips", fn := fun _ => fun
  | [d1, d2, d3, d4] => { results := [.lit (.bool true)], args := [d1, d2, d3, d4] }
  | _ => none }
def fnExactMissingTripsRow : OpenClaim := { program := "ytmbaalkeogckbaagreat", sum := "87ee592dc5753d384e7c311ebead4302cfc241e09a6ebeaab9872017b4adcd1d", func := "loop.example/g00900/laws.FnExactMissingTrips", spec := "fnExactMissingTrips", unfollowed := true, recurses := true, apart := false }
def FnExactMissingTripsSaid : Prop := fnExactMissingTripsRow.holds Tryz.pinned (OpenSpec.ofChange fnExactMissingTripsSpec)

/-- ITS FALSE NEIGHBOUR: 'it returns false'. Refute it at one input. -/
def fnExactMissingTripsWrong : ChangeSpec := { name := "fnExactMissingTrips", fn := fun _ => fun
  | [d1, d2, d3, d4] => { results := [.lit (.bool false)], args := [d1, d2, d3, d4] }
  | _ => none }
def FnExactMissingTripsWrongFalsely : Prop := fnExactMissingTripsRow.holds Tryz.pinned (OpenSpec.ofChange fnExactMissingTripsWrong)

/-- 'laws.FnExactLostVehicles': WHATEVER THE INPUT: true; the input reads as it did. -/
def fnExactLostVehiclesSpec : ChangeSpec := { name := "fnExactLostVehicles", fn := fun _ => fun
  | [d1, d2, d3] => { results := [.lit (.bool true)], args := [d1, d2, d3] }
  | _ => none }
def fnExactLostVehiclesRow : OpenClaim := { program := "ytmbaalkeogckbaagreat", sum := "87ee592dc5753d384e7c311ebead4302cfc241e09a6ebeaab9872017b4adcd1d", func := "loop.example/g00900/laws.FnExactLostVehicles", spec := "fnExactLostVehicles", unfollowed := true, recurses := true, apart := false }
def FnExactLostVehiclesSaid : Prop := fnExactLostVehiclesRow.holds Tryz.pinned (OpenSpec.ofChange fnExactLostVehiclesSpec)

/-- ITS FALSE NEIGHBOUR: 'it returns false'. Refute it at one input. -/
def fnExactLostVehiclesWrong : ChangeSpec := { name := "fnExactLostVehicles", fn := fun _ => fun
  | [d1, d2, d3] => { results := [.lit (.bool false)], args := [d1, d2, d3] }
  | _ => none }
def FnExactLostVehiclesWrongFalsely : Prop := fnExactLostVehiclesRow.holds Tryz.pinned (OpenSpec.ofChange fnExactLostVehiclesWrong)

/- THE SECOND FORM. 'bulk': how many values and letters a reading holds, each counted each time it is reached (what is shared counts as often as it is met; a slice's spare places count too). A statement '..UptoSaid' is the law's where the arguments, and the package variables that the reading takes, are together of bulk at most 1048576: NARROWER than '..Said'. Prove '..Said' where nothing that the law and all that it calls make is longer than what came in: it says more and counts as full. Else prove '..UptoSaid'. A law counts once. -/
mutual
def uptoBulk {H : Type} : DataW H → Nat
  | .lit (.string bytes) => bytes.length + 1
  | .lit _ => 1
  | .nil => 1
  | .ptr d => uptoBulk d + 1
  | .slice elems spare => uptoBulkAll elems + uptoBulkAll spare + 1
  | .agg parts => uptoBulkAll parts + 1
  | .iface _ d => uptoBulk d + 1
  | .map entries => uptoBulkEntries entries + 1
  | .held _ => 1
def uptoBulkAll {H : Type} : List (DataW H) → Nat
  | [] => 0
  | d :: r => uptoBulk d + uptoBulkAll r
def uptoBulkEntries {H : Type} : List (Lit × DataW H) → Nat
  | [] => 0
  | x :: r => uptoBulkEntry x + uptoBulkEntries r
def uptoBulkEntry {H : Type} : Lit × DataW H → Nat
  | (.string bytes, d) => bytes.length + uptoBulk d + 1
  | (_, d) => uptoBulk d + 1
 end
def uptoSmall : (H : Type) → List (DataW H) → Bool := fun _ ds => decide (uptoBulkAll ds ≤ 1048576)
def OpenSpec.upto (s : _root_.Go.ChangeSpec) : _root_.Go.OpenSpec := { _root_.Go.OpenSpec.ofChange s with cond := some uptoSmall }

/-- 'laws.FnExactConflictingTrips', WHERE WHAT IT READS IS OF BULK AT MOST 1048576: true; the input reads as it did. -/
def fnExactConflictingTripsUptoRow : OpenClaim := { program := "ytmbaalkeogckbaagreat", sum := "87ee592dc5753d384e7c311ebead4302cfc241e09a6ebeaab9872017b4adcd1d", func := "loop.example/g00900/laws.FnExactConflictingTrips", spec := "fnExactConflictingTrips", inPlace := ["slices.overlaps[loop.example/g00900/impl.Trip]"], unfollowed := true, recurses := true, apart := false, narrowed := true }
def FnExactConflictingTripsUptoSaid : Prop := fnExactConflictingTripsUptoRow.holds Tryz.pinned (OpenSpec.upto fnExactConflictingTripsSpec)

/-- 'laws.FnExactMatchReports', WHERE WHAT IT READS IS OF BULK AT MOST 1048576: true; the input reads as it did. -/
def fnExactMatchReportsUptoRow : OpenClaim := { program := "ytmbaalkeogckbaagreat", sum := "87ee592dc5753d384e7c311ebead4302cfc241e09a6ebeaab9872017b4adcd1d", func := "loop.example/g00900/laws.FnExactMatchReports", spec := "fnExactMatchReports", unfollowed := true, recurses := true, apart := false, narrowed := true }
def FnExactMatchReportsUptoSaid : Prop := fnExactMatchReportsUptoRow.holds Tryz.pinned (OpenSpec.upto fnExactMatchReportsSpec)

/-- 'laws.FnExactMissingTrips', WHERE WHAT IT READS IS OF BULK AT MOST 1048576: true; the input reads as it did. -/
def fnExactMissingTripsUptoRow : OpenClaim := { program := "ytmbaalkeogckbaagreat", sum := "87ee592dc5753d384e7c311ebead4302cfc241e09a6ebeaab9872017b4adcd1d", func := "loop.example/g00900/laws.FnExactMissingTrips", spec := "fnExactMissingTrips", unfollowed := true, recurses := true, apart := false, narrowed := true }
def FnExactMissingTripsUptoSaid : Prop := fnExactMissingTripsUptoRow.holds Tryz.pinned (OpenSpec.upto fnExactMissingTripsSpec)

/-- 'laws.FnExactLostVehicles', WHERE WHAT IT READS IS OF BULK AT MOST 1048576: true; the input reads as it did. -/
def fnExactLostVehiclesUptoRow : OpenClaim := { program := "ytmbaalkeogckbaagreat", sum := "87ee592dc5753d384e7c311ebead4302cfc241e09a6ebeaab9872017b4adcd1d", func := "loop.example/g00900/laws.FnExactLostVehicles", spec := "fnExactLostVehicles", unfollowed := true, recurses := true, apart := false, narrowed := true }
def FnExactLostVehiclesUptoSaid : Prop := fnExactLostVehiclesUptoRow.holds Tryz.pinned (OpenSpec.upto fnExactLostVehiclesSpec)

end Rows
end Go.Proofs.YtmbaalkeogckbaaGreat
