/-
  DERIVED. GIVEN WITH THE SEED: THE CARDS: each row of YtekilollacmajaaGreatDoorRows.lean that lists a variable, with what it lists TIED to the program's text (the seventh form; the later family's looks); each row that meets fmt, with fmt's text TOLD by the authors' own Lean function (tested against real Go, not proved from fmt's source: count such statements apart). THE CARD IS WHAT COUNTS. Prove the row's statement (the work); the ties are given (YtekilollacmajaaGreatDoorTie.lean); close each card by the builder's one call (the guide's Derived/Test/ToyasCard.lean, 'card_holds'). Laid BY PROGRAM, IN A SANDBOX (cutbox-door.mjs). By AI agents, Wed Nov 11 2026. No macro, syntax, notation, axiom, sorry.
-/
import Derived.Test.YtekilollacmajaaGreatDoorRows
import GoSem.ClaimSeven
namespace Go.Proofs.YtekilollacmajaaGreatDoor
namespace Rows

/-- THE TIED CARD OF 'laws.FnExactDiffTimetables'. -/
def fnExactDiffTimetablesCard : Claim7 := { stood := { row := fnExactDiffTimetablesRow, standIns := [], harness := (true, "d29d09c715bfb3c4b11b3a1ae52d10dea0ac0546e23a41d31055504458e18b96"), looks := false }, kinds := [], alts := [], laidByText := true, laidKinds := [.data, .data, .data], laidTests := true, laidLooks := .later }
def FnExactDiffTimetablesCardSaid : Prop := Claim7.holds Tryz.pinned (.plain (OpenSpec.ofChange fnExactDiffTimetablesSpec)) fnExactDiffTimetablesCard

/-- THE SECOND FORM's CARD OF 'laws.FnExactDiffTimetables'. -/
def fnExactDiffTimetablesUptoCard : Claim7 := { stood := { row := fnExactDiffTimetablesUptoRow, standIns := [], harness := (true, "d29d09c715bfb3c4b11b3a1ae52d10dea0ac0546e23a41d31055504458e18b96"), looks := false }, kinds := [], alts := [], laidByText := true, laidKinds := [.data, .data, .data], laidTests := true, laidLooks := .later }
def FnExactDiffTimetablesUptoCardSaid : Prop := Claim7.holds Tryz.pinned (.plain (OpenSpec.upto fnExactDiffTimetablesSpec)) fnExactDiffTimetablesUptoCard
end Rows
end Go.Proofs.YtekilollacmajaaGreatDoor
