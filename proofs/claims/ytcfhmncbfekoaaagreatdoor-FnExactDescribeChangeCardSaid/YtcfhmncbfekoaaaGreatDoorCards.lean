/-
  DERIVED. GIVEN WITH THE SEED: THE CARDS: each row of YtcfhmncbfekoaaaGreatDoorRows.lean that lists a variable, with what it lists TIED to the program's text (the seventh form; the later family's looks); each row that meets fmt, with fmt's text TOLD by the authors' own Lean function (tested against real Go, not proved from fmt's source: count such statements apart). THE CARD IS WHAT COUNTS. Prove the row's statement (the work); the ties are given (YtcfhmncbfekoaaaGreatDoorTie.lean); close each card by the builder's one call (the guide's Derived/Test/ToyasCard.lean, 'card_holds'). Laid BY PROGRAM, IN A SANDBOX (cutbox-door.mjs). By AI agents, Wed Nov 11 2026. No macro, syntax, notation, axiom, sorry.
-/
import Derived.Test.YtcfhmncbfekoaaaGreatDoorRows
import GoSem.ClaimSeven
namespace Go.Proofs.YtcfhmncbfekoaaaGreatDoor
namespace Rows

/-- THE TIED CARD OF 'laws.FnExactDescribeChange'. -/
def fnExactDescribeChangeCard : Claim7 := { stood := { row := fnExactDescribeChangeRow, standIns := [], harness := (true, "85d2af8225614c19ca138b2385d7f46cffc931f6751271349a4bf7089ba250c0"), looks := false }, kinds := [], alts := [], laidByText := true, laidKinds := [.data, .data, .data], laidTests := true, laidLooks := .later }
def FnExactDescribeChangeCardSaid : Prop := Claim7.holds Tryz.pinned (.plain (OpenSpec.ofChange fnExactDescribeChangeSpec)) fnExactDescribeChangeCard

/-- THE TIED CARD OF 'laws.FnExactDiffTimetables'. -/
def fnExactDiffTimetablesCard : Claim7 := { stood := { row := fnExactDiffTimetablesRow, standIns := [], harness := (true, "85d2af8225614c19ca138b2385d7f46cffc931f6751271349a4bf7089ba250c0"), looks := false }, kinds := [], alts := [], laidByText := true, laidKinds := [.data, .data, .data], laidTests := true, laidLooks := .later }
def FnExactDiffTimetablesCardSaid : Prop := Claim7.holds Tryz.pinned (.plain (OpenSpec.ofChange fnExactDiffTimetablesSpec)) fnExactDiffTimetablesCard

/-- THE TIED CARD OF 'laws.FnExactBoardText'. -/
def fnExactBoardTextCard : Claim7 := { stood := { row := fnExactBoardTextRow, standIns := [], harness := (true, "85d2af8225614c19ca138b2385d7f46cffc931f6751271349a4bf7089ba250c0"), looks := false }, kinds := [], alts := [], laidByText := true, laidKinds := [.data, .data, .data], laidTests := true, laidLooks := .later }
def FnExactBoardTextCardSaid : Prop := Claim7.holds Tryz.pinned (.plain (OpenSpec.ofChange fnExactBoardTextSpec)) fnExactBoardTextCard

/-- THE SECOND FORM's CARD OF 'laws.FnExactDescribeChange'. -/
def fnExactDescribeChangeUptoCard : Claim7 := { stood := { row := fnExactDescribeChangeUptoRow, standIns := [], harness := (true, "85d2af8225614c19ca138b2385d7f46cffc931f6751271349a4bf7089ba250c0"), looks := false }, kinds := [], alts := [], laidByText := true, laidKinds := [.data, .data, .data], laidTests := true, laidLooks := .later }
def FnExactDescribeChangeUptoCardSaid : Prop := Claim7.holds Tryz.pinned (.plain (OpenSpec.upto fnExactDescribeChangeSpec)) fnExactDescribeChangeUptoCard

/-- THE SECOND FORM's CARD OF 'laws.FnExactDiffTimetables'. -/
def fnExactDiffTimetablesUptoCard : Claim7 := { stood := { row := fnExactDiffTimetablesUptoRow, standIns := [], harness := (true, "85d2af8225614c19ca138b2385d7f46cffc931f6751271349a4bf7089ba250c0"), looks := false }, kinds := [], alts := [], laidByText := true, laidKinds := [.data, .data, .data], laidTests := true, laidLooks := .later }
def FnExactDiffTimetablesUptoCardSaid : Prop := Claim7.holds Tryz.pinned (.plain (OpenSpec.upto fnExactDiffTimetablesSpec)) fnExactDiffTimetablesUptoCard

/-- THE SECOND FORM's CARD OF 'laws.FnExactBoardText'. -/
def fnExactBoardTextUptoCard : Claim7 := { stood := { row := fnExactBoardTextUptoRow, standIns := [], harness := (true, "85d2af8225614c19ca138b2385d7f46cffc931f6751271349a4bf7089ba250c0"), looks := false }, kinds := [], alts := [], laidByText := true, laidKinds := [.data, .data, .data], laidTests := true, laidLooks := .later }
def FnExactBoardTextUptoCardSaid : Prop := Claim7.holds Tryz.pinned (.plain (OpenSpec.upto fnExactBoardTextSpec)) fnExactBoardTextUptoCard
end Rows
end Go.Proofs.YtcfhmncbfekoaaaGreatDoor
