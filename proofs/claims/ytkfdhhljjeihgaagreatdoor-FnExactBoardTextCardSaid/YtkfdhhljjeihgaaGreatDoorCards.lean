/-
  DERIVED. GIVEN WITH THE SEED: THE CARDS: each row of YtkfdhhljjeihgaaGreatDoorRows.lean that lists a variable, with what it lists TIED to the program's text (the seventh form; the later family's looks); each row that meets fmt, with fmt's text TOLD by the authors' own Lean function (tested against real Go, not proved from fmt's source: count such statements apart). THE CARD IS WHAT COUNTS. Prove the row's statement (the work); the ties are given (YtkfdhhljjeihgaaGreatDoorTie.lean); close each card by the builder's one call (the guide's Derived/Test/ToyasCard.lean, 'card_holds'). Laid BY PROGRAM, IN A SANDBOX (cutbox-door.mjs). By AI agents, Wed Nov 11 2026. No macro, syntax, notation, axiom, sorry.
-/
import Derived.Test.YtkfdhhljjeihgaaGreatDoorRows
import GoSem.ClaimSeven
namespace Go.Proofs.YtkfdhhljjeihgaaGreatDoor
namespace Rows

/-- THE TIED CARD OF 'laws.FnExactBoardText'. -/
def fnExactBoardTextCard : Claim7 := { stood := { row := fnExactBoardTextRow, standIns := [], harness := (true, "56382e99d48cad88f9bc68f7706e98b96c4560578ac0bd2cc2ac0c837319a786"), looks := false }, kinds := [], alts := [], laidByText := true, laidKinds := [.data, .data, .data], laidTests := true, laidLooks := .later }
def FnExactBoardTextCardSaid : Prop := Claim7.holds Tryz.pinned (.plain (OpenSpec.ofChange fnExactBoardTextSpec)) fnExactBoardTextCard

/-- THE SECOND FORM's CARD OF 'laws.FnExactBoardText'. -/
def fnExactBoardTextUptoCard : Claim7 := { stood := { row := fnExactBoardTextUptoRow, standIns := [], harness := (true, "56382e99d48cad88f9bc68f7706e98b96c4560578ac0bd2cc2ac0c837319a786"), looks := false }, kinds := [], alts := [], laidByText := true, laidKinds := [.data, .data, .data], laidTests := true, laidLooks := .later }
def FnExactBoardTextUptoCardSaid : Prop := Claim7.holds Tryz.pinned (.plain (OpenSpec.upto fnExactBoardTextSpec)) fnExactBoardTextUptoCard
end Rows
end Go.Proofs.YtkfdhhljjeihgaaGreatDoor
