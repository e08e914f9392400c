/-
  DERIVED. GIVEN WITH THE SEED: THE CARDS: each row of YtlkmbamenkjcmaaDoorRows.lean that lists a variable, with what it lists TIED to the program's text (the seventh form; the later family's looks); each row that meets fmt, with fmt's text TOLD by the authors' own Lean function (tested against real Go, not proved from fmt's source: count such statements apart). THE CARD IS WHAT COUNTS. Prove the row's statement (the work); the ties are given (YtlkmbamenkjcmaaDoorTie.lean); close each card by the builder's one call (the guide's Derived/Test/ToyasCard.lean, 'card_holds'). Laid BY PROGRAM, IN A SANDBOX (cutbox-door.mjs). By AI agents, Wed Nov 11 2026. No macro, syntax, notation, axiom, sorry.
-/
import Derived.Test.YtlkmbamenkjcmaaDoorRows
import GoSem.ClaimSeven
namespace Go.Proofs.YtlkmbamenkjcmaaDoor
namespace Rows

/-- THE TIED CARD OF 'laws.FnExactMessageText'. -/
def fnExactMessageTextCard : Claim7 := { stood := { row := fnExactMessageTextRow, standIns := [], harness := (true, "cba17fdee107b8ce0407d83790e5f7fc0292438e1f8944748833b20e0f7d7561"), looks := false }, kinds := [], alts := [], laidByText := true, laidKinds := [.data, .data, .data], laidTests := true, laidLooks := .later }
def FnExactMessageTextCardSaid : Prop := Claim7.holds Tryd.pinned (.plain (OpenSpec.ofChange fnExactMessageTextSpec)) fnExactMessageTextCard

/-- THE TIED CARD OF 'laws.FnExactNoticeText'. -/
def fnExactNoticeTextCard : Claim7 := { stood := { row := fnExactNoticeTextRow, standIns := [], harness := (true, "cba17fdee107b8ce0407d83790e5f7fc0292438e1f8944748833b20e0f7d7561"), looks := false }, kinds := [], alts := [], laidByText := true, laidKinds := [.data, .data, .data], laidTests := true, laidLooks := .later }
def FnExactNoticeTextCardSaid : Prop := Claim7.holds Tryd.pinned (.plain (OpenSpec.ofChange fnExactNoticeTextSpec)) fnExactNoticeTextCard

/-- THE TIED CARD OF 'laws.FnExactRowText'. -/
def fnExactRowTextCard : Claim7 := { stood := { row := fnExactRowTextRow, standIns := [], harness := (true, "cba17fdee107b8ce0407d83790e5f7fc0292438e1f8944748833b20e0f7d7561"), looks := false }, kinds := [], alts := [], laidByText := true, laidKinds := [.data, .data, .data], laidTests := true, laidLooks := .later }
def FnExactRowTextCardSaid : Prop := Claim7.holds Tryd.pinned (.plain (OpenSpec.ofChange fnExactRowTextSpec)) fnExactRowTextCard

/-- THE SECOND FORM's CARD OF 'laws.FnExactMessageText'. -/
def fnExactMessageTextUptoCard : Claim7 := { stood := { row := fnExactMessageTextUptoRow, standIns := [], harness := (true, "cba17fdee107b8ce0407d83790e5f7fc0292438e1f8944748833b20e0f7d7561"), looks := false }, kinds := [], alts := [], laidByText := true, laidKinds := [.data, .data, .data], laidTests := true, laidLooks := .later }
def FnExactMessageTextUptoCardSaid : Prop := Claim7.holds Tryd.pinned (.plain (OpenSpec.upto fnExactMessageTextSpec)) fnExactMessageTextUptoCard

/-- THE SECOND FORM's CARD OF 'laws.FnExactNoticeText'. -/
def fnExactNoticeTextUptoCard : Claim7 := { stood := { row := fnExactNoticeTextUptoRow, standIns := [], harness := (true, "cba17fdee107b8ce0407d83790e5f7fc0292438e1f8944748833b20e0f7d7561"), looks := false }, kinds := [], alts := [], laidByText := true, laidKinds := [.data, .data, .data], laidTests := true, laidLooks := .later }
def FnExactNoticeTextUptoCardSaid : Prop := Claim7.holds Tryd.pinned (.plain (OpenSpec.upto fnExactNoticeTextSpec)) fnExactNoticeTextUptoCard

/-- THE SECOND FORM's CARD OF 'laws.FnExactRowText'. -/
def fnExactRowTextUptoCard : Claim7 := { stood := { row := fnExactRowTextUptoRow, standIns := [], harness := (true, "cba17fdee107b8ce0407d83790e5f7fc0292438e1f8944748833b20e0f7d7561"), looks := false }, kinds := [], alts := [], laidByText := true, laidKinds := [.data, .data, .data], laidTests := true, laidLooks := .later }
def FnExactRowTextUptoCardSaid : Prop := Claim7.holds Tryd.pinned (.plain (OpenSpec.upto fnExactRowTextSpec)) fnExactRowTextUptoCard
end Rows
end Go.Proofs.YtlkmbamenkjcmaaDoor
