/-
  DERIVED. GIVEN WITH THE SEED: THE CARDS: each row of YtnndgejlkljlaaaDoorRows.lean that lists a variable, with what it lists TIED to the program's text (the seventh form; the later family's looks); each row that meets fmt, with fmt's text TOLD by the authors' own Lean function (tested against real Go, not proved from fmt's source: count such statements apart). THE CARD IS WHAT COUNTS. Prove the row's statement (the work); the ties are given (YtnndgejlkljlaaaDoorTie.lean); close each card by the builder's one call (the guide's Derived/Test/ToyasCard.lean, 'card_holds'). Laid BY PROGRAM, IN A SANDBOX (cutbox-door.mjs). By AI agents, Wed Nov 11 2026. No macro, syntax, notation, axiom, sorry.
-/
import Derived.Test.YtnndgejlkljlaaaDoorRows
import GoSem.ClaimSeven
namespace Go.Proofs.YtnndgejlkljlaaaDoor
namespace Rows

/-- THE TIED CARD OF 'laws.FnExactCrashLog'. -/
def fnExactCrashLogCard : Claim7 := { stood := { row := fnExactCrashLogRow, standIns := [], harness := (true, "cd224db9f5476408a8f329f76a3b11d7875cce34721bb8919b0e23ae28d0a980"), looks := false }, kinds := [], alts := [], laidByText := true, laidKinds := [.data, .data, .data], laidTests := true, laidLooks := .later }
def FnExactCrashLogCardSaid : Prop := Claim7.holds Tryd.pinned (.plain (OpenSpec.ofChange fnExactCrashLogSpec)) fnExactCrashLogCard

/-- THE SECOND FORM's CARD OF 'laws.FnExactCrashLog'. -/
def fnExactCrashLogUptoCard : Claim7 := { stood := { row := fnExactCrashLogUptoRow, standIns := [], harness := (true, "cd224db9f5476408a8f329f76a3b11d7875cce34721bb8919b0e23ae28d0a980"), looks := false }, kinds := [], alts := [], laidByText := true, laidKinds := [.data, .data, .data], laidTests := true, laidLooks := .later }
def FnExactCrashLogUptoCardSaid : Prop := Claim7.holds Tryd.pinned (.plain (OpenSpec.upto fnExactCrashLogSpec)) fnExactCrashLogUptoCard
end Rows
end Go.Proofs.YtnndgejlkljlaaaDoor
