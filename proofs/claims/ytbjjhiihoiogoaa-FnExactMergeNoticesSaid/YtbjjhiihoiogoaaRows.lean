/-
  No cell of these rows narrows 'for every input' (looked for: loops, veiled, ifaces, maps, wideKeys, modest, calm, conditions, laid).
  DERIVED. THE GIVEN ROWS OF THIS SEAT. 6 by the template 'for every input the law returns true; each argument reads behind the call as it read before'; 0 by the template 'total and deterministic' (their statements: YtbjjhiihoiogoaaTotals.lean).
  GIVEN WITH THE SEED: the statements are not yours to turn. If you find one false, say at which input.
  Laid BY PROGRAM, IN A SANDBOX (cutbox-rows.mjs): the forced cells as the released guide's own fill.sh prints them over the translation 27576d8b2878a160… (all of the seat's roots in one cut). By AI agents, Wed Nov 11 2026. No macro, syntax, notation, axiom, sorry.
-/
import Derived.Test.YtbjjhiihoiogoaaChecked
import GoSem.Claim
import GoSem.ClaimJoined
import GoSem.ClaimMapViews
import Derived.JoinedTies
import Derived.KernelRfl
namespace Go.Proofs.Ytbjjhiihoiogoaa
/- THE CELL 'sum', in the pinned program and in every row, IS THE sha256 OF THE DUMP (.gsa) THAT YtbjjhiihoiogoaaProg.lean LOADS. Nothing in Lean hashes anything: it is a label: what it is worth is what the hold of that sum in a sandbox is worth. -/
noncomputable def Try.pinned : Pinned := { name := "ytbjjhiihoiogoaa", sum := "27576d8b2878a16047a6762378e42ae6443b8442fb9aedc2896e58f8a05fcc0e", checked := Try.checked }
namespace Rows
def none {H : Type} : Left H := { results := [], args := [] }

/-- 'laws.FnServiceDays': WHATEVER THE INPUT: true; the input reads as it did. -/
def fnServiceDaysSpec : ChangeSpec := { name := "fnServiceDays", fn := fun _ => fun
  | [d] => { results := [.lit (.bool true)], args := [d] }
  | _ => none }
def fnServiceDaysRow : OpenClaim := { program := "ytbjjhiihoiogoaa", sum := "27576d8b2878a16047a6762378e42ae6443b8442fb9aedc2896e58f8a05fcc0e", func := "loop.example/g00900/laws.FnServiceDays", spec := "fnServiceDays", apart := false }
def FnServiceDaysSaid : Prop := fnServiceDaysRow.holds Try.pinned (OpenSpec.ofChange fnServiceDaysSpec)

/-- ITS FALSE NEIGHBOUR: 'it returns false'. Refute it at one input. -/
def fnServiceDaysWrong : ChangeSpec := { name := "fnServiceDays", fn := fun _ => fun
  | [d] => { results := [.lit (.bool false)], args := [d] }
  | _ => none }
def FnServiceDaysWrongFalsely : Prop := fnServiceDaysRow.holds Try.pinned (OpenSpec.ofChange fnServiceDaysWrong)

/-- 'laws.FnLevels': WHATEVER THE INPUT: true; the input reads as it did. -/
def fnLevelsSpec : ChangeSpec := { name := "fnLevels", fn := fun _ => fun
  | [d] => { results := [.lit (.bool true)], args := [d] }
  | _ => none }
def fnLevelsRow : OpenClaim := { program := "ytbjjhiihoiogoaa", sum := "27576d8b2878a16047a6762378e42ae6443b8442fb9aedc2896e58f8a05fcc0e", func := "loop.example/g00900/laws.FnLevels", spec := "fnLevels", unfollowed := true, recurses := true, apart := false }
def FnLevelsSaid : Prop := fnLevelsRow.holds Try.pinned (OpenSpec.ofChange fnLevelsSpec)

/-- ITS FALSE NEIGHBOUR: 'it returns false'. Refute it at one input. -/
def fnLevelsWrong : ChangeSpec := { name := "fnLevels", fn := fun _ => fun
  | [d] => { results := [.lit (.bool false)], args := [d] }
  | _ => none }
def FnLevelsWrongFalsely : Prop := fnLevelsRow.holds Try.pinned (OpenSpec.ofChange fnLevelsWrong)

/-- 'laws.FnDepots': WHATEVER THE INPUT: true; the input reads as it did. -/
def fnDepotsSpec : ChangeSpec := { name := "fnDepots", fn := fun _ => fun
  | [d] => { results := [.lit (.bool true)], args := [d] }
  | _ => none }
def fnDepotsRow : OpenClaim := { program := "ytbjjhiihoiogoaa", sum := "27576d8b2878a16047a6762378e42ae6443b8442fb9aedc2896e58f8a05fcc0e", func := "loop.example/g00900/laws.FnDepots", spec := "fnDepots", apart := false }
def FnDepotsSaid : Prop := fnDepotsRow.holds Try.pinned (OpenSpec.ofChange fnDepotsSpec)

/-- ITS FALSE NEIGHBOUR: 'it returns false'. Refute it at one input. -/
def fnDepotsWrong : ChangeSpec := { name := "fnDepots", fn := fun _ => fun
  | [d] => { results := [.lit (.bool false)], args := [d] }
  | _ => none }
def FnDepotsWrongFalsely : Prop := fnDepotsRow.holds Try.pinned (OpenSpec.ofChange fnDepotsWrong)

/-- 'laws.FnReach': WHATEVER THE INPUT: true; the input reads as it did. -/
def fnReachSpec : ChangeSpec := { name := "fnReach", fn := fun _ => fun
  | [d] => { results := [.lit (.bool true)], args := [d] }
  | _ => none }
def fnReachRow : OpenClaim := { program := "ytbjjhiihoiogoaa", sum := "27576d8b2878a16047a6762378e42ae6443b8442fb9aedc2896e58f8a05fcc0e", func := "loop.example/g00900/laws.FnReach", spec := "fnReach", recurses := true, apart := false }
def FnReachSaid : Prop := fnReachRow.holds Try.pinned (OpenSpec.ofChange fnReachSpec)

/-- ITS FALSE NEIGHBOUR: 'it returns false'. Refute it at one input. -/
def fnReachWrong : ChangeSpec := { name := "fnReach", fn := fun _ => fun
  | [d] => { results := [.lit (.bool false)], args := [d] }
  | _ => none }
def FnReachWrongFalsely : Prop := fnReachRow.holds Try.pinned (OpenSpec.ofChange fnReachWrong)

/-- 'laws.FnExactMergeNotices': WHATEVER THE INPUT: true; the input reads as it did. -/
def fnExactMergeNoticesSpec : ChangeSpec := { name := "fnExactMergeNotices", fn := fun _ => fun
  | [d1, d2] => { results := [.lit (.bool true)], args := [d1, d2] }
  | _ => none }
def fnExactMergeNoticesRow : OpenClaim := { program := "ytbjjhiihoiogoaa", sum := "27576d8b2878a16047a6762378e42ae6443b8442fb9aedc2896e58f8a05fcc0e", func := "loop.example/g00900/laws.FnExactMergeNotices", spec := "fnExactMergeNotices", unfollowed := true, recurses := true, apart := false }
def FnExactMergeNoticesSaid : Prop := fnExactMergeNoticesRow.holds Try.pinned (OpenSpec.ofChange fnExactMergeNoticesSpec)

/-- ITS FALSE NEIGHBOUR: 'it returns false'. Refute it at one input. -/
def fnExactMergeNoticesWrong : ChangeSpec := { name := "fnExactMergeNotices", fn := fun _ => fun
  | [d1, d2] => { results := [.lit (.bool false)], args := [d1, d2] }
  | _ => none }
def FnExactMergeNoticesWrongFalsely : Prop := fnExactMergeNoticesRow.holds Try.pinned (OpenSpec.ofChange fnExactMergeNoticesWrong)

/-- 'laws.FnExactCheapestTickets': WHATEVER THE INPUT: true; the input reads as it did. -/
def fnExactCheapestTicketsSpec : ChangeSpec := { name := "fnExactCheapestTickets", fn := fun _ => fun
  | [d1, d2] => { results := [.lit (.bool true)], args := [d1, d2] }
  | _ => none }
def fnExactCheapestTicketsRow : OpenClaim := { program := "ytbjjhiihoiogoaa", sum := "27576d8b2878a16047a6762378e42ae6443b8442fb9aedc2896e58f8a05fcc0e", func := "loop.example/g00900/laws.FnExactCheapestTickets", spec := "fnExactCheapestTickets", apart := false }
def FnExactCheapestTicketsSaid : Prop := fnExactCheapestTicketsRow.holds Try.pinned (OpenSpec.ofChange fnExactCheapestTicketsSpec)

/-- ITS FALSE NEIGHBOUR: 'it returns false'. Refute it at one input. -/
def fnExactCheapestTicketsWrong : ChangeSpec := { name := "fnExactCheapestTickets", fn := fun _ => fun
  | [d1, d2] => { results := [.lit (.bool false)], args := [d1, d2] }
  | _ => none }
def FnExactCheapestTicketsWrongFalsely : Prop := fnExactCheapestTicketsRow.holds Try.pinned (OpenSpec.ofChange fnExactCheapestTicketsWrong)

/- THE SECOND FORM. 'bulk': how many values and letters a reading holds, each counted each time it is reached (what is shared counts as often as it is met; a slice's spare places count too). A statement '..UptoSaid' is the law's where the arguments, and the package variables that the reading takes, are together of bulk at most 1048576: NARROWER than '..Said'. Prove '..Said' where nothing that the law and all that it calls make is longer than what came in: it says more and counts as full. Else prove '..UptoSaid'. A law counts once. -/
mutual
def uptoBulk {H : Type} : DataW H → Nat
  | .lit (.string bytes) => bytes.length + 1
  | .lit _ => 1
  | .nil => 1
  | .ptr d => uptoBulk d + 1
  | .slice elems spare => uptoBulkAll elems + uptoBulkAll spare + 1
  | .agg parts => uptoBulkAll parts + 1
  | .iface _ d => uptoBulk d + 1
  | .map entries => uptoBulkEntries entries + 1
  | .held _ => 1
def uptoBulkAll {H : Type} : List (DataW H) → Nat
  | [] => 0
  | d :: r => uptoBulk d + uptoBulkAll r
def uptoBulkEntries {H : Type} : List (Lit × DataW H) → Nat
  | [] => 0
  | x :: r => uptoBulkEntry x + uptoBulkEntries r
def uptoBulkEntry {H : Type} : Lit × DataW H → Nat
  | (.string bytes, d) => bytes.length + uptoBulk d + 1
  | (_, d) => uptoBulk d + 1
 end
def uptoSmall : (H : Type) → List (DataW H) → Bool := fun _ ds => decide (uptoBulkAll ds ≤ 1048576)
def OpenSpec.upto (s : _root_.Go.ChangeSpec) : _root_.Go.OpenSpec := { _root_.Go.OpenSpec.ofChange s with cond := some uptoSmall }

/-- 'laws.FnServiceDays', WHERE WHAT IT READS IS OF BULK AT MOST 1048576: true; the input reads as it did. -/
def fnServiceDaysUptoRow : OpenClaim := { program := "ytbjjhiihoiogoaa", sum := "27576d8b2878a16047a6762378e42ae6443b8442fb9aedc2896e58f8a05fcc0e", func := "loop.example/g00900/laws.FnServiceDays", spec := "fnServiceDays", apart := false, narrowed := true }
def FnServiceDaysUptoSaid : Prop := fnServiceDaysUptoRow.holds Try.pinned (OpenSpec.upto fnServiceDaysSpec)

/-- 'laws.FnLevels', WHERE WHAT IT READS IS OF BULK AT MOST 1048576: true; the input reads as it did. -/
def fnLevelsUptoRow : OpenClaim := { program := "ytbjjhiihoiogoaa", sum := "27576d8b2878a16047a6762378e42ae6443b8442fb9aedc2896e58f8a05fcc0e", func := "loop.example/g00900/laws.FnLevels", spec := "fnLevels", unfollowed := true, recurses := true, apart := false, narrowed := true }
def FnLevelsUptoSaid : Prop := fnLevelsUptoRow.holds Try.pinned (OpenSpec.upto fnLevelsSpec)

/-- 'laws.FnDepots', WHERE WHAT IT READS IS OF BULK AT MOST 1048576: true; the input reads as it did. -/
def fnDepotsUptoRow : OpenClaim := { program := "ytbjjhiihoiogoaa", sum := "27576d8b2878a16047a6762378e42ae6443b8442fb9aedc2896e58f8a05fcc0e", func := "loop.example/g00900/laws.FnDepots", spec := "fnDepots", apart := false, narrowed := true }
def FnDepotsUptoSaid : Prop := fnDepotsUptoRow.holds Try.pinned (OpenSpec.upto fnDepotsSpec)

/-- 'laws.FnReach', WHERE WHAT IT READS IS OF BULK AT MOST 1048576: true; the input reads as it did. -/
def fnReachUptoRow : OpenClaim := { program := "ytbjjhiihoiogoaa", sum := "27576d8b2878a16047a6762378e42ae6443b8442fb9aedc2896e58f8a05fcc0e", func := "loop.example/g00900/laws.FnReach", spec := "fnReach", recurses := true, apart := false, narrowed := true }
def FnReachUptoSaid : Prop := fnReachUptoRow.holds Try.pinned (OpenSpec.upto fnReachSpec)

/-- 'laws.FnExactMergeNotices', WHERE WHAT IT READS IS OF BULK AT MOST 1048576: true; the input reads as it did. -/
def fnExactMergeNoticesUptoRow : OpenClaim := { program := "ytbjjhiihoiogoaa", sum := "27576d8b2878a16047a6762378e42ae6443b8442fb9aedc2896e58f8a05fcc0e", func := "loop.example/g00900/laws.FnExactMergeNotices", spec := "fnExactMergeNotices", unfollowed := true, recurses := true, apart := false, narrowed := true }
def FnExactMergeNoticesUptoSaid : Prop := fnExactMergeNoticesUptoRow.holds Try.pinned (OpenSpec.upto fnExactMergeNoticesSpec)

/-- 'laws.FnExactCheapestTickets', WHERE WHAT IT READS IS OF BULK AT MOST 1048576: true; the input reads as it did. -/
def fnExactCheapestTicketsUptoRow : OpenClaim := { program := "ytbjjhiihoiogoaa", sum := "27576d8b2878a16047a6762378e42ae6443b8442fb9aedc2896e58f8a05fcc0e", func := "loop.example/g00900/laws.FnExactCheapestTickets", spec := "fnExactCheapestTickets", apart := false, narrowed := true }
def FnExactCheapestTicketsUptoSaid : Prop := fnExactCheapestTicketsUptoRow.holds Try.pinned (OpenSpec.upto fnExactCheapestTicketsSpec)

end Rows
end Go.Proofs.Ytbjjhiihoiogoaa
