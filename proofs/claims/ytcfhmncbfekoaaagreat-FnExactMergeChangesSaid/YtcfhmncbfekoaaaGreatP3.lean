/- PROVED: FnExactMergeChangesSaid: whatever the timetable and the two lists of changes, the program's MergeChanges answers as the reference's does, leaves its arguments as they were, and shares memory with nothing. Conditions: none. -/
import Derived.Test.YtcfhmncbfekoaaaGreatW
import Derived.Test.YtcfhmncbfekoaaaGreatG3
namespace Go.Proofs.YtcfhmncbfekoaaaGreat.fnExactMergeChanges
set_option maxRecDepth 100000
open Go Go.Am Go.ChangeShapes Go.WideShapes Go.ChangeAt Go.RowKit

theorem call (dds : List D) (hl : dds.length = 3) (h : ∀ (j : Nat) t dd, [28, 29, 29][j]? = some t → dds[j]? = some dd → WTv Tryz.prog t dd) : CallOk Tryz.prog 3 (dds.map .imm) { res := [.imm (.bool true)] } := by
  match dds, hl with
  | [d0, d1, d2], _ =>
    have hs : ∀ (j : Nat) t dd, [28, 29, 29][j]? = some t → [d0, d1, d2][j]? = some dd → WTv Tryz.prog t dd := h
    have h0 : WTv Tryz.prog 28 d0 := hs 0 28 d0 rfl rfl
    have h1 : WTv Tryz.prog 29 d1 := hs 1 29 d1 rfl rfl
    have h2 : WTv Tryz.prog 29 d2 := hs 2 29 d2 rfl rfl
    clear h hs
    refine timetableV_of (fun d => CallOk Tryz.prog 3 ([d, d1, d2].map .imm) { res := [.imm (.bool true)] }) d0 h0 ?_
    intro x0 hok0
    refine changes_of (fun d => CallOk Tryz.prog 3 ([(.agg x0.enc), d, d2].map .imm) { res := [.imm (.bool true)] }) d1 h1 ?_
    intro x1 hok1 hl1
    refine changes_of (fun d => CallOk Tryz.prog 3 ([(.agg x0.enc), (.list (x1.map Change.enc)), d].map .imm) { res := [.imm (.bool true)] }) d2 h2 ?_
    intro x2 hok2 hl2
    exact c3 x0 hok0 x1 hok1 hl1 x2 hok2 hl2

theorem lifted (os : Os) (started : os.Started) (H : Type) (enc : TypeId × Value → H) :
    ReturnsInHanded {} Tryz.checked os 3 .any (Rows.fnExactMergeChangesSpec.pre6 enc Tryz.prog Tryz.f3 Rows.fnExactMergeChangesRow.domain false) (Rows.fnExactMergeChangesSpec.post enc Tryz.prog Tryz.f3 false true false false) := by
  refine returnsInHanded_of_change (C := Tryz.checked) own started (by kernel_rfl) Tryz.func3
    (ChangeSpec.witness6 (enc := enc) (C := Tryz.checked) false ⟨#[], #[.agg #[.slice none 0 0, .slice none 0 0, .slice none 0 0], .slice none 0 0, .slice none 0 0], []⟩ 8 (by kernel_rfl) (by kernel_rfl) (by kernel_rfl) (by kernel_rfl)) ?_
  intro W base args ds gs before hval hW _ _
  exact law_step (f := Tryz.f3) (ts := [28, 29, 29]) (tb := 4) rfl rfl Tryz.underlying4 rfl (fun ds hds => by
    match ds, hds with
    | [d0, d1, d2], _ => rfl) laidOut (by kernel_rfl) call hval hW (tb_of_nil rfl)

theorem proved : Rows.FnExactMergeChangesSaid :=
  OpenClaim.holds_of_wide 3 Tryz.f3 rfl rfl rfl rfl rfl rfl rfl ⟨rfl, rfl, rfl, rfl, rfl⟩ rfl rfl rfl rfl rfl (by kernel_rfl) Tryz.func3 (by kernel_rfl)
    (of_decide_eq_true (by kernel_rfl)) (by unfold Func.isWrapper; first | (rw [if_pos (by decide +kernel)]; kernel_rfl) | (rw [if_neg (by decide +kernel)]; exact ⟨rfl, rfl⟩))
    (fun os started H enc _ => lifted os started H enc)

#print axioms proved
end Go.Proofs.YtcfhmncbfekoaaaGreat.fnExactMergeChanges

