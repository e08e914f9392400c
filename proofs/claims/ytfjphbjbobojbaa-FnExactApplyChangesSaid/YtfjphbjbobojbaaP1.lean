/- PROVED: FnExactApplyChangesSaid: whatever the timetable and the changes, the program's ApplyChanges answers as the reference's does, leaves its arguments as they were, and shares memory with nothing. Conditions: none. -/
import Derived.Test.YtfjphbjbobojbaaW
import Derived.Test.YtfjphbjbobojbaaX12
namespace Go.Proofs.Ytfjphbjbobojbaa.fnExactApplyChanges
set_option maxRecDepth 100000
open Go Go.Am Go.ChangeShapes Go.WideShapes Go.ChangeAt Go.RowKit

theorem call (dds : List D) (hl : dds.length = 2) (h : ∀ (j : Nat) t dd, [28, 29][j]? = some t → dds[j]? = some dd → WTv Try.prog t dd) : CallOk Try.prog 3 (dds.map .imm) { res := [.imm (.bool true)] } := by
  match dds, hl with
  | [d0, d1], _ =>
    have hs : ∀ (j : Nat) t dd, [28, 29][j]? = some t → [d0, d1][j]? = some dd → WTv Try.prog t dd := h
    have h0 : WTv Try.prog 28 d0 := hs 0 28 d0 rfl rfl
    have h1 : WTv Try.prog 29 d1 := hs 1 29 d1 rfl rfl
    clear h hs
    refine timetableV_of (fun d => CallOk Try.prog 3 ([d, d1].map .imm) { res := [.imm (.bool true)] }) d0 h0 ?_
    intro x0 hok0
    refine changes_of (fun d => CallOk Try.prog 3 ([(.agg x0.enc), d].map .imm) { res := [.imm (.bool true)] }) d1 h1 ?_
    intro x1 hok1 hl1
    exact c3 x0 hok0 x1 hok1 hl1

theorem lifted (os : Os) (started : os.Started) (H : Type) (enc : TypeId × Value → H) :
    ReturnsInHanded {} Try.checked os 3 .any (Rows.fnExactApplyChangesSpec.pre6 enc Try.prog Try.f3 Rows.fnExactApplyChangesRow.domain false) (Rows.fnExactApplyChangesSpec.post enc Try.prog Try.f3 false true false false) := by
  refine returnsInHanded_of_change (C := Try.checked) own started (by kernel_rfl) Try.func3
    (ChangeSpec.witness6 (enc := enc) (C := Try.checked) false ⟨#[], #[.agg #[.slice none 0 0, .slice none 0 0, .slice none 0 0], .slice none 0 0], []⟩ 8 (by kernel_rfl) (by kernel_rfl) (by kernel_rfl) (by kernel_rfl)) ?_
  intro W base args ds gs before hval hW _ _
  exact law_step (f := Try.f3) (ts := [28, 29]) (tb := 4) rfl rfl Try.underlying4 rfl (fun ds hds => by
    match ds, hds with
    | [d0, d1], _ => rfl) laidOut (by kernel_rfl) call hval hW (tb_of_nil rfl)

theorem proved : Rows.FnExactApplyChangesSaid :=
  OpenClaim.holds_of_wide 3 Try.f3 rfl rfl rfl rfl rfl rfl rfl ⟨rfl, rfl, rfl, rfl, rfl⟩ rfl rfl rfl rfl rfl (by kernel_rfl) Try.func3 (by kernel_rfl)
    (of_decide_eq_true (by kernel_rfl)) (by unfold Func.isWrapper; first | (rw [if_pos (by decide +kernel)]; kernel_rfl) | (rw [if_neg (by decide +kernel)]; exact ⟨rfl, rfl⟩))
    (fun os started H enc _ => lifted os started H enc)

#print axioms proved
end Go.Proofs.Ytfjphbjbobojbaa.fnExactApplyChanges

