/- PROVED: FnExactSpeedOfSaid: whatever the timetable, the reports and the vehicle, the program's SpeedOf answers as the reference's does. Conditions: none. -/
import Derived.Test.YtiedooadnafghaaW
import Derived.Test.YtiedooadnafghaaE6
namespace Go.Proofs.Ytiedooadnafghaa.fnExactSpeedOf
set_option maxRecDepth 100000
open Go Go.Am Go.ChangeShapes Go.WideShapes Go.ChangeAt Go.RowKit

theorem call (dds : List D) (hl : dds.length = 3) (h : ∀ (j : Nat) t dd, [28, 85, 3][j]? = some t → dds[j]? = some dd → WTv Try.prog t dd) : CallOk Try.prog 12 (dds.map .imm) { res := [.imm (.bool true)] } := by
  match dds, hl with
  | [d0, d1, d2], _ =>
    have hs : ∀ (j : Nat) t dd, [28, 85, 3][j]? = some t → [d0, d1, d2][j]? = some dd → WTv Try.prog t dd := h
    have h0 : WTv Try.prog 28 d0 := hs 0 28 d0 rfl rfl
    have h1 : WTv Try.prog 85 d1 := hs 1 85 d1 rfl rfl
    have h2 : WTv Try.prog 3 d2 := hs 2 3 d2 rfl rfl
    clear h hs
    refine timetableV_of (fun d => CallOk Try.prog 12 ([d, d1, d2].map .imm) { res := [.imm (.bool true)] }) d0 h0 ?_
    intro x0 hok0
    refine reports_of (fun d => CallOk Try.prog 12 ([(.agg x0.enc), d, d2].map .imm) { res := [.imm (.bool true)] }) d1 h1 ?_
    intro x1 hok1 hl1
    refine int_of (fun d => CallOk Try.prog 12 ([(.agg x0.enc), (.list (x1.map Report.enc)), d].map .imm) { res := [.imm (.bool true)] }) d2 h2 ?_
    intro x2 hx2
    exact c12 x0 hok0 x1 hok1 hl1 x2 hx2

theorem lifted (os : Os) (started : os.Started) (H : Type) (enc : TypeId × Value → H) :
    ReturnsInHanded {} Try.checked os 12 .any (Rows.fnExactSpeedOfSpec.pre6 enc Try.prog Try.f12 Rows.fnExactSpeedOfRow.domain false) (Rows.fnExactSpeedOfSpec.post enc Try.prog Try.f12 false true false false) := by
  refine returnsInHanded_of_change (C := Try.checked) own started (by kernel_rfl) Try.func12
    (ChangeSpec.witness6 (enc := enc) (C := Try.checked) false ⟨#[], #[.agg #[.slice none 0 0, .slice none 0 0, .slice none 0 0], .slice none 0 0, .int .i64 0], []⟩ 8 (by kernel_rfl) (by kernel_rfl) (by kernel_rfl) (by kernel_rfl)) ?_
  intro W base args ds gs before hval hW _ _
  exact law_step (f := Try.f12) (ts := [28, 85, 3]) (tb := 4) rfl rfl Try.underlying4 rfl (fun ds hds => by
    match ds, hds with
    | [d0, d1, d2], _ => rfl) laidOut (by kernel_rfl) call hval hW (tb_of_nil rfl)

theorem proved : Rows.FnExactSpeedOfSaid :=
  OpenClaim.holds_of_wide 12 Try.f12 rfl rfl rfl rfl rfl rfl rfl ⟨rfl, rfl, rfl, rfl, rfl⟩ rfl rfl rfl rfl rfl (by kernel_rfl) Try.func12 (by kernel_rfl)
    (of_decide_eq_true (by kernel_rfl)) (by unfold Func.isWrapper; first | (rw [if_pos (by decide +kernel)]; kernel_rfl) | (rw [if_neg (by decide +kernel)]; exact ⟨rfl, rfl⟩))
    (fun os started H enc _ => lifted os started H enc)

#print axioms proved
end Go.Proofs.Ytiedooadnafghaa.fnExactSpeedOf

