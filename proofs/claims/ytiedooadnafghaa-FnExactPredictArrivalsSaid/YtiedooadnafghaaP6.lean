/- PROVED: FnExactPredictArrivalsSaid: whatever the timetable, the match and the minutes done, the program's PredictArrivals answers as the reference's does, leaves its arguments as they were, and shares memory with nothing. Conditions: none. -/
import Derived.Test.YtiedooadnafghaaW
import Derived.Test.YtiedooadnafghaaWX
namespace Go.Proofs.Ytiedooadnafghaa.fnExactPredictArrivals
set_option maxRecDepth 100000
open Go Go.Am Go.ChangeShapes Go.WideShapes Go.ChangeAt Go.RowKit

theorem call (dds : List D) (hl : dds.length = 3) (h : ∀ (j : Nat) t dd, [28, 46, 3][j]? = some t → dds[j]? = some dd → WTv Try.prog t dd) : CallOk Try.prog 4 (dds.map .imm) { res := [.imm (.bool true)] } := by
  match dds, hl with
  | [d0, d1, d2], _ =>
    have hs : ∀ (j : Nat) t dd, [28, 46, 3][j]? = some t → [d0, d1, d2][j]? = some dd → WTv Try.prog t dd := h
    have h0 : WTv Try.prog 28 d0 := hs 0 28 d0 rfl rfl
    have h1 : WTv Try.prog 46 d1 := hs 1 46 d1 rfl rfl
    have h2 : WTv Try.prog 3 d2 := hs 2 3 d2 rfl rfl
    clear h hs
    refine timetableV_of (fun d => CallOk Try.prog 4 ([d, d1, d2].map .imm) { res := [.imm (.bool true)] }) d0 h0 ?_
    intro x0 hok0
    refine matchV_of (fun d => CallOk Try.prog 4 ([(.agg x0.enc), d, d2].map .imm) { res := [.imm (.bool true)] }) d1 h1 ?_
    intro x1 hok1
    refine int_of (fun d => CallOk Try.prog 4 ([(.agg x0.enc), (.agg x1.enc), d].map .imm) { res := [.imm (.bool true)] }) d2 h2 ?_
    intro x2 hx2
    exact c4 x0 hok0 x1 hok1 x2 hx2

theorem lifted (os : Os) (started : os.Started) (H : Type) (enc : TypeId × Value → H) :
    ReturnsInHanded {} Try.checked os 4 .any (Rows.fnExactPredictArrivalsSpec.pre6 enc Try.prog Try.f4 Rows.fnExactPredictArrivalsRow.domain false) (Rows.fnExactPredictArrivalsSpec.post enc Try.prog Try.f4 false true false false) := by
  refine returnsInHanded_of_change (C := Try.checked) own started (by kernel_rfl) Try.func4
    (ChangeSpec.witness6 (enc := enc) (C := Try.checked) false ⟨#[], #[.agg #[.slice none 0 0, .slice none 0 0, .slice none 0 0], .agg #[.int .i64 0, .int .i64 0, .int .i64 0], .int .i64 0], []⟩ 8 (by kernel_rfl) (by kernel_rfl) (by kernel_rfl) (by kernel_rfl)) ?_
  intro W base args ds gs before hval hW _ _
  exact law_step (f := Try.f4) (ts := [28, 46, 3]) (tb := 4) rfl rfl Try.underlying4 rfl (fun ds hds => by
    match ds, hds with
    | [d0, d1, d2], _ => rfl) laidOut (by kernel_rfl) call hval hW (tb_of_nil rfl)

theorem proved : Rows.FnExactPredictArrivalsSaid :=
  OpenClaim.holds_of_wide 4 Try.f4 rfl rfl rfl rfl rfl rfl rfl ⟨rfl, rfl, rfl, rfl, rfl⟩ rfl rfl rfl rfl rfl (by kernel_rfl) Try.func4 (by kernel_rfl)
    (of_decide_eq_true (by kernel_rfl)) (by unfold Func.isWrapper; first | (rw [if_pos (by decide +kernel)]; kernel_rfl) | (rw [if_neg (by decide +kernel)]; exact ⟨rfl, rfl⟩))
    (fun os started H enc _ => lifted os started H enc)

#print axioms proved
end Go.Proofs.Ytiedooadnafghaa.fnExactPredictArrivals

