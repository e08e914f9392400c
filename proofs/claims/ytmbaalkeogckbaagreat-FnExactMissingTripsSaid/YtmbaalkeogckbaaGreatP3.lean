/- PROVED: FnExactMissingTripsSaid: whatever the timetable, the reports, the limit and the time, the program's MissingTrips answers as the reference's does, leaves its arguments as they were, and shares memory with nothing. Conditions: none. -/
import Derived.Test.YtmbaalkeogckbaaGreatW
import Derived.Test.YtmbaalkeogckbaaGreatQ7
namespace Go.Proofs.YtmbaalkeogckbaaGreat.fnExactMissingTrips
set_option maxRecDepth 100000
open Go Go.Am Go.ChangeShapes Go.WideShapes Go.ChangeAt Go.RowKit

theorem call (dds : List D) (hl : dds.length = 4) (h : ∀ (j : Nat) t dd, [28, 51, 3, 3][j]? = some t → dds[j]? = some dd → WTv Tryz.prog t dd) : CallOk Tryz.prog 5 (dds.map .imm) { res := [.imm (.bool true)] } := by
  match dds, hl with
  | [d0, d1, d2, d3], _ =>
    have hs : ∀ (j : Nat) t dd, [28, 51, 3, 3][j]? = some t → [d0, d1, d2, d3][j]? = some dd → WTv Tryz.prog t dd := h
    have h0 : WTv Tryz.prog 28 d0 := hs 0 28 d0 rfl rfl
    have h1 : WTv Tryz.prog 51 d1 := hs 1 51 d1 rfl rfl
    have h2 : WTv Tryz.prog 3 d2 := hs 2 3 d2 rfl rfl
    have h3 : WTv Tryz.prog 3 d3 := hs 3 3 d3 rfl rfl
    clear h hs
    refine timetableV_of (fun d => CallOk Tryz.prog 5 ([d, d1, d2, d3].map .imm) { res := [.imm (.bool true)] }) d0 h0 ?_
    intro x0 hok0
    refine reports_of (fun d => CallOk Tryz.prog 5 ([(.agg x0.enc), d, d2, d3].map .imm) { res := [.imm (.bool true)] }) d1 h1 ?_
    intro x1 hok1 hl1
    refine int_of (fun d => CallOk Tryz.prog 5 ([(.agg x0.enc), (.list (x1.map Report.enc)), d, d3].map .imm) { res := [.imm (.bool true)] }) d2 h2 ?_
    intro x2 hx2
    refine int_of (fun d => CallOk Tryz.prog 5 ([(.agg x0.enc), (.list (x1.map Report.enc)), (.int .i64 x2), d].map .imm) { res := [.imm (.bool true)] }) d3 h3 ?_
    intro x3 hx3
    exact c5 x0 hok0 x1 hok1 hl1 x2 hx2 x3 hx3

theorem lifted (os : Os) (started : os.Started) (H : Type) (enc : TypeId × Value → H) :
    ReturnsInHanded {} Tryz.checked os 5 .any (Rows.fnExactMissingTripsSpec.pre6 enc Tryz.prog Tryz.f5 Rows.fnExactMissingTripsRow.domain false) (Rows.fnExactMissingTripsSpec.post enc Tryz.prog Tryz.f5 false true false false) := by
  refine returnsInHanded_of_change (C := Tryz.checked) own started (by kernel_rfl) Tryz.func5
    (ChangeSpec.witness6 (enc := enc) (C := Tryz.checked) false ⟨#[], #[.agg #[.slice none 0 0, .slice none 0 0, .slice none 0 0], .slice none 0 0, .int .i64 0, .int .i64 0], []⟩ 8 (by kernel_rfl) (by kernel_rfl) (by kernel_rfl) (by kernel_rfl)) ?_
  intro W base args ds gs before hval hW _ _
  exact law_step (f := Tryz.f5) (ts := [28, 51, 3, 3]) (tb := 4) rfl rfl Tryz.underlying4 rfl (fun ds hds => by
    match ds, hds with
    | [d0, d1, d2, d3], _ => rfl) laidOut (by kernel_rfl) call hval hW (tb_of_nil rfl)

theorem proved : Rows.FnExactMissingTripsSaid :=
  OpenClaim.holds_of_wide 5 Tryz.f5 rfl rfl rfl rfl rfl rfl rfl ⟨rfl, rfl, rfl, rfl, rfl⟩ rfl rfl rfl rfl rfl (by kernel_rfl) Tryz.func5 (by kernel_rfl)
    (of_decide_eq_true (by kernel_rfl)) (by unfold Func.isWrapper; first | (rw [if_pos (by decide +kernel)]; kernel_rfl) | (rw [if_neg (by decide +kernel)]; exact ⟨rfl, rfl⟩))
    (fun os started H enc _ => lifted os started H enc)

#print axioms proved
end Go.Proofs.YtmbaalkeogckbaaGreat.fnExactMissingTrips

