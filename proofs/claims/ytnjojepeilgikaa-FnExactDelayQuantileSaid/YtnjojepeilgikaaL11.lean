/- PROVED: FnExactDelayQuantileSaid: whatever the visits and the two numbers of a share, the program's DelayQuantile answers as the reference's does, and the visits stay as they were. Conditions: none. -/
import Derived.Test.YtnjojepeilgikaaW
import Derived.Test.YtnjojepeilgikaaV16
namespace Go.Proofs.Ytnjojepeilgikaa.fnExactDelayQuantile
open Go Go.Am Go.ChangeShapes Go.WideShapes Go.ChangeAt Go.RowKit

theorem call (dds : List D) (hl : dds.length = 3) (h : ∀ (j : Nat) t dd, [22, 3, 3][j]? = some t → dds[j]? = some dd → WTv Try.prog t dd) : CallOk Try.prog 11 (dds.map .imm) { res := [.imm (.bool true)] } := by
  match dds, hl with
  | [d0, d1, d2], _ =>
    have hs : ∀ (j : Nat) t dd, [22, 3, 3][j]? = some t → [d0, d1, d2][j]? = some dd → WTv Try.prog t dd := h
    have h0 : WTv Try.prog 22 d0 := hs 0 22 d0 rfl rfl
    have h1 : WTv Try.prog 3 d1 := hs 1 3 d1 rfl rfl
    have h2 : WTv Try.prog 3 d2 := hs 2 3 d2 rfl rfl
    clear h hs
    refine visits_of (fun d => CallOk Try.prog 11 ([d, d1, d2].map .imm) { res := [.imm (.bool true)] }) d0 h0 ?_
    intro x0 hok0 hl0
    refine int_of (fun d => CallOk Try.prog 11 ([(.list (x0.map Visit.enc)), d, d2].map .imm) { res := [.imm (.bool true)] }) d1 h1 ?_
    intro x1 hx1
    refine int_of (fun d => CallOk Try.prog 11 ([(.list (x0.map Visit.enc)), (.int .i64 x1), d].map .imm) { res := [.imm (.bool true)] }) d2 h2 ?_
    intro x2 hx2
    exact c11 x0 hok0 hl0 x1 hx1 x2 hx2

set_option maxRecDepth 100000 in
theorem lifted (os : Os) (started : os.Started) (H : Type) (enc : TypeId × Value → H) :
    ReturnsInHanded {} Try.checked os 11 .any (Rows.fnExactDelayQuantileSpec.pre6 enc Try.prog Try.f11 Rows.fnExactDelayQuantileRow.domain false) (Rows.fnExactDelayQuantileSpec.post enc Try.prog Try.f11 false true false false) := by
  refine returnsInHanded_of_change (C := Try.checked) own started (by kernel_rfl) Try.func11
    (ChangeSpec.witness6 (enc := enc) (C := Try.checked) false ⟨#[], #[.slice none 0 0, .int .i64 0, .int .i64 0], []⟩ 8 (by kernel_rfl) (by kernel_rfl) (by kernel_rfl) (by kernel_rfl)) ?_
  intro W base args ds gs before hval hW _ _
  exact law_step (f := Try.f11) (ts := [22, 3, 3]) (tb := 4) rfl rfl Try.underlying4 rfl (fun ds hds => by
    match ds, hds with
    | [d0, d1, d2], _ => rfl) laidOut (by kernel_rfl) call hval hW

theorem proved : Rows.FnExactDelayQuantileSaid :=
  OpenClaim.holds_of_wide 11 Try.f11 rfl rfl rfl rfl rfl rfl rfl ⟨rfl, rfl, rfl, rfl, rfl⟩ rfl rfl rfl rfl rfl (by kernel_rfl) Try.func11 (by kernel_rfl)
    (of_decide_eq_true (by kernel_rfl)) (by unfold Func.isWrapper; first | (rw [if_pos (by decide +kernel)]; kernel_rfl) | (rw [if_neg (by decide +kernel)]; exact ⟨rfl, rfl⟩))
    (fun os started H enc _ => lifted os started H enc)

#print axioms proved
end Go.Proofs.Ytnjojepeilgikaa.fnExactDelayQuantile

