/- PROVED: FnExactExcessWaitSaid: The excess waiting time that the program reckons from visits and a stop is the one that the specification reckons, for every input. Conditions: none. -/
import Derived.Test.YtnjojepeilgikaaW
import Derived.Test.YtnjojepeilgikaaV21
namespace Go.Proofs.Ytnjojepeilgikaa.fnExactExcessWait
set_option maxRecDepth 100000
open Go Go.Am Go.ChangeShapes Go.WideShapes Go.ChangeAt Go.RowKit

theorem call (dds : List D) (hl : dds.length = 2) (h : ∀ (j : Nat) t dd, [22, 3][j]? = some t → dds[j]? = some dd → WTv Try.prog t dd) : CallOk Try.prog 12 (dds.map .imm) { res := [.imm (.bool true)] } := by
  match dds, hl with
  | [d0, d1], _ =>
    have hs : ∀ (j : Nat) t dd, [22, 3][j]? = some t → [d0, d1][j]? = some dd → WTv Try.prog t dd := h
    have h0 : WTv Try.prog 22 d0 := hs 0 22 d0 rfl rfl
    have h1 : WTv Try.prog 3 d1 := hs 1 3 d1 rfl rfl
    clear h hs
    refine visits_of (fun d => CallOk Try.prog 12 ([d, d1].map .imm) { res := [.imm (.bool true)] }) d0 h0 ?_
    intro x0 hok0 hl0
    refine int_of (fun d => CallOk Try.prog 12 ([(.list (x0.map Visit.enc)), d].map .imm) { res := [.imm (.bool true)] }) d1 h1 ?_
    intro x1 hx1
    exact c12 x0 hok0 hl0 x1 hx1

theorem lifted (os : Os) (started : os.Started) (H : Type) (enc : TypeId × Value → H) :
    ReturnsInHanded {} Try.checked os 12 .any (Rows.fnExactExcessWaitSpec.pre6 enc Try.prog Try.f12 Rows.fnExactExcessWaitRow.domain false) (Rows.fnExactExcessWaitSpec.post enc Try.prog Try.f12 false true false false) := by
  refine returnsInHanded_of_change (C := Try.checked) own started (by kernel_rfl) Try.func12
    (ChangeSpec.witness6 (enc := enc) (C := Try.checked) false ⟨#[], #[.slice none 0 0, .int .i64 0], []⟩ 8 (by kernel_rfl) (by kernel_rfl) (by kernel_rfl) (by kernel_rfl)) ?_
  intro W base args ds gs before hval hW _ _
  exact law_step (f := Try.f12) (ts := [22, 3]) (tb := 4) rfl rfl Try.underlying4 rfl (fun ds hds => by
    match ds, hds with
    | [d0, d1], _ => rfl) laidOut (by kernel_rfl) call hval hW

theorem proved : Rows.FnExactExcessWaitSaid :=
  OpenClaim.holds_of_wide 12 Try.f12 rfl rfl rfl rfl rfl rfl rfl ⟨rfl, rfl, rfl, rfl, rfl⟩ rfl rfl rfl rfl rfl (by kernel_rfl) Try.func12 (by kernel_rfl)
    (of_decide_eq_true (by kernel_rfl)) (by unfold Func.isWrapper; first | (rw [if_pos (by decide +kernel)]; kernel_rfl) | (rw [if_neg (by decide +kernel)]; exact ⟨rfl, rfl⟩))
    (fun os started H enc _ => lifted os started H enc)

#print axioms proved
end Go.Proofs.Ytnjojepeilgikaa.fnExactExcessWait

