/- PROVED: FnExactMessagesForSaid: whatever the messages, the line and the stop, the program's MessagesFor answers as the reference's does, the messages stay as they were, and the result shares memory with nothing. Conditions: none. -/
import Derived.Test.YtlkmbamenkjcmaaW
import Derived.Test.YtlkmbamenkjcmaaM7
namespace Go.Proofs.Ytlkmbamenkjcmaa.fnExactMessagesFor
set_option maxRecDepth 100000
open Go Go.Am Go.ChangeShapes Go.WideShapes Go.ChangeAt Go.RowKit

theorem call (dds : List D) (hl : dds.length = 3) (h : ∀ (j : Nat) t dd, [40, 9, 9][j]? = some t → dds[j]? = some dd → WTv Try.prog t dd) : CallOk Try.prog 5 (dds.map .imm) { res := [.imm (.bool true)] } := by
  match dds, hl with
  | [d0, d1, d2], _ =>
    have hs : ∀ (j : Nat) t dd, [40, 9, 9][j]? = some t → [d0, d1, d2][j]? = some dd → WTv Try.prog t dd := h
    have h0 : WTv Try.prog 40 d0 := hs 0 40 d0 rfl rfl
    have h1 : WTv Try.prog 9 d1 := hs 1 9 d1 rfl rfl
    have h2 : WTv Try.prog 9 d2 := hs 2 9 d2 rfl rfl
    clear h hs
    refine messages_of (fun d => CallOk Try.prog 5 ([d, d1, d2].map .imm) { res := [.imm (.bool true)] }) d0 h0 ?_
    intro x0 hok0 hl0
    refine str_of (fun d => CallOk Try.prog 5 ([(.list (x0.map Message.enc)), d, d2].map .imm) { res := [.imm (.bool true)] }) d1 h1 ?_
    intro x1 hx1
    refine str_of (fun d => CallOk Try.prog 5 ([(.list (x0.map Message.enc)), (.str x1), d].map .imm) { res := [.imm (.bool true)] }) d2 h2 ?_
    intro x2 hx2
    exact c5 x0 hok0 hl0 x1 hx1 x2 hx2

theorem lifted (os : Os) (started : os.Started) (H : Type) (enc : TypeId × Value → H) :
    ReturnsInHanded {} Try.checked os 5 .any (Rows.fnExactMessagesForSpec.pre6 enc Try.prog Try.f5 Rows.fnExactMessagesForRow.domain false) (Rows.fnExactMessagesForSpec.post enc Try.prog Try.f5 false true false false) := by
  refine returnsInHanded_of_change (C := Try.checked) own started (by kernel_rfl) Try.func5
    (ChangeSpec.witness6 (enc := enc) (C := Try.checked) false ⟨#[], #[.slice none 0 0, .string ByteArray.empty, .string ByteArray.empty], []⟩ 8 (by kernel_rfl) (by kernel_rfl) (by kernel_rfl) (by kernel_rfl)) ?_
  intro W base args ds gs before hval hW _ _
  exact law_step (f := Try.f5) (ts := [40, 9, 9]) (tb := 4) rfl rfl Try.underlying4 rfl (fun ds hds => by
    match ds, hds with
    | [d0, d1, d2], _ => rfl) laidOut (by kernel_rfl) call hval hW

theorem proved : Rows.FnExactMessagesForSaid :=
  OpenClaim.holds_of_wide 5 Try.f5 rfl rfl rfl rfl rfl rfl rfl ⟨rfl, rfl, rfl, rfl, rfl⟩ rfl rfl rfl rfl rfl (by kernel_rfl) Try.func5 (by kernel_rfl)
    (of_decide_eq_true (by kernel_rfl)) (by unfold Func.isWrapper; first | (rw [if_pos (by decide +kernel)]; kernel_rfl) | (rw [if_neg (by decide +kernel)]; exact ⟨rfl, rfl⟩))
    (fun os started H enc _ => lifted os started H enc)

#print axioms proved
end Go.Proofs.Ytlkmbamenkjcmaa.fnExactMessagesFor

