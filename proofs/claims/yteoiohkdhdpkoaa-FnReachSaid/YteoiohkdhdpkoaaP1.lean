/- PROVED: FnReachSaid: whatever the bytes, for the network and the stop that are drawn from them the program and its reference tell the same reachable stops; a stop is among them if and only if some number of lines leads to it, which is 0 for the stop itself alone and 1 for a stop that a line reaches directly: the law says yes. Conditions: none. -/
import Derived.Test.YteoiohkdhdpkoaaW
import Derived.Test.YteoiohkdhdpkoaaH5
namespace Go.Proofs.Yteoiohkdhdpkoaa.fnReach
set_option maxRecDepth 100000
open Go Go.Am Go.ChangeShapes Go.WideShapes Go.ChangeAt Go.RowKit

theorem call (dds : List D) (hl : dds.length = 1) (h : ∀ (j : Nat) t dd, [22][j]? = some t → dds[j]? = some dd → WTv Try.prog t dd) : CallOk Try.prog 3 (dds.map .imm) { res := [.imm (.bool true)] } := by
  match dds, hl with
  | [d0], _ =>
    have hs : ∀ (j : Nat) t dd, [22][j]? = some t → [d0][j]? = some dd → WTv Try.prog t dd := h
    have h0 : WTv Try.prog 22 d0 := hs 0 22 d0 rfl rfl
    clear h hs
    refine bytes_of (fun d => CallOk Try.prog 3 ([d].map .imm) { res := [.imm (.bool true)] }) d0 h0 ?_
    intro x0 hok0
    exact c3 x0 hok0

theorem lifted (os : Os) (started : os.Started) (H : Type) (enc : TypeId × Value → H) :
    ReturnsInHanded {} Try.checked os 3 .any (Rows.fnReachSpec.pre6 enc Try.prog Try.f3 Rows.fnReachRow.domain false) (Rows.fnReachSpec.post enc Try.prog Try.f3 false true false false) := by
  refine returnsInHanded_of_change (C := Try.checked) own started (by kernel_rfl) Try.func3
    (ChangeSpec.witness6 (enc := enc) (C := Try.checked) false ⟨#[], #[.slice none 0 0], []⟩ 8 (by kernel_rfl) (by kernel_rfl) (by kernel_rfl) (by kernel_rfl)) ?_
  intro W base args ds gs before hval hW _ _
  exact law_step (f := Try.f3) (ts := [22]) (tb := 4) rfl rfl Try.underlying4 rfl (fun ds hds => by
    match ds, hds with
    | [d0], _ => rfl) laidOut (by kernel_rfl) call hval hW (tb_of_nil rfl)

theorem proved : Rows.FnReachSaid :=
  OpenClaim.holds_of_wide 3 Try.f3 rfl rfl rfl rfl rfl rfl rfl ⟨rfl, rfl, rfl, rfl, rfl⟩ rfl rfl rfl rfl rfl (by kernel_rfl) Try.func3 (by kernel_rfl)
    (of_decide_eq_true (by kernel_rfl)) (by unfold Func.isWrapper; first | (rw [if_pos (by decide +kernel)]; kernel_rfl) | (rw [if_neg (by decide +kernel)]; exact ⟨rfl, rfl⟩))
    (fun os started H enc _ => lifted os started H enc)

#print axioms proved
end Go.Proofs.Yteoiohkdhdpkoaa.fnReach

