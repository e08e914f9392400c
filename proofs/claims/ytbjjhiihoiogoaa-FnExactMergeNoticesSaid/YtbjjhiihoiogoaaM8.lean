/- Two notices in one: the law, walked. -/
import Derived.Test.YtbjjhiihoiogoaaM7
namespace Go.Proofs.Ytbjjhiihoiogoaa
open Go Go.Am
set_option maxRecDepth 100000
set_option maxHeartbeats 4000000
attribute [local irreducible] amOps amC opCall opIndexAddr opPick retQ opMake opStore amDraw opAppend opLoad opNilCmp opIndex opSlice

theorem szMessage_le {a : Int} {v : Message} (h0 : 0 ≤ a) (h1 : a ≤ 1048576) (hv : v.ok) : szMessage a v ≤ 1048576 := by
  obtain ⟨_, q1, q2, _⟩ := hv
  unfold maxLen at q1 q2
  unfold szMessage
  have e1 : IntKind.i64.wrap (a - v.line.size) = a - v.line.size := by rw [IntKind.wrap_i64]; omega
  rw [e1]
  split
  · omega
  · rename_i hn
    have e2 : IntKind.i64.wrap (a - v.line.size - v.stop.size) = a - v.line.size - v.stop.size := by rw [IntKind.wrap_i64]; omega
    rw [e2]
    split <;> omega

theorem szFMessage_le : ∀ (ys : List Message), (∀ v ∈ ys, v.ok) → ∀ a : Int, 0 ≤ a → a ≤ 1048576 → szFMessage a ys ≤ 1048576
  | [], _, a, _, h1 => h1
  | v :: r, hs, a, h0, h1 => by
    have h2 := szMessage_le h0 h1 (hs v (by simp))
    rw [szFMessage]
    split
    · omega
    · exact szFMessage_le r (fun x hx => hs x (by simp [hx])) _ (by omega) h2

theorem szSMessage_le {left : Int} {xs : List Message} (h0 : left ≤ 1048576) (h00 : 0 ≤ left) (hl : xs.length ≤ 9223372036854775807) (hs : ∀ v ∈ xs, v.ok) : szSMessage left xs ≤ 1048576 := by
  unfold szSMessage
  have hw : IntKind.i64.wrap (left - (xs.length : Int)) = left - xs.length := by rw [IntKind.wrap_i64]; omega
  rw [hw]
  split
  · omega
  · exact szFMessage_le xs hs _ (by omega) (by omega)

theorem mnR_len (a b : List Message) : (mnR a b).length ≤ 20 := by
  unfold mnR
  split
  · rename_i h
    unfold mnOk at h
    simp only [Bool.and_eq_true] at h
    have := notice_10 h.2
    omega
  · simp

theorem c7 (a : List Message) (hoa : ∀ v ∈ a, v.ok) (hla : a.length ≤ 9223372036854775807) (b : List Message) (_ : ∀ v ∈ b, v.ok) (hlb : b.length ≤ 9223372036854775807) : CallOk Try.prog 7 [.imm (.list (a.map Message.enc)), .imm (.list (b.map Message.enc))] { res := [.imm (.bool true)] } := by
  refine callOk_of tyOk Try.func7 rfl rfl (le_of_ble rfl) (le_of_ble rfl) (mutOk_imm rfl _) ?_
  have hsz := c53 a 1048576 (by omega) (by omega) hla
  by_cases hs : szSMessage 1048576 a < 0
  case pos =>
    repeat' first | refine go_seq ?_ | refine go_region ?_ | refine go_miss rfl rfl rfl ?_ | refine go_undef rfl rfl rfl ?_ | ((first | refine go_op rfl ?_ | refine go_nil ?_ | refine go_hit rfl rfl rfl ?_ | refine go_splitT rfl rfl rfl (fun h => ?_) (fun h => ?_) | refine go_splitF rfl rfl rfl (fun h => ?_) (fun h => ?_) | refine go_pickT rfl ?_ | refine go_pickF rfl ?_ | refine go_pick rfl (fun h => ?_) (fun h => ?_) | refine go_call [] (hsz) rfl rfl rfl rfl ?_) <;> conv => whnf) | ((first | refine ⟨by kernel_rfl, ?_⟩ | refine go_ret ?_) <;> conv => whnf) | ((first | refine go_skip ?_) <;> conv => whnf) | refine go_true rfl ?_ | refine go_false rfl ?_ | refine go_cond rfl (fun h => ?_) (fun h => ?_) | refine ⟨rfl, ?_⟩ | ((first | refine ⟨trivial, ?_⟩ | refine ⟨le_of_ble rfl, ?_⟩) <;> conv => whnf) | fail
    all_goals first
      | exact ret_imm rfl rfl rfl rfl rfl rfl
      | (exfalso; simp at h; omega)
  have hlena := szSMessage_len (by omega) (by omega) hla hs
  have hsle : szSMessage 1048576 a ≤ 1048576 := szSMessage_le (by omega) (by omega) hla hoa
  have hsz2 := c53 b (szSMessage 1048576 a) hsle (by omega) hlb
  by_cases hs2 : szSMessage (szSMessage 1048576 a) b < 0
  case pos =>
    repeat' first | refine go_seq ?_ | refine go_region ?_ | refine go_miss rfl rfl rfl ?_ | refine go_undef rfl rfl rfl ?_ | ((first | refine go_op rfl ?_ | refine go_nil ?_ | refine go_hit rfl rfl rfl ?_ | refine go_splitT rfl rfl rfl (fun h => ?_) (fun h => ?_) | refine go_splitF rfl rfl rfl (fun h => ?_) (fun h => ?_) | refine go_pickT rfl ?_ | refine go_pickF rfl ?_ | refine go_pick rfl (fun h => ?_) (fun h => ?_) | refine go_call [] (hsz) rfl rfl rfl rfl ?_ | refine go_call [] (hsz2) rfl rfl rfl rfl ?_) <;> conv => whnf) | ((first | refine ⟨by kernel_rfl, ?_⟩ | refine go_ret ?_) <;> conv => whnf) | ((first | refine go_skip ?_) <;> conv => whnf) | refine go_true rfl ?_ | refine go_false rfl ?_ | refine go_cond rfl (fun h => ?_) (fun h => ?_) | refine ⟨rfl, ?_⟩ | ((first | refine ⟨trivial, ?_⟩ | refine ⟨le_of_ble rfl, ?_⟩) <;> conv => whnf) | fail
    all_goals first
      | exact ret_imm rfl rfl rfl rfl rfl rfl
      | (exfalso; simp at h; omega)
      | (exfalso; have h' := of_decide_eq_false h; omega)
      | (exfalso; have h' := of_decide_eq_true h; omega)
      | (exfalso; rename_i hq; have h' := of_decide_eq_true hq; omega)
      | (exfalso; rename_i hq; have h' := of_decide_eq_false hq; omega)
      | (exfalso; rename_i hq _; have h' := of_decide_eq_true hq; omega)
      | (exfalso; rename_i hq _; have h' := of_decide_eq_false hq; omega)
  have hlenb := szSMessage_len (left := szSMessage 1048576 a) hsle (by omega) hlb hs2
  have hrl := mnR_len a b
  have hcs : CallOk Try.prog 54 [.imm (.list (((a.map Message.enc).drop 0).take (a.map Message.enc).length)), .imm (.list (((b.map Message.enc).drop 0).take (b.map Message.enc).length))] { res := [.arr 163 6 ((mnR a b).map Message.enc), .imm (.bool (mnOk a b))] } := by rw [message_view, message_view]; exact c54 a b hlena hlenb
  have hci : CallOk Try.prog 56 [.imm (.list (((a.map Message.enc).drop 0).take (a.map Message.enc).length)), .imm (.list (((b.map Message.enc).drop 0).take (b.map Message.enc).length))] { res := [.arr 163 6 ((mnR a b).map Message.enc), .imm (.bool (mnOk a b))] } := by rw [message_view, message_view]; exact c56 a b hlena hlenb
  have heq : ∀ xs : List Message, xs.length ≤ 1048576 → CallOk Try.prog 57 [.imm (.list (((xs.map Message.enc).drop 0).take (xs.map Message.enc).length)), .imm (.list (((xs.map Message.enc).drop 0).take (xs.map Message.enc).length))] { res := [.imm (.bool true)] } := fun xs h => by rw [message_view]; exact c57s _ h
  have heqr := heq (mnR a b) (by omega)
  have heqa := heq a hlena
  have heqb := heq b hlenb
  have hk1 := kAt_eq (k := 1) (by omega) (6 * a.length) (by omega)
  have hm1 := c58 a 1 (by omega) (by omega) hlena
  have hm2 := c58 b (kAt 1 (6 * a.length)) (by omega) (by omega) hlenb
  have hk2 := kAt_eq (k := kAt 1 (6 * a.length)) (by omega) (6 * b.length) (by omega)
  have hm3 := c58 (mnR a b) 1 (by omega) (by omega) (by omega)
  have hk3 := kAt_eq (k := 1) (by omega) (6 * (mnR a b).length) (by omega)
  have hh3 : CallOk Try.prog 59 [.imm (.list ((((marksMessage 1 (mnR a b).length).map Message.enc).drop 0).take ((mnR a b).map Message.enc).length)), .imm (.int .i64 1)] { res := [.imm (.int .i64 (kAt 1 (6 * (mnR a b).length)))] } := by
    have := c59 1 (mnR a b).length (by omega) (by omega) (by omega)
    rwa [show ((((marksMessage 1 (mnR a b).length).map Message.enc).drop 0).take ((mnR a b).map Message.enc).length) = (marksMessage 1 (mnR a b).length).map Message.enc from by rw [List.drop_zero, List.take_of_length_le (by simp [marksMessage])]]
  repeat' first | refine go_seq ?_ | refine go_region ?_ | refine go_miss rfl rfl rfl ?_ | refine go_undef rfl rfl rfl ?_ | ((first | refine go_op rfl ?_ | refine go_nil ?_ | refine go_hit rfl rfl rfl ?_ | refine go_splitT rfl rfl rfl (fun h => ?_) (fun h => ?_) | refine go_splitF rfl rfl rfl (fun h => ?_) (fun h => ?_) | refine go_pickT rfl ?_ | refine go_pickF rfl ?_ | refine go_pick rfl (fun h => ?_) (fun h => ?_) | refine go_call [] (hsz) rfl rfl rfl rfl ?_ | refine go_call [] (hsz2) rfl rfl rfl rfl ?_ | refine go_call [] (c55a a hlena) rfl rfl rfl rfl ?_ | refine go_call [] (c55a b hlenb) rfl rfl rfl rfl ?_ | refine go_call [] (hcs) rfl rfl rfl rfl ?_ | refine go_call [] (hci) rfl rfl rfl rfl ?_ | refine go_call [] (heqr) rfl rfl rfl rfl ?_ | refine go_call [] (heqa) rfl rfl rfl rfl ?_ | refine go_call [] (heqb) rfl rfl rfl rfl ?_ | refine go_call [2, 0] hm1 (argsIn_lent rfl rfl rfl) rfl rfl rfl ?_ | refine go_call [2, 0] hm2 (argsIn_lent rfl rfl rfl) rfl rfl rfl ?_ | refine go_call [2, 0] hm3 (argsIn_lent rfl rfl rfl) rfl rfl rfl ?_ | refine go_call [] (hh3) rfl rfl rfl rfl ?_) <;> conv => whnf) | ((first | refine ⟨by kernel_rfl, ?_⟩ | refine go_ret ?_) <;> conv => whnf) | ((first | refine go_skip ?_) <;> conv => whnf) | refine go_true rfl ?_ | refine go_false rfl ?_ | refine go_cond rfl (fun h => ?_) (fun h => ?_) | refine ⟨rfl, ?_⟩ | ((first | refine ⟨trivial, ?_⟩ | refine ⟨le_of_ble rfl, ?_⟩) <;> conv => whnf) | fail
  all_goals first
    | exact ret_imm rfl rfl rfl rfl rfl rfl
    | (exfalso; simp at h; done)
    | (exfalso; simp at h; omega)
    | (exfalso; have h' := of_decide_eq_false h; omega)
    | (exfalso; have h' := of_decide_eq_true h; omega)
    | (exfalso; rename_i hq; have h' := of_decide_eq_true hq; omega)
    | (exfalso; rename_i hq; have h' := of_decide_eq_false hq; omega)
    | (exfalso; rename_i hq _; have h' := of_decide_eq_true hq; omega)
    | (exfalso; rename_i hq _; have h' := of_decide_eq_false hq; omega)
    | trace_state
end Go.Proofs.Ytbjjhiihoiogoaa

