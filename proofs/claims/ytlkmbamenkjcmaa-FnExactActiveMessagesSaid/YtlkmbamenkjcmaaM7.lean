/- The laws of MessagesFor and ActiveMessages, walked. -/
import Derived.Test.YtlkmbamenkjcmaaM6
namespace Go.Proofs.Ytlkmbamenkjcmaa
open Go Go.Am
set_option maxRecDepth 100000
set_option maxHeartbeats 4000000
attribute [local irreducible] amOps amC opCall opIndexAddr opPick retQ opMake opStore amDraw opAppend opLoad opNilCmp opIndex

theorem c5 (xs : List Message) (_ : ∀ v ∈ xs, v.ok) (hl : xs.length ≤ 9223372036854775807) (line : ByteArray) (_ : line.size ≤ maxLen) (stop : ByteArray) (_ : stop.size ≤ maxLen) : CallOk Try.prog 5 [.imm (.list (xs.map Message.enc)), .imm (.str line), .imm (.str stop)] { res := [.imm (.bool true)] } := by
  refine callOk_of tyOk Try.func5 rfl rfl (le_of_ble rfl) (le_of_ble rfl) (mutOk_imm rfl _) ?_
  by_cases hb1 : line.size ≤ 1048576
  case neg =>
    repeat' first
      | refine go_seq ?_
      | refine go_region ?_
      | (refine go_op rfl ?_; conv => whnf)
      | (refine go_nil ?_; conv => whnf)
      | (refine go_hit rfl rfl rfl ?_; conv => whnf)
      | (refine go_miss rfl rfl rfl ?_)
      | (refine go_undef rfl rfl rfl ?_)
      | (refine go_splitT rfl rfl rfl (fun h => ?_) (fun h => ?_) <;> conv => whnf)
      | (refine go_splitF rfl rfl rfl (fun h => ?_) (fun h => ?_) <;> conv => whnf)
      | (refine go_storeBox rfl rfl rfl rfl rfl rfl ?_; conv => whnf)
      | (refine go_dop rfl ?_; conv => whnf)
      | (refine go_dhit rfl rfl ?_; conv => whnf)
      | refine go_dmiss rfl rfl ?_
      | refine go_dundef rfl rfl ?_
      | (refine go_dend (by kernel_rfl) ?_; conv => whnf)
      | refine go_draw drawsOk ?_
      | (refine go_pickT rfl ?_; conv => whnf)
      | (refine go_pickF rfl ?_; conv => whnf)
      | (refine go_pick rfl (fun h => ?_) (fun h => ?_) <;> conv => whnf)
      | (refine go_loadB ?_; conv => whnf)
      | (refine ⟨by kernel_rfl, ?_⟩; conv => whnf)
      | (refine go_ret ?_; conv => whnf)
      | refine go_block ?_
      | (refine go_skip ?_; conv => whnf)
      | (refine go_exit ?_; conv => whnf)
      | refine go_true rfl ?_
      | refine go_false rfl ?_
      | refine go_cond rfl (fun h => ?_) (fun h => ?_)
      | refine ⟨rfl, ?_⟩
      | (refine ⟨trivial, ?_⟩; conv => whnf)
      | (refine ⟨le_of_ble rfl, ?_⟩; conv => whnf)
      | fail
    all_goals first
      | exact ret_imm rfl rfl rfl rfl rfl rfl
      | (exfalso; simp at h; omega)
      | (exfalso; rename_i hq; simp at hq; omega)
  by_cases hb2 : stop.size ≤ 1048576
  case neg =>
    repeat' first
      | refine go_seq ?_
      | refine go_region ?_
      | (refine go_op rfl ?_; conv => whnf)
      | (refine go_nil ?_; conv => whnf)
      | (refine go_hit rfl rfl rfl ?_; conv => whnf)
      | (refine go_miss rfl rfl rfl ?_)
      | (refine go_undef rfl rfl rfl ?_)
      | (refine go_splitT rfl rfl rfl (fun h => ?_) (fun h => ?_) <;> conv => whnf)
      | (refine go_splitF rfl rfl rfl (fun h => ?_) (fun h => ?_) <;> conv => whnf)
      | (refine go_storeBox rfl rfl rfl rfl rfl rfl ?_; conv => whnf)
      | (refine go_dop rfl ?_; conv => whnf)
      | (refine go_dhit rfl rfl ?_; conv => whnf)
      | refine go_dmiss rfl rfl ?_
      | refine go_dundef rfl rfl ?_
      | (refine go_dend (by kernel_rfl) ?_; conv => whnf)
      | refine go_draw drawsOk ?_
      | (refine go_pickT rfl ?_; conv => whnf)
      | (refine go_pickF rfl ?_; conv => whnf)
      | (refine go_pick rfl (fun h => ?_) (fun h => ?_) <;> conv => whnf)
      | (refine go_loadB ?_; conv => whnf)
      | (refine ⟨by kernel_rfl, ?_⟩; conv => whnf)
      | (refine go_ret ?_; conv => whnf)
      | refine go_block ?_
      | (refine go_skip ?_; conv => whnf)
      | (refine go_exit ?_; conv => whnf)
      | refine go_true rfl ?_
      | refine go_false rfl ?_
      | refine go_cond rfl (fun h => ?_) (fun h => ?_)
      | refine ⟨rfl, ?_⟩
      | (refine ⟨trivial, ?_⟩; conv => whnf)
      | (refine ⟨le_of_ble rfl, ?_⟩; conv => whnf)
      | fail
    all_goals first
      | exact ret_imm rfl rfl rfl rfl rfl rfl
      | (exfalso; simp at h; omega)
      | (exfalso; rename_i hq; simp at hq; omega)
  have hsz := c25 xs 1048576 (by omega) (by omega) hl
  by_cases hs : szSMessage 1048576 xs < 0
  · have h1 : True := trivial
    repeat' first
      | refine go_seq ?_
      | refine go_region ?_
      | (refine go_op rfl ?_; conv => whnf)
      | (refine go_nil ?_; conv => whnf)
      | (refine go_hit rfl rfl rfl ?_; conv => whnf)
      | (refine go_miss rfl rfl rfl ?_)
      | (refine go_undef rfl rfl rfl ?_)
      | (refine go_splitT rfl rfl rfl (fun h => ?_) (fun h => ?_) <;> conv => whnf)
      | (refine go_splitF rfl rfl rfl (fun h => ?_) (fun h => ?_) <;> conv => whnf)
      | (refine go_storeBox rfl rfl rfl rfl rfl rfl ?_; conv => whnf)
      | (refine go_dop rfl ?_; conv => whnf)
      | (refine go_dhit rfl rfl ?_; conv => whnf)
      | refine go_dmiss rfl rfl ?_
      | refine go_dundef rfl rfl ?_
      | (refine go_dend (by kernel_rfl) ?_; conv => whnf)
      | refine go_draw drawsOk ?_
      | (refine go_pickT rfl ?_; conv => whnf)
      | (refine go_pickF rfl ?_; conv => whnf)
      | (refine go_pick rfl (fun h => ?_) (fun h => ?_) <;> conv => whnf)
      | (refine go_call [] (hsz) rfl rfl rfl rfl ?_; conv => whnf)
      | (refine go_loadB ?_; conv => whnf)
      | (refine ⟨by kernel_rfl, ?_⟩; conv => whnf)
      | (refine go_ret ?_; conv => whnf)
      | refine go_block ?_
      | (refine go_skip ?_; conv => whnf)
      | (refine go_exit ?_; conv => whnf)
      | refine go_true rfl ?_
      | refine go_false rfl ?_
      | refine go_cond rfl (fun h => ?_) (fun h => ?_)
      | refine ⟨rfl, ?_⟩
      | (refine ⟨trivial, ?_⟩; conv => whnf)
      | (refine ⟨le_of_ble rfl, ?_⟩; conv => whnf)
      | fail
    all_goals first
      | exact ret_imm rfl rfl rfl rfl rfl rfl
      | (exfalso; simp at h; omega)
  · have hlen := szSMessage_len (by omega) (by omega) hl hs
    have hrl : (mfR line stop xs).length ≤ xs.length := by
      unfold mfR
      split
      · exact sel_len _ _ _
      · simp
    have hcs : CallOk Try.prog 26 [.imm (.list (((xs.map Message.enc).drop 0).take (xs.map Message.enc).length)), .imm (.str line), .imm (.str stop)] { res := [.arr 3 1 ((mfR line stop xs).map intRow), .imm (.bool (mfOk line stop xs))] } := by rw [message_view]; exact c26 xs line stop hlen
    have hci : CallOk Try.prog 28 [.imm (.list (((xs.map Message.enc).drop 0).take (xs.map Message.enc).length)), .imm (.str line), .imm (.str stop)] { res := [.arr 3 1 ((mfR line stop xs).map intRow), .imm (.bool (mfOk line stop xs))] } := by rw [message_view]; exact c28 xs line stop hlen
    have heq : CallOk Try.prog 29 [.imm (.list ((((mfR line stop xs).map intRow).drop 0).take ((mfR line stop xs).map intRow).length)), .imm (.list ((((mfR line stop xs).map intRow).drop 0).take ((mfR line stop xs).map intRow).length))] { res := [.imm (.bool true)] } := by rw [int_view]; exact c29s _ (by omega)
    have heqm : CallOk Try.prog 30 [.imm (.list (((xs.map Message.enc).drop 0).take (xs.map Message.enc).length)), .imm (.list (((xs.map Message.enc).drop 0).take (xs.map Message.enc).length))] { res := [.imm (.bool true)] } := by rw [message_view]; exact c30s _ hlen
    have hm1 := c31 xs 1 (by omega) (by omega) hlen
    have hm2 := c32 (mfR line stop xs) 1 (by omega)
    have hh2 : CallOk Try.prog 33 [.imm (.list ((((marksI 1 (mfR line stop xs).length).map intRow).drop 0).take ((mfR line stop xs).map intRow).length)), .imm (.int .i64 1)] { res := [.imm (.int .i64 (kAt 1 (mfR line stop xs).length))] } := by
      have := c33 1 (mfR line stop xs).length (by omega)
      rwa [show ((((marksI 1 (mfR line stop xs).length).map intRow).drop 0).take ((mfR line stop xs).map intRow).length) = (marksI 1 (mfR line stop xs).length).map intRow from by rw [List.drop_zero, List.take_of_length_le (by simp [marksI])]]
    have hk1 := kAt_eq (k := 1) (by omega) (6 * xs.length) (by omega)
    have hk2 := kAt_eq (k := 1) (by omega) (mfR line stop xs).length (by omega)
    repeat' first
      | refine go_seq ?_
      | refine go_region ?_
      | (refine go_op rfl ?_; conv => whnf)
      | (refine go_nil ?_; conv => whnf)
      | (refine go_hit rfl rfl rfl ?_; conv => whnf)
      | (refine go_miss rfl rfl rfl ?_)
      | (refine go_undef rfl rfl rfl ?_)
      | (refine go_splitT rfl rfl rfl (fun h => ?_) (fun h => ?_) <;> conv => whnf)
      | (refine go_splitF rfl rfl rfl (fun h => ?_) (fun h => ?_) <;> conv => whnf)
      | (refine go_storeBox rfl rfl rfl rfl rfl rfl ?_; conv => whnf)
      | (refine go_dop rfl ?_; conv => whnf)
      | (refine go_dhit rfl rfl ?_; conv => whnf)
      | refine go_dmiss rfl rfl ?_
      | refine go_dundef rfl rfl ?_
      | (refine go_dend (by kernel_rfl) ?_; conv => whnf)
      | refine go_draw drawsOk ?_
      | (refine go_pickT rfl ?_; conv => whnf)
      | (refine go_pickF rfl ?_; conv => whnf)
      | (refine go_pick rfl (fun h => ?_) (fun h => ?_) <;> conv => whnf)
      | (refine go_call [] (hsz) rfl rfl rfl rfl ?_; conv => whnf)
      | (refine go_call [] (c27a xs hlen) rfl rfl rfl rfl ?_; conv => whnf)
      | (refine go_call [] (hcs) rfl rfl rfl rfl ?_; conv => whnf)
      | (refine go_call [] (hci) rfl rfl rfl rfl ?_; conv => whnf)
      | (refine go_call [] (heq) rfl rfl rfl rfl ?_; conv => whnf)
      | (refine go_call [] (heqm) rfl rfl rfl rfl ?_; conv => whnf)
      | (refine go_call [2, 0] hm1 (argsIn_lent rfl rfl rfl) rfl rfl rfl ?_; conv => whnf)
      | (refine go_call [2, 0] hm2 (argsIn_lent rfl rfl rfl) rfl rfl rfl ?_; conv => whnf)
      | (refine go_call [] (hh2) rfl rfl rfl rfl ?_; conv => whnf)
      | (refine go_loadB ?_; conv => whnf)
      | (refine ⟨by kernel_rfl, ?_⟩; conv => whnf)
      | (refine go_ret ?_; conv => whnf)
      | refine go_block ?_
      | (refine go_skip ?_; conv => whnf)
      | (refine go_exit ?_; conv => whnf)
      | refine go_true rfl ?_
      | refine go_false rfl ?_
      | refine go_cond rfl (fun h => ?_) (fun h => ?_)
      | refine ⟨rfl, ?_⟩
      | (refine ⟨trivial, ?_⟩; conv => whnf)
      | (refine ⟨le_of_ble rfl, ?_⟩; conv => whnf)
      | fail
    all_goals first
      | exact ret_imm rfl rfl rfl rfl rfl rfl
      | (exfalso; simp at h; done)
      | (exfalso; simp at h; omega)
      | trace_state

theorem c6 (xs : List Message) (_ : ∀ v ∈ xs, v.ok) (hl : xs.length ≤ 9223372036854775807) (now : Int) (_ : i64 now) : CallOk Try.prog 6 [.imm (.list (xs.map Message.enc)), .imm (.int .i64 now)] { res := [.imm (.bool true)] } := by
  refine callOk_of tyOk Try.func6 rfl rfl (le_of_ble rfl) (le_of_ble rfl) (mutOk_imm rfl _) ?_
  have hsz := c25 xs 1048576 (by omega) (by omega) hl
  by_cases hs : szSMessage 1048576 xs < 0
  · have h1 : True := trivial
    repeat' first
      | refine go_seq ?_
      | refine go_region ?_
      | (refine go_op rfl ?_; conv => whnf)
      | (refine go_nil ?_; conv => whnf)
      | (refine go_hit rfl rfl rfl ?_; conv => whnf)
      | (refine go_miss rfl rfl rfl ?_)
      | (refine go_undef rfl rfl rfl ?_)
      | (refine go_splitT rfl rfl rfl (fun h => ?_) (fun h => ?_) <;> conv => whnf)
      | (refine go_splitF rfl rfl rfl (fun h => ?_) (fun h => ?_) <;> conv => whnf)
      | (refine go_storeBox rfl rfl rfl rfl rfl rfl ?_; conv => whnf)
      | (refine go_dop rfl ?_; conv => whnf)
      | (refine go_dhit rfl rfl ?_; conv => whnf)
      | refine go_dmiss rfl rfl ?_
      | refine go_dundef rfl rfl ?_
      | (refine go_dend (by kernel_rfl) ?_; conv => whnf)
      | refine go_draw drawsOk ?_
      | (refine go_pickT rfl ?_; conv => whnf)
      | (refine go_pickF rfl ?_; conv => whnf)
      | (refine go_pick rfl (fun h => ?_) (fun h => ?_) <;> conv => whnf)
      | (refine go_call [] (hsz) rfl rfl rfl rfl ?_; conv => whnf)
      | (refine go_loadB ?_; conv => whnf)
      | (refine ⟨by kernel_rfl, ?_⟩; conv => whnf)
      | (refine go_ret ?_; conv => whnf)
      | refine go_block ?_
      | (refine go_skip ?_; conv => whnf)
      | (refine go_exit ?_; conv => whnf)
      | refine go_true rfl ?_
      | refine go_false rfl ?_
      | refine go_cond rfl (fun h => ?_) (fun h => ?_)
      | refine ⟨rfl, ?_⟩
      | (refine ⟨trivial, ?_⟩; conv => whnf)
      | (refine ⟨le_of_ble rfl, ?_⟩; conv => whnf)
      | fail
    all_goals first
      | exact ret_imm rfl rfl rfl rfl rfl rfl
      | (exfalso; simp at h; omega)
  · have hlen := szSMessage_len (by omega) (by omega) hl hs
    have hrl : (amR now xs).length ≤ xs.length := by
      unfold amR
      split
      · exact sel_len _ _ _
      · simp
    have hcs : CallOk Try.prog 34 [.imm (.list (((xs.map Message.enc).drop 0).take (xs.map Message.enc).length)), .imm (.int .i64 now)] { res := [.arr 3 1 ((amR now xs).map intRow), .imm (.bool (amOk now xs))] } := by rw [message_view]; exact c34 xs now hlen
    have hci : CallOk Try.prog 35 [.imm (.list (((xs.map Message.enc).drop 0).take (xs.map Message.enc).length)), .imm (.int .i64 now)] { res := [.arr 3 1 ((amR now xs).map intRow), .imm (.bool (amOk now xs))] } := by rw [message_view]; exact c35 xs now hlen
    have heq : CallOk Try.prog 29 [.imm (.list ((((amR now xs).map intRow).drop 0).take ((amR now xs).map intRow).length)), .imm (.list ((((amR now xs).map intRow).drop 0).take ((amR now xs).map intRow).length))] { res := [.imm (.bool true)] } := by rw [int_view]; exact c29s _ (by omega)
    have heqm : CallOk Try.prog 30 [.imm (.list (((xs.map Message.enc).drop 0).take (xs.map Message.enc).length)), .imm (.list (((xs.map Message.enc).drop 0).take (xs.map Message.enc).length))] { res := [.imm (.bool true)] } := by rw [message_view]; exact c30s _ hlen
    have hm1 := c31 xs 1 (by omega) (by omega) hlen
    have hm2 := c32 (amR now xs) 1 (by omega)
    have hh2 : CallOk Try.prog 33 [.imm (.list ((((marksI 1 (amR now xs).length).map intRow).drop 0).take ((amR now xs).map intRow).length)), .imm (.int .i64 1)] { res := [.imm (.int .i64 (kAt 1 (amR now xs).length))] } := by
      have := c33 1 (amR now xs).length (by omega)
      rwa [show ((((marksI 1 (amR now xs).length).map intRow).drop 0).take ((amR now xs).map intRow).length) = (marksI 1 (amR now xs).length).map intRow from by rw [List.drop_zero, List.take_of_length_le (by simp [marksI])]]
    have hk1 := kAt_eq (k := 1) (by omega) (6 * xs.length) (by omega)
    have hk2 := kAt_eq (k := 1) (by omega) (amR now xs).length (by omega)
    repeat' first
      | refine go_seq ?_
      | refine go_region ?_
      | (refine go_op rfl ?_; conv => whnf)
      | (refine go_nil ?_; conv => whnf)
      | (refine go_hit rfl rfl rfl ?_; conv => whnf)
      | (refine go_miss rfl rfl rfl ?_)
      | (refine go_undef rfl rfl rfl ?_)
      | (refine go_splitT rfl rfl rfl (fun h => ?_) (fun h => ?_) <;> conv => whnf)
      | (refine go_splitF rfl rfl rfl (fun h => ?_) (fun h => ?_) <;> conv => whnf)
      | (refine go_storeBox rfl rfl rfl rfl rfl rfl ?_; conv => whnf)
      | (refine go_dop rfl ?_; conv => whnf)
      | (refine go_dhit rfl rfl ?_; conv => whnf)
      | refine go_dmiss rfl rfl ?_
      | refine go_dundef rfl rfl ?_
      | (refine go_dend (by kernel_rfl) ?_; conv => whnf)
      | refine go_draw drawsOk ?_
      | (refine go_pickT rfl ?_; conv => whnf)
      | (refine go_pickF rfl ?_; conv => whnf)
      | (refine go_pick rfl (fun h => ?_) (fun h => ?_) <;> conv => whnf)
      | (refine go_call [] (hsz) rfl rfl rfl rfl ?_; conv => whnf)
      | (refine go_call [] (c27a xs hlen) rfl rfl rfl rfl ?_; conv => whnf)
      | (refine go_call [] (hcs) rfl rfl rfl rfl ?_; conv => whnf)
      | (refine go_call [] (hci) rfl rfl rfl rfl ?_; conv => whnf)
      | (refine go_call [] (heq) rfl rfl rfl rfl ?_; conv => whnf)
      | (refine go_call [] (heqm) rfl rfl rfl rfl ?_; conv => whnf)
      | (refine go_call [2, 0] hm1 (argsIn_lent rfl rfl rfl) rfl rfl rfl ?_; conv => whnf)
      | (refine go_call [2, 0] hm2 (argsIn_lent rfl rfl rfl) rfl rfl rfl ?_; conv => whnf)
      | (refine go_call [] (hh2) rfl rfl rfl rfl ?_; conv => whnf)
      | (refine go_loadB ?_; conv => whnf)
      | (refine ⟨by kernel_rfl, ?_⟩; conv => whnf)
      | (refine go_ret ?_; conv => whnf)
      | refine go_block ?_
      | (refine go_skip ?_; conv => whnf)
      | (refine go_exit ?_; conv => whnf)
      | refine go_true rfl ?_
      | refine go_false rfl ?_
      | refine go_cond rfl (fun h => ?_) (fun h => ?_)
      | refine ⟨rfl, ?_⟩
      | (refine ⟨trivial, ?_⟩; conv => whnf)
      | (refine ⟨le_of_ble rfl, ?_⟩; conv => whnf)
      | fail
    all_goals first
      | exact ret_imm rfl rfl rfl rfl rfl rfl
      | (exfalso; simp at h; done)
      | (exfalso; simp at h; omega)
      | trace_state

end Go.Proofs.Ytlkmbamenkjcmaa

