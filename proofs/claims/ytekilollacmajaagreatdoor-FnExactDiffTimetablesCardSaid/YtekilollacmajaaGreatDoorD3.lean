/- The differences of two timetables: the law. -/
import Derived.Test.YtekilollacmajaaGreatDoorD2
import Derived.Test.YtekilollacmajaaGreatDoorI1
import Derived.Test.YtekilollacmajaaGreatDoorN7
namespace Go.Proofs.YtekilollacmajaaGreatDoor
open Go Go.Am Go.Proofs
set_option maxRecDepth 100000
set_option maxHeartbeats 8000000
attribute [local irreducible] amOps amC opCall opIndexAddr opPick retQ opMake opStore amDraw opAppend opLoad opNilCmp opIndex opSlice

theorem c3 (a : Timetable) (hok_a : a.ok) (b : Timetable) (hok_b : b.ok) : CallOk Tryz.prog 3 [.imm (.agg a.enc), .imm (.agg b.enc)] { res := [.imm (.bool true)] } := by
  refine callOk_of tyOk Tryz.func3 rfl rfl (le_of_ble rfl) (le_of_ble rfl) (mutOk_imm rfl _) ?_
  have hsz1 := c4 a hok_a (1048576) (by omega) (by omega)
  have hle1 := szTimetable_sz.le (1048576) a (by omega)
  by_cases h01 : 0 ≤ szTimetable 1048576 a
  case neg =>
    repeat' first | refine go_seq ?_ | refine go_region ?_ | refine go_miss rfl rfl rfl ?_ | refine go_undef rfl rfl rfl ?_ | refine go_draw drawsOk ?_ | ((first | refine go_op rfl ?_ | refine go_nil ?_ | refine go_hit rfl rfl rfl ?_ | refine go_splitT rfl rfl rfl (fun h => ?_) (fun h => ?_) | refine go_splitF rfl rfl rfl (fun h => ?_) (fun h => ?_) | refine go_storeBox rfl rfl rfl rfl rfl rfl ?_ | refine go_dop rfl ?_ | refine go_dhit rfl rfl ?_ | refine go_dmiss rfl rfl ?_ | refine go_dundef rfl rfl ?_ | refine go_dend (by kernel_rfl) ?_ | refine go_pickT rfl ?_ | refine go_pickF rfl ?_ | refine go_pick rfl (fun h => ?_) (fun h => ?_) | refine go_call [] (hsz1) rfl rfl rfl rfl ?_) <;> conv => whnf) | ((first | refine go_dsplit2 rfl (fun h => ?_) (fun h => ?_) | refine go_loadB ?_ | refine ⟨by kernel_rfl, ?_⟩ | refine go_ret ?_) <;> conv => whnf) | ((first | refine go_skip ?_) <;> conv => whnf) | refine go_true rfl ?_ | refine go_false rfl ?_ | refine go_cond rfl (fun h => ?_) (fun h => ?_) | refine ⟨rfl, ?_⟩ | ((first | refine ⟨trivial, ?_⟩ | refine ⟨le_of_ble rfl, ?_⟩) <;> conv => whnf) | fail
    all_goals first
      | exact ret_imm rfl rfl rfl rfl rfl rfl
      | (exfalso; have h' := of_decide_eq_false h; omega)
      | (exfalso; have h' := of_decide_eq_true h; omega)
      | (exfalso; rename_i hq; have h' := of_decide_eq_true hq; omega)
      | (exfalso; rename_i hq; have h' := of_decide_eq_false hq; omega)
      | (exfalso; rename_i hq _; have h' := of_decide_eq_true hq; omega)
      | (exfalso; rename_i hq _; have h' := of_decide_eq_false hq; omega)
      | (exfalso; simp only [List.length_map, decide_eq_false_iff_not, decide_eq_true_eq] at *; omega)
      | trace_state
  have hf_a := szTimetable_fit (by omega) h01
  have hsz2 := c4 b hok_b (szTimetable 1048576 a) (by omega) (by omega)
  have hle2 := szTimetable_sz.le (szTimetable 1048576 a) b (by omega)
  by_cases h02 : 0 ≤ szTimetable (szTimetable 1048576 a) b
  case neg =>
    repeat' first | refine go_seq ?_ | refine go_region ?_ | refine go_miss rfl rfl rfl ?_ | refine go_undef rfl rfl rfl ?_ | refine go_draw drawsOk ?_ | ((first | refine go_op rfl ?_ | refine go_nil ?_ | refine go_hit rfl rfl rfl ?_ | refine go_splitT rfl rfl rfl (fun h => ?_) (fun h => ?_) | refine go_splitF rfl rfl rfl (fun h => ?_) (fun h => ?_) | refine go_storeBox rfl rfl rfl rfl rfl rfl ?_ | refine go_dop rfl ?_ | refine go_dhit rfl rfl ?_ | refine go_dmiss rfl rfl ?_ | refine go_dundef rfl rfl ?_ | refine go_dend (by kernel_rfl) ?_ | refine go_pickT rfl ?_ | refine go_pickF rfl ?_ | refine go_pick rfl (fun h => ?_) (fun h => ?_) | refine go_call [] (hsz1) rfl rfl rfl rfl ?_ | refine go_call [] (hsz2) rfl rfl rfl rfl ?_) <;> conv => whnf) | ((first | refine go_dsplit2 rfl (fun h => ?_) (fun h => ?_) | refine go_loadB ?_ | refine ⟨by kernel_rfl, ?_⟩ | refine go_ret ?_) <;> conv => whnf) | ((first | refine go_skip ?_) <;> conv => whnf) | refine go_true rfl ?_ | refine go_false rfl ?_ | refine go_cond rfl (fun h => ?_) (fun h => ?_) | refine ⟨rfl, ?_⟩ | ((first | refine ⟨trivial, ?_⟩ | refine ⟨le_of_ble rfl, ?_⟩) <;> conv => whnf) | fail
    all_goals first
      | exact ret_imm rfl rfl rfl rfl rfl rfl
      | (exfalso; have h' := of_decide_eq_false h; omega)
      | (exfalso; have h' := of_decide_eq_true h; omega)
      | (exfalso; rename_i hq; have h' := of_decide_eq_true hq; omega)
      | (exfalso; rename_i hq; have h' := of_decide_eq_false hq; omega)
      | (exfalso; rename_i hq _; have h' := of_decide_eq_true hq; omega)
      | (exfalso; rename_i hq _; have h' := of_decide_eq_false hq; omega)
      | (exfalso; simp only [List.length_map, decide_eq_false_iff_not, decide_eq_true_eq] at *; omega)
      | trace_state
  have hf_b := szTimetable_fit (by omega) h02
  have hrl : (dfL a b).length ≤ 1048576 := (dfL_len a b)
  have hspec : CallOk Tryz.prog 5 [.imm (.agg a.enc), .imm (.agg b.enc)] { res := [.arr 52 5 ((dfL a b).map Change.enc), .imm (.bool (dfOk a b))] } := by exact c5 a b hf_a hf_b
  have himpl : CallOk Tryz.prog 7 [.imm (.agg a.enc), .imm (.agg b.enc)] { res := [.arr 52 5 ((dfL a b).map Change.enc), .imm (.bool (dfOk a b))] } := by exact c7 a b hf_a hf_b
  have hct1 := cntTimetable_le hf_a
  have hm1 := k10 a hf_a 1 (by omega) (by omega)
  have hct2 := cntTimetable_le hf_b
  have hm2 := k10 b hf_b (1 + (cntTimetable a : Nat)) (by omega) (by omega)
  have heqR : CallOk Tryz.prog 8 [.imm (.list ((((dfL a b).map Change.enc).drop 0).take ((dfL a b).map Change.enc).length)), .imm (.list ((((dfL a b).map Change.enc).drop 0).take ((dfL a b).map Change.enc).length))] { res := [.imm (.bool true)] } := by rw [change_view]; exact c8s _ hrl
  have hmR := c11 (dfL a b) 1 (by omega) (by omega) hrl
  have hhR : CallOk Tryz.prog 12 [.imm (.list ((((marksChange 1 (dfL a b).length).map Change.enc).drop 0).take ((dfL a b).map Change.enc).length)), .imm (.int .i64 1)] { res := [.imm (.int .i64 (kAt 1 (5 * (dfL a b).length)))] } := by
    have := c12 1 (dfL a b).length (by omega) (by omega) hrl
    rwa [show ((((marksChange 1 (dfL a b).length).map Change.enc).drop 0).take ((dfL a b).map Change.enc).length) = (marksChange 1 (dfL a b).length).map Change.enc from by rw [List.drop_zero, List.take_of_length_le (by simp [marksChange])]]
  have hqR := kAt_eq (k := 1) (by omega) (5 * (dfL a b).length) (by omega)
  repeat' first | refine go_seq ?_ | refine go_region ?_ | refine go_miss rfl rfl rfl ?_ | refine go_undef rfl rfl rfl ?_ | refine go_draw drawsOk ?_ | ((first | refine go_op rfl ?_ | refine go_nil ?_ | refine go_hit rfl rfl rfl ?_ | refine go_splitT rfl rfl rfl (fun h => ?_) (fun h => ?_) | refine go_splitF rfl rfl rfl (fun h => ?_) (fun h => ?_) | refine go_storeBox rfl rfl rfl rfl rfl rfl ?_ | refine go_dop rfl ?_ | refine go_dhit rfl rfl ?_ | refine go_dmiss rfl rfl ?_ | refine go_dundef rfl rfl ?_ | refine go_dend (by kernel_rfl) ?_ | refine go_pickT rfl ?_ | refine go_pickF rfl ?_ | refine go_pick rfl (fun h => ?_) (fun h => ?_) | refine go_call [] (hsz1) rfl rfl rfl rfl ?_ | refine go_call [] (hsz2) rfl rfl rfl rfl ?_ | refine go_call [] (g6 a hf_a) rfl rfl rfl rfl ?_ | refine go_call [] (c9s a hf_a) rfl rfl rfl rfl ?_ | refine go_call [] (g6 b hf_b) rfl rfl rfl rfl ?_ | refine go_call [] (c9s b hf_b) rfl rfl rfl rfl ?_ | refine go_call [] (hspec) rfl rfl rfl rfl ?_ | refine go_call [] (himpl) rfl rfl rfl rfl ?_ | refine go_call [] (heqR) rfl rfl rfl rfl ?_ | refine go_call [3] (hm1) rfl rfl rfl rfl ?_ | refine go_call [3] (hm2) rfl rfl rfl rfl ?_ | refine go_call [2, 0] hmR (argsIn_lent rfl rfl rfl) rfl rfl rfl ?_ | refine go_call [] (hhR) rfl rfl rfl rfl ?_) <;> conv => whnf) | ((first | refine go_dsplit2 rfl (fun h => ?_) (fun h => ?_) | refine go_loadB ?_ | refine ⟨by kernel_rfl, ?_⟩ | refine go_ret ?_) <;> conv => whnf) | ((first | refine go_skip ?_) <;> conv => whnf) | refine go_true rfl ?_ | refine go_false rfl ?_ | refine go_cond rfl (fun h => ?_) (fun h => ?_) | refine ⟨rfl, ?_⟩ | ((first | refine ⟨trivial, ?_⟩ | refine ⟨le_of_ble rfl, ?_⟩) <;> conv => whnf) | fail
  all_goals first
    | exact ret_imm rfl rfl rfl rfl rfl rfl
    | (exfalso; simp at h; done)
    | (exfalso; simp at h; omega)
    | (exfalso; have h' := of_decide_eq_false h; omega)
    | (exfalso; have h' := of_decide_eq_true h; omega)
    | (exfalso; rename_i hq; have h' := of_decide_eq_true hq; omega)
    | (exfalso; rename_i hq; have h' := of_decide_eq_false hq; omega)
    | (exfalso; rename_i hq _; have h' := of_decide_eq_true hq; omega)
    | (exfalso; rename_i hq _; have h' := of_decide_eq_false hq; omega)
    | (exfalso; simp only [List.length_map, decide_eq_false_iff_not, decide_eq_true_eq] at *; omega)
    | trace_state
end Go.Proofs.YtekilollacmajaaGreatDoor

