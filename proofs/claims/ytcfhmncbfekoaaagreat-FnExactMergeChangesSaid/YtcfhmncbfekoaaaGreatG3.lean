/- Lists of changes merged: the law. -/
import Derived.Test.YtcfhmncbfekoaaaGreatG2
import Derived.Test.YtcfhmncbfekoaaaGreatI1
import Derived.Test.YtcfhmncbfekoaaaGreatN8
import Derived.Test.YtcfhmncbfekoaaaGreatN7
namespace Go.Proofs.YtcfhmncbfekoaaaGreat
open Go Go.Am
set_option maxRecDepth 100000
set_option maxHeartbeats 8000000
attribute [local irreducible] amOps amC opCall opIndexAddr opPick retQ opMake opStore amDraw opAppend opLoad opNilCmp opIndex opSlice

theorem c3 (t : Timetable) (hok_t : t.ok) (xs : List Change) (_ : ∀ v ∈ xs, v.ok) (hl_xs : xs.length ≤ 9223372036854775807) (ys : List Change) (_ : ∀ v ∈ ys, v.ok) (hl_ys : ys.length ≤ 9223372036854775807) : CallOk Tryz.prog 3 [.imm (.agg t.enc), .imm (.list (xs.map Change.enc)), .imm (.list (ys.map Change.enc))] { res := [.imm (.bool true)] } := by
  refine callOk_of tyOk Tryz.func3 rfl rfl (le_of_ble rfl) (le_of_ble rfl) (mutOk_imm rfl _) ?_
  have hsz1 := c6 t hok_t (1048576) (by omega) (by omega)
  have hle1 := szTimetable_sz.le (1048576) t (by omega)
  by_cases h01 : 0 ≤ szTimetable 1048576 t
  case neg =>
    repeat' first | refine go_seq ?_ | refine go_region ?_ | refine go_miss rfl rfl rfl ?_ | refine go_undef rfl rfl rfl ?_ | refine go_draw drawsOk ?_ | ((first | refine go_op rfl ?_ | refine go_nil ?_ | refine go_hit rfl rfl rfl ?_ | refine go_splitT rfl rfl rfl (fun h => ?_) (fun h => ?_) | refine go_splitF rfl rfl rfl (fun h => ?_) (fun h => ?_) | refine go_storeBox rfl rfl rfl rfl rfl rfl ?_ | refine go_dop rfl ?_ | refine go_dhit rfl rfl ?_ | refine go_dmiss rfl rfl ?_ | refine go_dundef rfl rfl ?_ | refine go_dend (by kernel_rfl) ?_ | refine go_pickT rfl ?_ | refine go_pickF rfl ?_ | refine go_pick rfl (fun h => ?_) (fun h => ?_) | refine go_call [] (hsz1) rfl rfl rfl rfl ?_) <;> conv => whnf) | ((first | refine go_dsplit2 rfl (fun h => ?_) (fun h => ?_) | refine go_loadB ?_ | refine ⟨by kernel_rfl, ?_⟩ | refine go_ret ?_) <;> conv => whnf) | ((first | refine go_skip ?_) <;> conv => whnf) | refine go_true rfl ?_ | refine go_false rfl ?_ | refine go_cond rfl (fun h => ?_) (fun h => ?_) | refine ⟨rfl, ?_⟩ | ((first | refine ⟨trivial, ?_⟩ | refine ⟨le_of_ble rfl, ?_⟩) <;> conv => whnf) | fail
    all_goals first
      | exact ret_imm rfl rfl rfl rfl rfl rfl
      | (exfalso; have h' := of_decide_eq_false h; omega)
      | (exfalso; have h' := of_decide_eq_true h; omega)
      | (exfalso; rename_i hq; have h' := of_decide_eq_true hq; omega)
      | (exfalso; rename_i hq; have h' := of_decide_eq_false hq; omega)
      | (exfalso; rename_i hq _; have h' := of_decide_eq_true hq; omega)
      | (exfalso; rename_i hq _; have h' := of_decide_eq_false hq; omega)
      | trace_state
  have hf_t := szTimetable_fit (by omega) h01
  have hsz2 := c7 xs hl_xs (szTimetable 1048576 t) (by omega) (by omega)
  have hle2 := szChangeS_sz.le (szTimetable 1048576 t) xs (by omega)
  by_cases h02 : 0 ≤ szChangeS (szTimetable 1048576 t) xs
  case neg =>
    repeat' first | refine go_seq ?_ | refine go_region ?_ | refine go_miss rfl rfl rfl ?_ | refine go_undef rfl rfl rfl ?_ | refine go_draw drawsOk ?_ | ((first | refine go_op rfl ?_ | refine go_nil ?_ | refine go_hit rfl rfl rfl ?_ | refine go_splitT rfl rfl rfl (fun h => ?_) (fun h => ?_) | refine go_splitF rfl rfl rfl (fun h => ?_) (fun h => ?_) | refine go_storeBox rfl rfl rfl rfl rfl rfl ?_ | refine go_dop rfl ?_ | refine go_dhit rfl rfl ?_ | refine go_dmiss rfl rfl ?_ | refine go_dundef rfl rfl ?_ | refine go_dend (by kernel_rfl) ?_ | refine go_pickT rfl ?_ | refine go_pickF rfl ?_ | refine go_pick rfl (fun h => ?_) (fun h => ?_) | refine go_call [] (hsz1) rfl rfl rfl rfl ?_ | refine go_call [] (hsz2) rfl rfl rfl rfl ?_) <;> conv => whnf) | ((first | refine go_dsplit2 rfl (fun h => ?_) (fun h => ?_) | refine go_loadB ?_ | refine ⟨by kernel_rfl, ?_⟩ | refine go_ret ?_) <;> conv => whnf) | ((first | refine go_skip ?_) <;> conv => whnf) | refine go_true rfl ?_ | refine go_false rfl ?_ | refine go_cond rfl (fun h => ?_) (fun h => ?_) | refine ⟨rfl, ?_⟩ | ((first | refine ⟨trivial, ?_⟩ | refine ⟨le_of_ble rfl, ?_⟩) <;> conv => whnf) | fail
    all_goals first
      | exact ret_imm rfl rfl rfl rfl rfl rfl
      | (exfalso; have h' := of_decide_eq_false h; omega)
      | (exfalso; have h' := of_decide_eq_true h; omega)
      | (exfalso; rename_i hq; have h' := of_decide_eq_true hq; omega)
      | (exfalso; rename_i hq; have h' := of_decide_eq_false hq; omega)
      | (exfalso; rename_i hq _; have h' := of_decide_eq_true hq; omega)
      | (exfalso; rename_i hq _; have h' := of_decide_eq_false hq; omega)
      | trace_state
  have hlxs : xs.length ≤ 1048576 := by have := less_pos (k := xs.length) h02; omega
  have hsz3 := c7 ys hl_ys (szChangeS (szTimetable 1048576 t) xs) (by omega) (by omega)
  have hle3 := szChangeS_sz.le (szChangeS (szTimetable 1048576 t) xs) ys (by omega)
  by_cases h03 : 0 ≤ szChangeS (szChangeS (szTimetable 1048576 t) xs) ys
  case neg =>
    repeat' first | refine go_seq ?_ | refine go_region ?_ | refine go_miss rfl rfl rfl ?_ | refine go_undef rfl rfl rfl ?_ | refine go_draw drawsOk ?_ | ((first | refine go_op rfl ?_ | refine go_nil ?_ | refine go_hit rfl rfl rfl ?_ | refine go_splitT rfl rfl rfl (fun h => ?_) (fun h => ?_) | refine go_splitF rfl rfl rfl (fun h => ?_) (fun h => ?_) | refine go_storeBox rfl rfl rfl rfl rfl rfl ?_ | refine go_dop rfl ?_ | refine go_dhit rfl rfl ?_ | refine go_dmiss rfl rfl ?_ | refine go_dundef rfl rfl ?_ | refine go_dend (by kernel_rfl) ?_ | refine go_pickT rfl ?_ | refine go_pickF rfl ?_ | refine go_pick rfl (fun h => ?_) (fun h => ?_) | refine go_call [] (hsz1) rfl rfl rfl rfl ?_ | refine go_call [] (hsz2) rfl rfl rfl rfl ?_ | refine go_call [] (hsz3) rfl rfl rfl rfl ?_) <;> conv => whnf) | ((first | refine go_dsplit2 rfl (fun h => ?_) (fun h => ?_) | refine go_loadB ?_ | refine ⟨by kernel_rfl, ?_⟩ | refine go_ret ?_) <;> conv => whnf) | ((first | refine go_skip ?_) <;> conv => whnf) | refine go_true rfl ?_ | refine go_false rfl ?_ | refine go_cond rfl (fun h => ?_) (fun h => ?_) | refine ⟨rfl, ?_⟩ | ((first | refine ⟨trivial, ?_⟩ | refine ⟨le_of_ble rfl, ?_⟩) <;> conv => whnf) | fail
    all_goals first
      | exact ret_imm rfl rfl rfl rfl rfl rfl
      | (exfalso; have h' := of_decide_eq_false h; omega)
      | (exfalso; have h' := of_decide_eq_true h; omega)
      | (exfalso; rename_i hq; have h' := of_decide_eq_true hq; omega)
      | (exfalso; rename_i hq; have h' := of_decide_eq_false hq; omega)
      | (exfalso; rename_i hq _; have h' := of_decide_eq_true hq; omega)
      | (exfalso; rename_i hq _; have h' := of_decide_eq_false hq; omega)
      | trace_state
  have hlys : ys.length ≤ 1048576 := by have := less_pos (k := ys.length) h03; omega
  have hrl : (mgL t xs ys).length ≤ 1048576 := (by have := mgL_len t xs ys; omega)
  have hspec : CallOk Tryz.prog 8 [.imm (.agg t.enc), .imm (.list (((xs.map Change.enc).drop 0).take (xs.map Change.enc).length)), .imm (.list (((ys.map Change.enc).drop 0).take (ys.map Change.enc).length))] { res := [.arr 62 5 ((mgL t xs ys).map Change.enc), .imm (.bool (mgOk t xs ys))] } := by rw [change_view, change_view]; exact c8 t hf_t xs hlxs ys hlys
  have himpl : CallOk Tryz.prog 11 [.imm (.agg t.enc), .imm (.list (((xs.map Change.enc).drop 0).take (xs.map Change.enc).length)), .imm (.list (((ys.map Change.enc).drop 0).take (ys.map Change.enc).length))] { res := [.arr 62 5 ((mgL t xs ys).map Change.enc), .imm (.bool (mgOk t xs ys))] } := by rw [change_view, change_view]; exact c11 t hf_t xs hlxs ys hlys
  have hct1 := cntTimetable_le hf_t
  have hm1 := k14 t hf_t 1 (by omega) (by omega)
  have heq_xs : CallOk Tryz.prog 12 [.imm (.list (((xs.map Change.enc).drop 0).take (xs.map Change.enc).length)), .imm (.list (((xs.map Change.enc).drop 0).take (xs.map Change.enc).length))] { res := [.imm (.bool true)] } := by rw [change_view]; exact c12s xs hlxs
  have hm2 := c15 xs (1 + (cntTimetable t : Nat)) (by omega) (by omega) hlxs
  have hq2 := kAt_eq (k := (1 + (cntTimetable t : Nat))) (by omega) (5 * xs.length) (by omega)
  have heq_ys : CallOk Tryz.prog 12 [.imm (.list (((ys.map Change.enc).drop 0).take (ys.map Change.enc).length)), .imm (.list (((ys.map Change.enc).drop 0).take (ys.map Change.enc).length))] { res := [.imm (.bool true)] } := by rw [change_view]; exact c12s ys hlys
  have hm3 := c15 ys (kAt (1 + (cntTimetable t : Nat)) (5 * xs.length)) (by omega) (by omega) hlys
  have hq3 := kAt_eq (k := (kAt (1 + (cntTimetable t : Nat)) (5 * xs.length))) (by omega) (5 * ys.length) (by omega)
  have heqR : CallOk Tryz.prog 12 [.imm (.list ((((mgL t xs ys).map Change.enc).drop 0).take ((mgL t xs ys).map Change.enc).length)), .imm (.list ((((mgL t xs ys).map Change.enc).drop 0).take ((mgL t xs ys).map Change.enc).length))] { res := [.imm (.bool true)] } := by rw [change_view]; exact c12s _ hrl
  have hmR := c15 (mgL t xs ys) 1 (by omega) (by omega) hrl
  have hhR : CallOk Tryz.prog 16 [.imm (.list ((((marksChange 1 (mgL t xs ys).length).map Change.enc).drop 0).take ((mgL t xs ys).map Change.enc).length)), .imm (.int .i64 1)] { res := [.imm (.int .i64 (kAt 1 (5 * (mgL t xs ys).length)))] } := by
    have := c16 1 (mgL t xs ys).length (by omega) (by omega) hrl
    rwa [show ((((marksChange 1 (mgL t xs ys).length).map Change.enc).drop 0).take ((mgL t xs ys).map Change.enc).length) = (marksChange 1 (mgL t xs ys).length).map Change.enc from by rw [List.drop_zero, List.take_of_length_le (by simp [marksChange])]]
  have hqR := kAt_eq (k := 1) (by omega) (5 * (mgL t xs ys).length) (by omega)
  repeat' first | refine go_seq ?_ | refine go_region ?_ | refine go_miss rfl rfl rfl ?_ | refine go_undef rfl rfl rfl ?_ | refine go_draw drawsOk ?_ | ((first | refine go_op rfl ?_ | refine go_nil ?_ | refine go_hit rfl rfl rfl ?_ | refine go_splitT rfl rfl rfl (fun h => ?_) (fun h => ?_) | refine go_splitF rfl rfl rfl (fun h => ?_) (fun h => ?_) | refine go_storeBox rfl rfl rfl rfl rfl rfl ?_ | refine go_dop rfl ?_ | refine go_dhit rfl rfl ?_ | refine go_dmiss rfl rfl ?_ | refine go_dundef rfl rfl ?_ | refine go_dend (by kernel_rfl) ?_ | refine go_pickT rfl ?_ | refine go_pickF rfl ?_ | refine go_pick rfl (fun h => ?_) (fun h => ?_) | refine go_call [] (hsz1) rfl rfl rfl rfl ?_ | refine go_call [] (hsz2) rfl rfl rfl rfl ?_ | refine go_call [] (hsz3) rfl rfl rfl rfl ?_ | refine go_call [] (g9 t hf_t) rfl rfl rfl rfl ?_ | refine go_call [] (c13s t hf_t) rfl rfl rfl rfl ?_ | refine go_call [] (c10a xs hlxs) rfl rfl rfl rfl ?_ | refine go_call [] (heq_xs) rfl rfl rfl rfl ?_ | refine go_call [] (c10a ys hlys) rfl rfl rfl rfl ?_ | refine go_call [] (heq_ys) rfl rfl rfl rfl ?_ | refine go_call [] (hspec) rfl rfl rfl rfl ?_ | refine go_call [] (himpl) rfl rfl rfl rfl ?_ | refine go_call [] (heqR) rfl rfl rfl rfl ?_ | refine go_call [3] (hm1) rfl rfl rfl rfl ?_ | refine go_call [2, 0] hm2 (argsIn_lent rfl rfl rfl) rfl rfl rfl ?_ | refine go_call [2, 0] hm3 (argsIn_lent rfl rfl rfl) rfl rfl rfl ?_ | refine go_call [2, 0] hmR (argsIn_lent rfl rfl rfl) rfl rfl rfl ?_ | refine go_call [] (hhR) rfl rfl rfl rfl ?_) <;> conv => whnf) | ((first | refine go_dsplit2 rfl (fun h => ?_) (fun h => ?_) | refine go_loadB ?_ | refine ⟨by kernel_rfl, ?_⟩ | refine go_ret ?_) <;> conv => whnf) | ((first | refine go_skip ?_) <;> conv => whnf) | refine go_true rfl ?_ | refine go_false rfl ?_ | refine go_cond rfl (fun h => ?_) (fun h => ?_) | refine ⟨rfl, ?_⟩ | ((first | refine ⟨trivial, ?_⟩ | refine ⟨le_of_ble rfl, ?_⟩) <;> conv => whnf) | fail
  all_goals first
    | exact ret_imm rfl rfl rfl rfl rfl rfl
    | (exfalso; simp at h; done)
    | (exfalso; simp at h; omega)
    | (exfalso; have h' := of_decide_eq_false h; omega)
    | (exfalso; have h' := of_decide_eq_true h; omega)
    | (exfalso; rename_i hq; have h' := of_decide_eq_true hq; omega)
    | (exfalso; rename_i hq; have h' := of_decide_eq_false hq; omega)
    | (exfalso; rename_i hq _; have h' := of_decide_eq_true hq; omega)
    | (exfalso; rename_i hq _; have h' := of_decide_eq_false hq; omega)
    | trace_state
end Go.Proofs.YtcfhmncbfekoaaaGreat

