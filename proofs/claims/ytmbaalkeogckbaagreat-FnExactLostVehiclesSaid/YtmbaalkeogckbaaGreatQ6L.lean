/- The law of LostVehicles, walked. MADE BY PROGRAM (q6l.py). -/
import Derived.Test.YtmbaalkeogckbaaGreatQ6
namespace Go.Proofs.YtmbaalkeogckbaaGreat
open Go Go.Am Go.Proofs
set_option maxRecDepth 100000
set_option maxHeartbeats 4000000
attribute [local irreducible] amOps amC opCall opIndexAddr opPick retQ opMake opStore amDraw opAppend opLoad opNilCmp opIndex opSlice

theorem c6 (t : Timetable) (hok_t : t.ok) (rs : List Report) (_ : ∀ v ∈ rs, v.ok) (hl_rs : rs.length ≤ 9223372036854775807) (lim : Int) (_ : i64 lim) : CallOk Tryz.prog 6 [.imm (.agg t.enc), .imm (.list (rs.map Report.enc)), .imm (.int .i64 lim)] { res := [.imm (.bool true)] } := by
  refine callOk_of tyOk Tryz.func6 rfl rfl (le_of_ble rfl) (le_of_ble rfl) (mutOk_imm rfl _) ?_
  have hsz1 := c7 t hok_t (1048576) (by omega) (by omega)
  have hle1 := szTimetable_sz.le (1048576) t (by omega)
  by_cases h01 : 0 ≤ szTimetable 1048576 t
  case neg =>
    repeat' first | refine go_seq ?_ | refine go_region ?_ | refine go_miss rfl rfl rfl ?_ | refine go_undef rfl rfl rfl ?_ | refine go_draw drawsOk ?_ | ((first | refine go_op rfl ?_ | refine go_nil ?_ | refine go_hit rfl rfl rfl ?_ | refine go_splitT rfl rfl rfl (fun h => ?_) (fun h => ?_) | refine go_splitF rfl rfl rfl (fun h => ?_) (fun h => ?_) | refine go_storeBox rfl rfl rfl rfl rfl rfl ?_ | refine go_dop rfl ?_ | refine go_dhit rfl rfl ?_ | refine go_dmiss rfl rfl ?_ | refine go_dundef rfl rfl ?_ | refine go_dend (by kernel_rfl) ?_ | refine go_pickT rfl ?_ | refine go_pickF rfl ?_ | refine go_pick rfl (fun h => ?_) (fun h => ?_) | refine go_call [] (hsz1) rfl rfl rfl rfl ?_) <;> conv => whnf) | ((first | refine go_dsplit2 rfl (fun h => ?_) (fun h => ?_) | refine go_loadB ?_ | refine ⟨by kernel_rfl, ?_⟩ | refine go_ret ?_) <;> conv => whnf) | ((first | refine go_skip ?_) <;> conv => whnf) | refine go_true rfl ?_ | refine go_false rfl ?_ | refine go_cond rfl (fun h => ?_) (fun h => ?_) | refine ⟨rfl, ?_⟩ | ((first | refine ⟨trivial, ?_⟩ | refine ⟨le_of_ble rfl, ?_⟩) <;> conv => whnf) | fail
    all_goals first
      | exact ret_imm rfl rfl rfl rfl rfl rfl
      | (exfalso; have h' := of_decide_eq_false h; omega)
      | (exfalso; have h' := of_decide_eq_true h; omega)
      | (exfalso; rename_i hq; have h' := of_decide_eq_true hq; omega)
      | (exfalso; rename_i hq; have h' := of_decide_eq_false hq; omega)
      | (exfalso; rename_i hq _; have h' := of_decide_eq_true hq; omega)
      | (exfalso; rename_i hq _; have h' := of_decide_eq_false hq; omega)
      | trace_state
  have hf_t := szTimetable_fit (by omega) h01
  have hsz2 := c20 rs hl_rs (szTimetable 1048576 t) (by omega) (by omega)
  have hle2 := szReportS_sz.le (szTimetable 1048576 t) rs (by omega)
  by_cases h02 : 0 ≤ szReportS (szTimetable 1048576 t) rs
  case neg =>
    repeat' first | refine go_seq ?_ | refine go_region ?_ | refine go_miss rfl rfl rfl ?_ | refine go_undef rfl rfl rfl ?_ | refine go_draw drawsOk ?_ | ((first | refine go_op rfl ?_ | refine go_nil ?_ | refine go_hit rfl rfl rfl ?_ | refine go_splitT rfl rfl rfl (fun h => ?_) (fun h => ?_) | refine go_splitF rfl rfl rfl (fun h => ?_) (fun h => ?_) | refine go_storeBox rfl rfl rfl rfl rfl rfl ?_ | refine go_dop rfl ?_ | refine go_dhit rfl rfl ?_ | refine go_dmiss rfl rfl ?_ | refine go_dundef rfl rfl ?_ | refine go_dend (by kernel_rfl) ?_ | refine go_pickT rfl ?_ | refine go_pickF rfl ?_ | refine go_pick rfl (fun h => ?_) (fun h => ?_) | refine go_call [] (hsz1) rfl rfl rfl rfl ?_ | refine go_call [] (hsz2) rfl rfl rfl rfl ?_) <;> conv => whnf) | ((first | refine go_dsplit2 rfl (fun h => ?_) (fun h => ?_) | refine go_loadB ?_ | refine ⟨by kernel_rfl, ?_⟩ | refine go_ret ?_) <;> conv => whnf) | ((first | refine go_skip ?_) <;> conv => whnf) | refine go_true rfl ?_ | refine go_false rfl ?_ | refine go_cond rfl (fun h => ?_) (fun h => ?_) | refine ⟨rfl, ?_⟩ | ((first | refine ⟨trivial, ?_⟩ | refine ⟨le_of_ble rfl, ?_⟩) <;> conv => whnf) | fail
    all_goals first
      | exact ret_imm rfl rfl rfl rfl rfl rfl
      | (exfalso; have h' := of_decide_eq_false h; omega)
      | (exfalso; have h' := of_decide_eq_true h; omega)
      | (exfalso; rename_i hq; have h' := of_decide_eq_true hq; omega)
      | (exfalso; rename_i hq; have h' := of_decide_eq_false hq; omega)
      | (exfalso; rename_i hq _; have h' := of_decide_eq_true hq; omega)
      | (exfalso; rename_i hq _; have h' := of_decide_eq_false hq; omega)
      | trace_state
  have hlrs : rs.length ≤ 1048576 := by have := less_pos (k := rs.length) h02; omega
  have hrl : (lvR t rs lim).length ≤ 1048576 := lvR_len t rs lim
  have hspec := c31 t hf_t rs hlrs lim
  have himpl : CallOk Tryz.prog 32 [.imm (.agg t.enc), .imm (.list (((rs.map Report.enc).drop 0).take (rs.map Report.enc).length)), .imm (.int .i64 lim)] { res := [.arr 3 1 ((lvR t rs lim).map intRow), .imm (.bool (mrOk t rs lim))] } := by rw [report_view]; exact c32 t hf_t rs hlrs lim
  have hct1 := cntTimetable_le hf_t
  have hm1 := k16 t hf_t 1 (by omega) (by omega)
  have heq_rs : CallOk Tryz.prog 25 [.imm (.list (((rs.map Report.enc).drop 0).take (rs.map Report.enc).length)), .imm (.list (((rs.map Report.enc).drop 0).take (rs.map Report.enc).length))] { res := [.imm (.bool true)] } := by rw [report_view]; exact c25s rs hlrs
  have hm2 := c26 rs (1 + (cntTimetable t : Nat)) (by omega) (by omega) hlrs
  have hq2 := kAt_eq (k := (1 + (cntTimetable t : Nat))) (by omega) (4 * rs.length) (by omega)
  have heqR : CallOk Tryz.prog 13 [.imm (.list ((((lvR t rs lim).map intRow).drop 0).take ((lvR t rs lim).map intRow).length)), .imm (.list ((((lvR t rs lim).map intRow).drop 0).take ((lvR t rs lim).map intRow).length))] { res := [.imm (.bool true)] } := by rw [int_view]; exact c13s _ hrl
  have heqS : CallOk Tryz.prog 13 [.imm (.list ((((lvR t rs lim).map intRow).drop 0).take ((lvR t rs lim).map intRow).length)), .imm (.list ((lvR t rs lim).map intRow))] { res := [.imm (.bool true)] } := by rw [int_view]; exact c13s _ hrl
  have hmR := c18 (lvR t rs lim) 1 (by omega) (by omega) hrl
  have hhR : CallOk Tryz.prog 19 [.imm (.list ((((marksIntX 1 (lvR t rs lim).length).map intRow).drop 0).take ((lvR t rs lim).map intRow).length)), .imm (.int .i64 1)] { res := [.imm (.int .i64 (kAt 1 (1 * (lvR t rs lim).length)))] } := by
    have := c19 1 (lvR t rs lim).length (by omega) (by omega) hrl
    rwa [show ((((marksIntX 1 (lvR t rs lim).length).map intRow).drop 0).take ((lvR t rs lim).map intRow).length) = (marksIntX 1 (lvR t rs lim).length).map intRow from by rw [List.drop_zero, List.take_of_length_le (by simp [marksIntX])]]
  have hqR := kAt_eq (k := 1) (by omega) (1 * (lvR t rs lim).length) (by omega)
  repeat' first | refine go_seq ?_ | refine go_region ?_ | refine go_miss rfl rfl rfl ?_ | refine go_undef rfl rfl rfl ?_ | refine go_draw drawsOk ?_ | ((first | refine go_op rfl ?_ | refine go_nil ?_ | refine go_hit rfl rfl rfl ?_ | refine go_splitT rfl rfl rfl (fun h => ?_) (fun h => ?_) | refine go_splitF rfl rfl rfl (fun h => ?_) (fun h => ?_) | refine go_storeBox rfl rfl rfl rfl rfl rfl ?_ | refine go_dop rfl ?_ | refine go_dhit rfl rfl ?_ | refine go_dmiss rfl rfl ?_ | refine go_dundef rfl rfl ?_ | refine go_dend (by kernel_rfl) ?_ | refine go_pickT rfl ?_ | refine go_pickF rfl ?_ | refine go_pick rfl (fun h => ?_) (fun h => ?_) | refine go_call [] (hsz1) rfl rfl rfl rfl ?_ | refine go_call [] (hsz2) rfl rfl rfl rfl ?_ | refine go_callAt 31 rfl [] (c10 t hf_t) rfl rfl rfl rfl ?_ | refine go_callAt 33 rfl [] (c22 rs hlrs) rfl rfl rfl rfl ?_ | refine go_call [] (g10 t hf_t) rfl rfl rfl rfl ?_ | refine go_call [] (c14s t hf_t) rfl rfl rfl rfl ?_ | refine go_call [] (c22a rs hlrs) rfl rfl rfl rfl ?_ | refine go_call [] (heq_rs) rfl rfl rfl rfl ?_ | refine go_call [] (hspec) rfl rfl rfl rfl ?_ | refine go_call [] (himpl) rfl rfl rfl rfl ?_ | refine go_call [] (heqR) rfl rfl rfl rfl ?_ | refine go_call [] (heqS) rfl rfl rfl rfl ?_ | refine go_call [3] (hm1) rfl rfl rfl rfl ?_ | refine go_call [2, 0] hm2 (argsIn_lent rfl rfl rfl) rfl rfl rfl ?_ | refine go_call [2, 0] hmR (argsIn_lent rfl rfl rfl) rfl rfl rfl ?_ | refine go_call [] (hhR) rfl rfl rfl rfl ?_) <;> conv => whnf) | ((first | refine go_dsplit2 rfl (fun h => ?_) (fun h => ?_) | refine go_loadB ?_ | refine ⟨by kernel_rfl, ?_⟩ | refine go_ret ?_) <;> conv => whnf) | ((first | refine go_skip ?_) <;> conv => whnf) | refine go_true rfl ?_ | refine go_false rfl ?_ | refine go_cond rfl (fun h => ?_) (fun h => ?_) | refine ⟨rfl, ?_⟩ | ((first | refine ⟨trivial, ?_⟩ | refine ⟨le_of_ble rfl, ?_⟩) <;> conv => whnf) | fail
  all_goals first
    | exact ret_imm rfl rfl rfl rfl rfl rfl
    | (exfalso; simp at h; done)
    | (exfalso; simp at h; omega)
    | (exfalso; have h' := of_decide_eq_false h; omega)
    | (exfalso; have h' := of_decide_eq_true h; omega)
    | (exfalso; rename_i hq; have h' := of_decide_eq_true hq; omega)
    | (exfalso; rename_i hq; have h' := of_decide_eq_false hq; omega)
    | (exfalso; rename_i hq _; have h' := of_decide_eq_true hq; omega)
    | (exfalso; rename_i hq _; have h' := of_decide_eq_false hq; omega)
    | trace_state

end Go.Proofs.YtmbaalkeogckbaaGreat

