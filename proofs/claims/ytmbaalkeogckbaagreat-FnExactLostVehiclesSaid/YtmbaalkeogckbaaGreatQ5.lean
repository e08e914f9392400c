/- The law of MatchReports, walked. -/
import Derived.Test.YtmbaalkeogckbaaGreatQ3
import Derived.Test.YtmbaalkeogckbaaGreatQ4
namespace Go.Proofs.YtmbaalkeogckbaaGreat
open Go Go.Am Go.Proofs
set_option maxRecDepth 100000
set_option maxHeartbeats 4000000
attribute [local irreducible] amOps amC opCall opIndexAddr opPick retQ opMake opStore amDraw opAppend opLoad opNilCmp opIndex opSlice

def mrOk (t : Timetable) (rs : List Report) (lim : Int) : Bool := repsOk t rs && timeOk lim
def mrR (t : Timetable) (rs : List Report) (lim : Int) : List Match := if mrOk t rs lim then matched t rs lim else []
theorem reps_tt {t : Timetable} {rs : List Report} (h : repsOk t rs = true) : ttOk t = true := by
  unfold repsOk at h
  simp only [Bool.and_eq_true] at h
  exact h.1
theorem reps_veh {t : Timetable} {rs : List Report} (h : repsOk t rs = true) : vehOk rs := by
  unfold repsOk repsIn at h
  simp only [Bool.and_eq_true] at h
  intro r hr
  obtain ⟨i, hi⟩ := List.getElem?_of_mem hr
  have := (allI_iff.1 h.2.2) i r hi
  unfold repAt repOk at this
  simp only [Bool.and_eq_true] at this
  exact (inR_iff _ _ _).1 this.1.1
theorem mr_tt {t : Timetable} {rs : List Report} {lim : Int} (h : mrOk t rs lim = true) : ttOk t = true ∧ vehOk rs := by
  unfold mrOk at h
  simp only [Bool.and_eq_true] at h
  exact ⟨reps_tt h.1, reps_veh h.1⟩
theorem mrR_len (t : Timetable) (hf : t.fit) (rs : List Report) (lim : Int) : (mrR t rs lim).length ≤ 1048576 := by
  unfold mrR
  split
  · rename_i h
    have h1 := matched_len t rs lim
    have h2 := tt_12 (mr_tt h).1
    omega
  · simp
theorem c50 (t : Timetable) (hf : t.fit) (rs : List Report) (hl : rs.length ≤ 1048576) (lim : Int) : CallOk Tryz.prog 50 [.imm (.agg t.enc), .imm (.list (rs.map Report.enc)), .imm (.int .i64 lim)] { res := [.imm (.bool (mrOk t rs lim))] } := by
  refine callOk_of tyOk Tryz.func50 rfl rfl (le_of_ble rfl) (le_of_ble rfl) (mutOk_imm rfl _) ?_
  have h0 := c88 t hf rs hl
  have h1 := c57 lim
  unfold mrOk
  repeat' first | refine go_seq ?_ | refine go_region ?_ | refine go_miss rfl rfl rfl ?_ | refine go_undef rfl rfl rfl ?_ | ((first | refine go_op rfl ?_ | refine go_nil ?_ | refine go_hit rfl rfl rfl ?_ | refine go_splitT rfl rfl rfl (fun h => ?_) (fun h => ?_) | refine go_splitF rfl rfl rfl (fun h => ?_) (fun h => ?_) | refine go_pickT rfl ?_ | refine go_pickF rfl ?_ | refine go_pick rfl (fun h => ?_) (fun h => ?_) | refine go_call [] (h0) rfl rfl rfl rfl ?_ | refine go_call [] (h1) rfl rfl rfl rfl ?_) <;> conv => whnf) | ((first | refine go_loadB ?_ | refine ⟨by kernel_rfl, ?_⟩ | refine go_ret ?_) <;> conv => whnf) | ((first | refine go_skip ?_) <;> conv => whnf) | refine ⟨rfl, ?_⟩ | ((first | refine ⟨trivial, ?_⟩ | refine ⟨le_of_ble rfl, ?_⟩) <;> conv => whnf) | fail
  all_goals
    refine ret_imm rfl rfl rfl rfl ?_ rfl
    simp_all
theorem c47 (t : Timetable) (hf : t.fit) (rs : List Report) (hl : rs.length ≤ 1048576) (lim : Int) : CallOk Tryz.prog 47 [.imm (.agg t.enc), .imm (.list (rs.map Report.enc)), .imm (.int .i64 lim)] { res := [.imm (.bool (mrOk t rs lim))] } := by
  refine callOk_of tyOk Tryz.func47 rfl rfl (le_of_ble rfl) (le_of_ble rfl) (mutOk_imm rfl _) ?_
  have h0 := c82 t hf rs hl
  have h1 := c55 lim 0 1799
  unfold mrOk timeOk
  repeat' first | refine go_seq ?_ | refine go_region ?_ | refine go_miss rfl rfl rfl ?_ | refine go_undef rfl rfl rfl ?_ | ((first | refine go_op rfl ?_ | refine go_nil ?_ | refine go_hit rfl rfl rfl ?_ | refine go_splitT rfl rfl rfl (fun h => ?_) (fun h => ?_) | refine go_splitF rfl rfl rfl (fun h => ?_) (fun h => ?_) | refine go_pickT rfl ?_ | refine go_pickF rfl ?_ | refine go_pick rfl (fun h => ?_) (fun h => ?_) | refine go_call [] (h0) rfl rfl rfl rfl ?_ | refine go_call [] (h1) rfl rfl rfl rfl ?_) <;> conv => whnf) | ((first | refine go_loadB ?_ | refine ⟨by kernel_rfl, ?_⟩ | refine go_ret ?_) <;> conv => whnf) | ((first | refine go_skip ?_) <;> conv => whnf) | refine ⟨rfl, ?_⟩ | ((first | refine ⟨trivial, ?_⟩ | refine ⟨le_of_ble rfl, ?_⟩) <;> conv => whnf) | fail
  all_goals
    refine ret_imm rfl rfl rfl rfl ?_ rfl
    simp_all

theorem c23 (t : Timetable) (hf : t.fit) (rs : List Report) (hl : rs.length ≤ 1048576) (lim : Int) : CallOk Tryz.prog 23 [.imm (.agg t.enc), .imm (.list (rs.map Report.enc)), .imm (.int .i64 lim)] { res := [.arr 93 3 ((mrR t rs lim).map Match.enc), .imm (.bool (mrOk t rs lim))] } := by
  refine callOk_of tyOk Tryz.func23 rfl rfl (le_of_ble rfl) (le_of_ble rfl) (mutOk_imm rfl _) ?_
  have h0 := c50 t hf rs hl lim
  unfold mrR
  cases hp : mrOk t rs lim with
  | false =>
    rw [hp] at h0
    repeat' first | refine go_seq ?_ | refine go_region ?_ | ((first | refine go_op rfl ?_ | refine go_nil ?_ | refine go_call [] (h0) rfl rfl rfl rfl ?_) <;> conv => whnf) | ((first | refine go_loadB ?_ | refine ⟨by kernel_rfl, ?_⟩ | refine go_ret ?_) <;> conv => whnf) | ((first | refine go_skip ?_) <;> conv => whnf) | refine go_true rfl ?_ | refine go_false rfl ?_ | refine go_cond rfl (fun h => ?_) (fun h => ?_) | refine ⟨rfl, ?_⟩ | ((first | refine ⟨trivial, ?_⟩ | refine ⟨le_of_ble rfl, ?_⟩) <;> conv => whnf) | fail
    all_goals exact ret_arr2 rfl rfl rfl rfl rfl rfl (by intro r hr; cases hr) rfl rfl rfl
  | true =>
    rw [hp] at h0
    have h1 := c51a t (mr_tt hp).1 rs (mr_tt hp).2 hl lim
    repeat' first | refine go_seq ?_ | refine go_region ?_ | ((first | refine go_op rfl ?_ | refine go_nil ?_ | refine go_call [] (h0) rfl rfl rfl rfl ?_ | refine go_call [] (h1) rfl rfl rfl rfl ?_) <;> conv => whnf) | ((first | refine go_loadB ?_ | refine ⟨by kernel_rfl, ?_⟩ | refine go_ret ?_) <;> conv => whnf) | ((first | refine go_skip ?_) <;> conv => whnf) | refine go_true rfl ?_ | refine go_false rfl ?_ | refine go_cond rfl (fun h => ?_) (fun h => ?_) | refine ⟨rfl, ?_⟩ | ((first | refine ⟨trivial, ?_⟩ | refine ⟨le_of_ble rfl, ?_⟩) <;> conv => whnf) | fail
    all_goals exact ret_arr2 rfl rfl rfl rfl rfl (by rw [List.drop_zero, List.take_length]; rfl) (match_gr _) rfl rfl rfl
theorem c21 (t : Timetable) (hf : t.fit) (rs : List Report) (hl : rs.length ≤ 1048576) (lim : Int) : CallOk Tryz.prog 21 [.imm (.agg t.enc), .imm (.list (rs.map Report.enc)), .imm (.int .i64 lim)] { res := [.arr 93 3 ((mrR t rs lim).map Match.enc), .imm (.bool (mrOk t rs lim))] } := by
  refine callOk_of tyOk Tryz.func21 rfl rfl (le_of_ble rfl) (le_of_ble rfl) (mutOk_imm rfl _) ?_
  have h0 := c47 t hf rs hl lim
  unfold mrR
  cases hp : mrOk t rs lim with
  | false =>
    rw [hp] at h0
    repeat' first | refine go_seq ?_ | refine go_region ?_ | ((first | refine go_op rfl ?_ | refine go_nil ?_ | refine go_call [] (h0) rfl rfl rfl rfl ?_) <;> conv => whnf) | ((first | refine go_loadB ?_ | refine ⟨by kernel_rfl, ?_⟩ | refine go_ret ?_) <;> conv => whnf) | ((first | refine go_skip ?_) <;> conv => whnf) | refine go_true rfl ?_ | refine go_false rfl ?_ | refine go_cond rfl (fun h => ?_) (fun h => ?_) | refine ⟨rfl, ?_⟩ | ((first | refine ⟨trivial, ?_⟩ | refine ⟨le_of_ble rfl, ?_⟩) <;> conv => whnf) | fail
    all_goals exact ret_arr2 rfl rfl rfl rfl rfl rfl (by intro r hr; cases hr) rfl rfl rfl
  | true =>
    rw [hp] at h0
    have h1 := c48a t (mr_tt hp).1 rs (mr_tt hp).2 hl lim
    repeat' first | refine go_seq ?_ | refine go_region ?_ | ((first | refine go_op rfl ?_ | refine go_nil ?_ | refine go_call [] (h0) rfl rfl rfl rfl ?_ | refine go_call [] (h1) rfl rfl rfl rfl ?_) <;> conv => whnf) | ((first | refine go_loadB ?_ | refine ⟨by kernel_rfl, ?_⟩ | refine go_ret ?_) <;> conv => whnf) | ((first | refine go_skip ?_) <;> conv => whnf) | refine go_true rfl ?_ | refine go_false rfl ?_ | refine go_cond rfl (fun h => ?_) (fun h => ?_) | refine ⟨rfl, ?_⟩ | ((first | refine ⟨trivial, ?_⟩ | refine ⟨le_of_ble rfl, ?_⟩) <;> conv => whnf) | fail
    all_goals exact ret_arr2 rfl rfl rfl rfl rfl (by rw [List.drop_zero, List.take_length]; rfl) (match_gr _) rfl rfl rfl

theorem c4 (t : Timetable) (hok_t : t.ok) (rs : List Report) (_ : ∀ v ∈ rs, v.ok) (hl_rs : rs.length ≤ 9223372036854775807) (lim : Int) (_ : i64 lim) : CallOk Tryz.prog 4 [.imm (.agg t.enc), .imm (.list (rs.map Report.enc)), .imm (.int .i64 lim)] { res := [.imm (.bool true)] } := by
  refine callOk_of tyOk Tryz.func4 rfl rfl (le_of_ble rfl) (le_of_ble rfl) (mutOk_imm rfl _) ?_
  have hsz1 := c7 t hok_t (1048576) (by omega) (by omega)
  have hle1 := szTimetable_sz.le (1048576) t (by omega)
  by_cases h01 : 0 ≤ szTimetable 1048576 t
  case neg =>
    repeat' first | refine go_seq ?_ | refine go_region ?_ | refine go_miss rfl rfl rfl ?_ | refine go_undef rfl rfl rfl ?_ | refine go_draw drawsOk ?_ | ((first | refine go_op rfl ?_ | refine go_nil ?_ | refine go_hit rfl rfl rfl ?_ | refine go_splitT rfl rfl rfl (fun h => ?_) (fun h => ?_) | refine go_splitF rfl rfl rfl (fun h => ?_) (fun h => ?_) | refine go_storeBox rfl rfl rfl rfl rfl rfl ?_ | refine go_dop rfl ?_ | refine go_dhit rfl rfl ?_ | refine go_dmiss rfl rfl ?_ | refine go_dundef rfl rfl ?_ | refine go_dend (by kernel_rfl) ?_ | refine go_pickT rfl ?_ | refine go_pickF rfl ?_ | refine go_pick rfl (fun h => ?_) (fun h => ?_) | refine go_call [] (hsz1) rfl rfl rfl rfl ?_) <;> conv => whnf) | ((first | refine go_dsplit2 rfl (fun h => ?_) (fun h => ?_) | refine go_loadB ?_ | refine ⟨by kernel_rfl, ?_⟩ | refine go_ret ?_) <;> conv => whnf) | ((first | refine go_skip ?_) <;> conv => whnf) | refine go_true rfl ?_ | refine go_false rfl ?_ | refine go_cond rfl (fun h => ?_) (fun h => ?_) | refine ⟨rfl, ?_⟩ | ((first | refine ⟨trivial, ?_⟩ | refine ⟨le_of_ble rfl, ?_⟩) <;> conv => whnf) | fail
    all_goals first
      | exact ret_imm rfl rfl rfl rfl rfl rfl
      | (exfalso; have h' := of_decide_eq_false h; omega)
      | (exfalso; have h' := of_decide_eq_true h; omega)
      | (exfalso; rename_i hq; have h' := of_decide_eq_true hq; omega)
      | (exfalso; rename_i hq; have h' := of_decide_eq_false hq; omega)
      | (exfalso; rename_i hq _; have h' := of_decide_eq_true hq; omega)
      | (exfalso; rename_i hq _; have h' := of_decide_eq_false hq; omega)
      | trace_state
  have hf_t := szTimetable_fit (by omega) h01
  have hsz2 := c20 rs hl_rs (szTimetable 1048576 t) (by omega) (by omega)
  have hle2 := szReportS_sz.le (szTimetable 1048576 t) rs (by omega)
  by_cases h02 : 0 ≤ szReportS (szTimetable 1048576 t) rs
  case neg =>
    repeat' first | refine go_seq ?_ | refine go_region ?_ | refine go_miss rfl rfl rfl ?_ | refine go_undef rfl rfl rfl ?_ | refine go_draw drawsOk ?_ | ((first | refine go_op rfl ?_ | refine go_nil ?_ | refine go_hit rfl rfl rfl ?_ | refine go_splitT rfl rfl rfl (fun h => ?_) (fun h => ?_) | refine go_splitF rfl rfl rfl (fun h => ?_) (fun h => ?_) | refine go_storeBox rfl rfl rfl rfl rfl rfl ?_ | refine go_dop rfl ?_ | refine go_dhit rfl rfl ?_ | refine go_dmiss rfl rfl ?_ | refine go_dundef rfl rfl ?_ | refine go_dend (by kernel_rfl) ?_ | refine go_pickT rfl ?_ | refine go_pickF rfl ?_ | refine go_pick rfl (fun h => ?_) (fun h => ?_) | refine go_call [] (hsz1) rfl rfl rfl rfl ?_ | refine go_call [] (hsz2) rfl rfl rfl rfl ?_) <;> conv => whnf) | ((first | refine go_dsplit2 rfl (fun h => ?_) (fun h => ?_) | refine go_loadB ?_ | refine ⟨by kernel_rfl, ?_⟩ | refine go_ret ?_) <;> conv => whnf) | ((first | refine go_skip ?_) <;> conv => whnf) | refine go_true rfl ?_ | refine go_false rfl ?_ | refine go_cond rfl (fun h => ?_) (fun h => ?_) | refine ⟨rfl, ?_⟩ | ((first | refine ⟨trivial, ?_⟩ | refine ⟨le_of_ble rfl, ?_⟩) <;> conv => whnf) | fail
    all_goals first
      | exact ret_imm rfl rfl rfl rfl rfl rfl
      | (exfalso; have h' := of_decide_eq_false h; omega)
      | (exfalso; have h' := of_decide_eq_true h; omega)
      | (exfalso; rename_i hq; have h' := of_decide_eq_true hq; omega)
      | (exfalso; rename_i hq; have h' := of_decide_eq_false hq; omega)
      | (exfalso; rename_i hq _; have h' := of_decide_eq_true hq; omega)
      | (exfalso; rename_i hq _; have h' := of_decide_eq_false hq; omega)
      | trace_state
  have hlrs : rs.length ≤ 1048576 := by have := less_pos (k := rs.length) h02; omega
  have hrl : (mrR t rs lim).length ≤ 1048576 := mrR_len t hf_t rs lim
  have hspec : CallOk Tryz.prog 21 [.imm (.agg t.enc), .imm (.list (((rs.map Report.enc).drop 0).take (rs.map Report.enc).length)), .imm (.int .i64 lim)] { res := [.arr 93 3 ((mrR t rs lim).map Match.enc), .imm (.bool (mrOk t rs lim))] } := by rw [report_view]; exact c21 t hf_t rs hlrs lim
  have himpl : CallOk Tryz.prog 23 [.imm (.agg t.enc), .imm (.list (((rs.map Report.enc).drop 0).take (rs.map Report.enc).length)), .imm (.int .i64 lim)] { res := [.arr 93 3 ((mrR t rs lim).map Match.enc), .imm (.bool (mrOk t rs lim))] } := by rw [report_view]; exact c23 t hf_t rs hlrs lim
  have hct1 := cntTimetable_le hf_t
  have hm1 := k16 t hf_t 1 (by omega) (by omega)
  have heq_rs : CallOk Tryz.prog 25 [.imm (.list (((rs.map Report.enc).drop 0).take (rs.map Report.enc).length)), .imm (.list (((rs.map Report.enc).drop 0).take (rs.map Report.enc).length))] { res := [.imm (.bool true)] } := by rw [report_view]; exact c25s rs hlrs
  have hm2 := c26 rs (1 + (cntTimetable t : Nat)) (by omega) (by omega) hlrs
  have hq2 := kAt_eq (k := (1 + (cntTimetable t : Nat))) (by omega) (4 * rs.length) (by omega)
  have heqR : CallOk Tryz.prog 24 [.imm (.list ((((mrR t rs lim).map Match.enc).drop 0).take ((mrR t rs lim).map Match.enc).length)), .imm (.list ((((mrR t rs lim).map Match.enc).drop 0).take ((mrR t rs lim).map Match.enc).length))] { res := [.imm (.bool true)] } := by rw [match_view]; exact c24s _ hrl
  have hmR := c27 (mrR t rs lim) 1 (by omega) (by omega) hrl
  have hhR : CallOk Tryz.prog 28 [.imm (.list ((((marksMatch 1 (mrR t rs lim).length).map Match.enc).drop 0).take ((mrR t rs lim).map Match.enc).length)), .imm (.int .i64 1)] { res := [.imm (.int .i64 (kAt 1 (3 * (mrR t rs lim).length)))] } := by
    have := c28 1 (mrR t rs lim).length (by omega) (by omega) hrl
    rwa [show ((((marksMatch 1 (mrR t rs lim).length).map Match.enc).drop 0).take ((mrR t rs lim).map Match.enc).length) = (marksMatch 1 (mrR t rs lim).length).map Match.enc from by rw [List.drop_zero, List.take_of_length_le (by simp [marksMatch])]]
  have hqR := kAt_eq (k := 1) (by omega) (3 * (mrR t rs lim).length) (by omega)
  repeat' first | refine go_seq ?_ | refine go_region ?_ | refine go_miss rfl rfl rfl ?_ | refine go_undef rfl rfl rfl ?_ | refine go_draw drawsOk ?_ | ((first | refine go_op rfl ?_ | refine go_nil ?_ | refine go_hit rfl rfl rfl ?_ | refine go_splitT rfl rfl rfl (fun h => ?_) (fun h => ?_) | refine go_splitF rfl rfl rfl (fun h => ?_) (fun h => ?_) | refine go_storeBox rfl rfl rfl rfl rfl rfl ?_ | refine go_dop rfl ?_ | refine go_dhit rfl rfl ?_ | refine go_dmiss rfl rfl ?_ | refine go_dundef rfl rfl ?_ | refine go_dend (by kernel_rfl) ?_ | refine go_pickT rfl ?_ | refine go_pickF rfl ?_ | refine go_pick rfl (fun h => ?_) (fun h => ?_) | refine go_call [] (hsz1) rfl rfl rfl rfl ?_ | refine go_call [] (hsz2) rfl rfl rfl rfl ?_ | refine go_call [] (g10 t hf_t) rfl rfl rfl rfl ?_ | refine go_call [] (c14s t hf_t) rfl rfl rfl rfl ?_ | refine go_call [] (c22a rs hlrs) rfl rfl rfl rfl ?_ | refine go_call [] (heq_rs) rfl rfl rfl rfl ?_ | refine go_call [] (hspec) rfl rfl rfl rfl ?_ | refine go_call [] (himpl) rfl rfl rfl rfl ?_ | refine go_call [] (heqR) rfl rfl rfl rfl ?_ | refine go_call [3] (hm1) rfl rfl rfl rfl ?_ | refine go_call [2, 0] hm2 (argsIn_lent rfl rfl rfl) rfl rfl rfl ?_ | refine go_call [2, 0] hmR (argsIn_lent rfl rfl rfl) rfl rfl rfl ?_ | refine go_call [] (hhR) rfl rfl rfl rfl ?_) <;> conv => whnf) | ((first | refine go_dsplit2 rfl (fun h => ?_) (fun h => ?_) | refine go_loadB ?_ | refine ⟨by kernel_rfl, ?_⟩ | refine go_ret ?_) <;> conv => whnf) | ((first | refine go_skip ?_) <;> conv => whnf) | refine go_true rfl ?_ | refine go_false rfl ?_ | refine go_cond rfl (fun h => ?_) (fun h => ?_) | refine ⟨rfl, ?_⟩ | ((first | refine ⟨trivial, ?_⟩ | refine ⟨le_of_ble rfl, ?_⟩) <;> conv => whnf) | fail
  all_goals first
    | exact ret_imm rfl rfl rfl rfl rfl rfl
    | (exfalso; simp at h; done)
    | (exfalso; simp at h; omega)
    | (exfalso; have h' := of_decide_eq_false h; omega)
    | (exfalso; have h' := of_decide_eq_true h; omega)
    | (exfalso; rename_i hq; have h' := of_decide_eq_true hq; omega)
    | (exfalso; rename_i hq; have h' := of_decide_eq_false hq; omega)
    | (exfalso; rename_i hq _; have h' := of_decide_eq_true hq; omega)
    | (exfalso; rename_i hq _; have h' := of_decide_eq_false hq; omega)
    | trace_state
end Go.Proofs.YtmbaalkeogckbaaGreat

