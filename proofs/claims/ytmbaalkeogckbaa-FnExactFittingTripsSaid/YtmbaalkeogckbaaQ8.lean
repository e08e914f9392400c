/- The law of FittingTrips, walked (seat of r5). -/
import Derived.Test.YtmbaalkeogckbaaQ2
namespace Go.Proofs.Ytmbaalkeogckbaa
open Go Go.Am Go.Proofs
set_option maxRecDepth 100000
set_option maxHeartbeats 4000000
attribute [local irreducible] amOps amC opCall opIndexAddr opPick retQ opMake opStore amDraw opAppend opLoad opNilCmp opIndex opSlice

def ftOk (t : Timetable) (r : Report) : Bool := ttOk t && repOk t r
def ftR (t : Timetable) (r : Report) : List Match := if ftOk t r then fits t r else []
theorem ftR_len (t : Timetable) (hf : t.fit) (r : Report) : (ftR t r).length ≤ 1048576 := by
  unfold ftR
  split
  · have h1 := fits_len t r
    have h2 : t.trips.length ≤ 1048576 := hf.2.1
    omega
  · simp
theorem one_repF (t : Timetable) (r : Report) : repsOk t [r] = ftOk t r := by
  unfold repsOk repsIn ftOk
  have : allI (repAt t [r]) [r] = repOk t r := by
    unfold allI
    simp [upI, repAt, repBehind]
  rw [this]
  simp
theorem ft_tt {t : Timetable} {r : Report} (h : ftOk t r = true) : ttOk t = true ∧ repOk t r = true := by
  unfold ftOk at h
  simpa only [Bool.and_eq_true] using h

theorem c20 (t : Timetable) (hf : t.fit) (r : Report) : CallOk Try.prog 20 [.imm (.agg t.enc), .imm (.agg r.enc)] { res := [.arr 79 3 ((ftR t r).map Match.enc), .imm (.bool (ftOk t r))] } := by
  refine callOk_of tyOk Try.func20 rfl rfl (le_of_ble rfl) (le_of_ble rfl) (mutOk_imm rfl _) ?_
  have h0 := c41 t hf
  have h1 := c42 t hf r
  unfold ftR
  cases hp : ftOk t r with
  | false =>
    unfold ftOk at hp
    repeat' first | refine go_seq ?_ | refine go_region ?_ | refine go_miss rfl rfl rfl ?_ | refine go_undef rfl rfl rfl ?_ | ((first | refine go_op rfl ?_ | refine go_nil ?_ | refine go_hit rfl rfl rfl ?_ | refine go_splitT rfl rfl rfl (fun h => ?_) (fun h => ?_) | refine go_splitF rfl rfl rfl (fun h => ?_) (fun h => ?_) | refine go_pickT rfl ?_ | refine go_pickF rfl ?_ | refine go_pick rfl (fun h => ?_) (fun h => ?_) | refine go_call [] (h0) rfl rfl rfl rfl ?_ | refine go_call [] (h1) rfl rfl rfl rfl ?_) <;> conv => whnf) | ((first | refine go_loadB ?_ | refine ⟨by kernel_rfl, ?_⟩ | refine go_ret ?_) <;> conv => whnf) | ((first | refine go_skip ?_) <;> conv => whnf) | refine go_true rfl ?_ | refine go_false rfl ?_ | refine go_cond rfl (fun h => ?_) (fun h => ?_) | refine ⟨rfl, ?_⟩ | ((first | refine ⟨trivial, ?_⟩ | refine ⟨le_of_ble rfl, ?_⟩) <;> conv => whnf) | fail
    all_goals first
      | exact ret_arr2 rfl rfl rfl rfl rfl rfl (by intro r hr; cases hr) rfl rfl rfl
      | (exfalso; simp_all; done)
      | trace_state
  | true =>
    have hp' := ft_tt hp
    rw [hp'.1] at h0
    rw [hp'.2] at h1
    have h2 := c43a t (tt_12 hp'.1) r
    rw [if_pos rfl]
    repeat' first | refine go_seq ?_ | refine go_region ?_ | refine go_miss rfl rfl rfl ?_ | refine go_undef rfl rfl rfl ?_ | ((first | refine go_op rfl ?_ | refine go_nil ?_ | refine go_hit rfl rfl rfl ?_ | refine go_splitT rfl rfl rfl (fun h => ?_) (fun h => ?_) | refine go_splitF rfl rfl rfl (fun h => ?_) (fun h => ?_) | refine go_pickT rfl ?_ | refine go_pickF rfl ?_ | refine go_pick rfl (fun h => ?_) (fun h => ?_) | refine go_call [] (h0) rfl rfl rfl rfl ?_ | refine go_call [] (h1) rfl rfl rfl rfl ?_ | refine go_call [] (h2) rfl rfl rfl rfl ?_) <;> conv => whnf) | ((first | refine go_loadB ?_ | refine ⟨by kernel_rfl, ?_⟩ | refine go_ret ?_) <;> conv => whnf) | ((first | refine go_skip ?_) <;> conv => whnf) | refine go_true rfl ?_ | refine go_false rfl ?_ | refine go_cond rfl (fun h => ?_) (fun h => ?_) | refine ⟨rfl, ?_⟩ | ((first | refine ⟨trivial, ?_⟩ | refine ⟨le_of_ble rfl, ?_⟩) <;> conv => whnf) | fail
    all_goals first
      | exact ret_arr2 rfl rfl rfl rfl rfl (by rw [List.drop_zero, List.take_length]) (match_gr _) rfl rfl rfl
      | (exfalso; simp at h; done)
      | trace_state
theorem c18 (t : Timetable) (hf : t.fit) (r : Report) : CallOk Try.prog 18 [.imm (.agg t.enc), .imm (.agg r.enc)] { res := [.arr 79 3 ((ftR t r).map Match.enc), .imm (.bool (ftOk t r))] } := by
  refine callOk_of tyOk Try.func18 rfl rfl (le_of_ble rfl) (le_of_ble rfl) (mutOk_imm rfl _) ?_
  have h0 : CallOk Try.prog 39 [.imm (.agg t.enc), .imm (.list ((([r].map Report.enc).drop 0).take ([r].map Report.enc).length))] { res := [.imm (.bool (ftOk t r))] } := by
    rw [List.drop_zero, List.take_length, ← one_repF]
    exact c39 t hf [r] (by simp)
  unfold ftR
  cases hp : ftOk t r with
  | false =>
    rw [hp] at h0
    repeat' first | refine go_seq ?_ | refine go_region ?_ | ((first | refine go_op rfl ?_ | refine go_nil ?_ | refine go_call [] (h0) rfl rfl rfl rfl ?_) <;> conv => whnf) | ((first | refine go_loadB ?_ | refine ⟨by kernel_rfl, ?_⟩ | refine go_ret ?_) <;> conv => whnf) | ((first | refine go_skip ?_) <;> conv => whnf) | refine go_true rfl ?_ | refine go_false rfl ?_ | refine go_cond rfl (fun h => ?_) (fun h => ?_) | refine ⟨rfl, ?_⟩ | ((first | refine ⟨trivial, ?_⟩ | refine ⟨le_of_ble rfl, ?_⟩) <;> conv => whnf) | fail
    all_goals first
      | exact ret_arr2 rfl rfl rfl rfl rfl rfl (by intro r hr; cases hr) rfl rfl rfl
      | (exfalso; simp at h; done)
      | trace_state
  | true =>
    have hp' := ft_tt hp
    rw [hp] at h0
    have h2 := c40a t (tt_12 hp'.1) r
    rw [if_pos rfl]
    repeat' first | refine go_seq ?_ | refine go_region ?_ | ((first | refine go_op rfl ?_ | refine go_nil ?_ | refine go_call [] (h0) rfl rfl rfl rfl ?_ | refine go_call [] (h2) rfl rfl rfl rfl ?_) <;> conv => whnf) | ((first | refine go_loadB ?_ | refine ⟨by kernel_rfl, ?_⟩ | refine go_ret ?_) <;> conv => whnf) | ((first | refine go_skip ?_) <;> conv => whnf) | refine go_true rfl ?_ | refine go_false rfl ?_ | refine go_cond rfl (fun h => ?_) (fun h => ?_) | refine ⟨rfl, ?_⟩ | ((first | refine ⟨trivial, ?_⟩ | refine ⟨le_of_ble rfl, ?_⟩) <;> conv => whnf) | fail
    all_goals first
      | exact ret_arr2 rfl rfl rfl rfl rfl (by rw [List.drop_zero, List.take_length]) (match_gr _) rfl rfl rfl
      | (exfalso; simp at h; done)
      | trace_state

theorem c4 (t : Timetable) (hok_t : t.ok) (r : Report) (_ : r.ok) : CallOk Try.prog 4 [.imm (.agg t.enc), .imm (.agg r.enc)] { res := [.imm (.bool true)] } := by
  refine callOk_of tyOk Try.func4 rfl rfl (le_of_ble rfl) (le_of_ble rfl) (mutOk_imm rfl _) ?_
  have hsz1 := c5 t hok_t (1048576) (by omega) (by omega)
  have hle1 := szTimetable_sz.le (1048576) t (by omega)
  by_cases h01 : 0 ≤ szTimetable 1048576 t
  case neg =>
    repeat' first | refine go_seq ?_ | refine go_region ?_ | refine go_miss rfl rfl rfl ?_ | refine go_undef rfl rfl rfl ?_ | refine go_draw drawsOk ?_ | ((first | refine go_op rfl ?_ | refine go_nil ?_ | refine go_hit rfl rfl rfl ?_ | refine go_splitT rfl rfl rfl (fun h => ?_) (fun h => ?_) | refine go_splitF rfl rfl rfl (fun h => ?_) (fun h => ?_) | refine go_storeBox rfl rfl rfl rfl rfl rfl ?_ | refine go_dop rfl ?_ | refine go_dhit rfl rfl ?_ | refine go_dmiss rfl rfl ?_ | refine go_dundef rfl rfl ?_ | refine go_dend (by kernel_rfl) ?_ | refine go_pickT rfl ?_ | refine go_pickF rfl ?_ | refine go_pick rfl (fun h => ?_) (fun h => ?_) | refine go_call [] (hsz1) rfl rfl rfl rfl ?_) <;> conv => whnf) | ((first | refine go_dsplit2 rfl (fun h => ?_) (fun h => ?_) | refine go_loadB ?_ | refine ⟨by kernel_rfl, ?_⟩ | refine go_ret ?_) <;> conv => whnf) | ((first | refine go_skip ?_) <;> conv => whnf) | refine go_true rfl ?_ | refine go_false rfl ?_ | refine go_cond rfl (fun h => ?_) (fun h => ?_) | refine ⟨rfl, ?_⟩ | ((first | refine ⟨trivial, ?_⟩ | refine ⟨le_of_ble rfl, ?_⟩) <;> conv => whnf) | fail
    all_goals first
      | exact ret_imm rfl rfl rfl rfl rfl rfl
      | (exfalso; have h' := of_decide_eq_false h; omega)
      | (exfalso; have h' := of_decide_eq_true h; omega)
      | (exfalso; rename_i hq; have h' := of_decide_eq_true hq; omega)
      | (exfalso; rename_i hq; have h' := of_decide_eq_false hq; omega)
      | (exfalso; rename_i hq _; have h' := of_decide_eq_true hq; omega)
      | (exfalso; rename_i hq _; have h' := of_decide_eq_false hq; omega)
      | trace_state
  have hf_t := szTimetable_fit (by omega) h01
  have hrl : (ftR t r).length ≤ 1048576 := ftR_len t hf_t r
  have hspec : CallOk Try.prog 18 [.imm (.agg t.enc), .imm (.agg r.enc)] { res := [.arr 79 3 ((ftR t r).map Match.enc), .imm (.bool (ftOk t r))] } := by exact c18 t hf_t r
  have himpl : CallOk Try.prog 20 [.imm (.agg t.enc), .imm (.agg r.enc)] { res := [.arr 79 3 ((ftR t r).map Match.enc), .imm (.bool (ftOk t r))] } := by exact c20 t hf_t r
  have hct1 := cntTimetable_le hf_t
  have hm1 := k14 t hf_t 1 (by omega) (by omega)
  have heqR : CallOk Try.prog 21 [.imm (.list ((((ftR t r).map Match.enc).drop 0).take ((ftR t r).map Match.enc).length)), .imm (.list ((((ftR t r).map Match.enc).drop 0).take ((ftR t r).map Match.enc).length))] { res := [.imm (.bool true)] } := by rw [match_view]; exact c21s _ hrl
  have hmR := c22 (ftR t r) 1 (by omega) (by omega) hrl
  have hhR : CallOk Try.prog 23 [.imm (.list ((((marksMatch 1 (ftR t r).length).map Match.enc).drop 0).take ((ftR t r).map Match.enc).length)), .imm (.int .i64 1)] { res := [.imm (.int .i64 (kAt 1 (3 * (ftR t r).length)))] } := by
    have := c23 1 (ftR t r).length (by omega) (by omega) hrl
    rwa [show ((((marksMatch 1 (ftR t r).length).map Match.enc).drop 0).take ((ftR t r).map Match.enc).length) = (marksMatch 1 (ftR t r).length).map Match.enc from by rw [List.drop_zero, List.take_of_length_le (by simp [marksMatch])]]
  have hqR := kAt_eq (k := 1) (by omega) (3 * (ftR t r).length) (by omega)
  repeat' first | refine go_seq ?_ | refine go_region ?_ | refine go_miss rfl rfl rfl ?_ | refine go_undef rfl rfl rfl ?_ | refine go_draw drawsOk ?_ | ((first | refine go_op rfl ?_ | refine go_nil ?_ | refine go_hit rfl rfl rfl ?_ | refine go_splitT rfl rfl rfl (fun h => ?_) (fun h => ?_) | refine go_splitF rfl rfl rfl (fun h => ?_) (fun h => ?_) | refine go_storeBox rfl rfl rfl rfl rfl rfl ?_ | refine go_dop rfl ?_ | refine go_dhit rfl rfl ?_ | refine go_dmiss rfl rfl ?_ | refine go_dundef rfl rfl ?_ | refine go_dend (by kernel_rfl) ?_ | refine go_pickT rfl ?_ | refine go_pickF rfl ?_ | refine go_pick rfl (fun h => ?_) (fun h => ?_) | refine go_call [] (hsz1) rfl rfl rfl rfl ?_ | refine go_call [] (g8 t hf_t) rfl rfl rfl rfl ?_ | refine go_call [] (c12s t hf_t) rfl rfl rfl rfl ?_ | refine go_call [] (c19 r) rfl rfl rfl rfl ?_ | refine go_call [] (hspec) rfl rfl rfl rfl ?_ | refine go_call [] (himpl) rfl rfl rfl rfl ?_ | refine go_call [] (heqR) rfl rfl rfl rfl ?_ | refine go_call [3] (hm1) rfl rfl rfl rfl ?_ | refine go_call [2, 0] hmR (argsIn_lent rfl rfl rfl) rfl rfl rfl ?_ | refine go_call [] (hhR) rfl rfl rfl rfl ?_) <;> conv => whnf) | ((first | refine go_dsplit2 rfl (fun h => ?_) (fun h => ?_) | refine go_loadB ?_ | refine ⟨by kernel_rfl, ?_⟩ | refine go_ret ?_) <;> conv => whnf) | ((first | refine go_skip ?_) <;> conv => whnf) | refine go_true rfl ?_ | refine go_false rfl ?_ | refine go_cond rfl (fun h => ?_) (fun h => ?_) | refine ⟨rfl, ?_⟩ | ((first | refine ⟨trivial, ?_⟩ | refine ⟨le_of_ble rfl, ?_⟩) <;> conv => whnf) | fail
  all_goals first
    | exact ret_imm rfl rfl rfl rfl rfl rfl
    | (exfalso; simp at h; done)
    | (exfalso; simp at h; omega)
    | (exfalso; have h' := of_decide_eq_false h; omega)
    | (exfalso; have h' := of_decide_eq_true h; omega)
    | (exfalso; rename_i hq; have h' := of_decide_eq_true hq; omega)
    | (exfalso; rename_i hq; have h' := of_decide_eq_false hq; omega)
    | (exfalso; rename_i hq _; have h' := of_decide_eq_true hq; omega)
    | (exfalso; rename_i hq _; have h' := of_decide_eq_false hq; omega)
    | trace_state
end Go.Proofs.Ytmbaalkeogckbaa

