/- The law of BoardRows, walked. -/
import Derived.Test.YtiedooadnafghaaE12
import Derived.Test.YtiedooadnafghaaE7
namespace Go.Proofs.Ytiedooadnafghaa
open Go Go.Am
set_option maxRecDepth 100000
set_option maxHeartbeats 4000000
attribute [local irreducible] amOps amC opCall opIndexAddr opPick retQ opMake opStore amDraw opAppend opLoad opNilCmp opIndex opSlice

def brOk (t : Timetable) (ds : List TripDelay) (stop now count : Int) : Bool := nbOk t ds stop now && inR count 1 10
def brF (t : Timetable) (ds : List TripDelay) (stop now count : Int) : List BoardRow := if brOk t ds stop now count then brR t ds stop now count else []
theorem brF_len (t : Timetable) (hf : t.fit) (ds : List TripDelay) (stop now count : Int) : (brF t ds stop now count).length ≤ 1048576 := by
  unfold brF
  split
  · unfold brR
    rw [List.length_map]
    have h1 := brs_len now count (sortL depLt (deps t ds stop))
    rw [sortL_len depWeak] at h1
    have h2 := deps_le t ds stop
    have h3 : t.trips.length ≤ 1048576 := hf.2.1
    omega
  · simp
theorem nb_ok {t : Timetable} {ds : List TripDelay} {stop now : Int} (h : nbOk t ds stop now = true) : ttOk t = true := by
  unfold nbOk delaysOk at h
  simp only [Bool.and_eq_true] at h
  exact h.1.1

theorem c45 (t : Timetable) (hf : t.fit) (ds : List TripDelay) (hl : ds.length ≤ 1048576) (stop now count : Int) : CallOk Try.prog 45 [.imm (.agg t.enc), .imm (.list (ds.map TripDelay.enc)), .imm (.int .i64 stop), .imm (.int .i64 now), .imm (.int .i64 count)] { res := [.arr 136 4 ((brF t ds stop now count).map BoardRow.enc), .imm (.bool (brOk t ds stop now count))] } := by
  refine callOk_of tyOk Try.func45 rfl rfl (le_of_ble rfl) (le_of_ble rfl) (mutOk_imm rfl _) ?_
  have hc0 := c90 t hf ds hl stop now
  have hc1 := c78 count 1 10
  cases hp : brOk t ds stop now count with
  | false =>
    have e1 : brF t ds stop now count = [] := by unfold brF; rw [hp]; rfl
    rw [e1]
    unfold brOk at hp
    repeat' first | refine go_seq ?_ | refine go_region ?_ | refine go_miss rfl rfl rfl ?_ | refine go_undef rfl rfl rfl ?_ | ((first | refine go_op rfl ?_ | refine go_nil ?_ | refine go_hit rfl rfl rfl ?_ | refine go_splitT rfl rfl rfl (fun h => ?_) (fun h => ?_) | refine go_splitF rfl rfl rfl (fun h => ?_) (fun h => ?_) | refine go_pickT rfl ?_ | refine go_pickF rfl ?_ | refine go_pick rfl (fun h => ?_) (fun h => ?_) | refine go_call [] (hc0) rfl rfl rfl rfl ?_ | refine go_call [] (hc1) rfl rfl rfl rfl ?_) <;> conv => whnf) | ((first | refine go_loadB ?_ | refine ⟨by kernel_rfl, ?_⟩ | refine go_ret ?_) <;> conv => whnf) | ((first | refine go_skip ?_) <;> conv => whnf) | refine go_true rfl ?_ | refine go_false rfl ?_ | refine go_cond rfl (fun h => ?_) (fun h => ?_) | refine ⟨rfl, ?_⟩ | ((first | refine ⟨trivial, ?_⟩ | refine ⟨le_of_ble rfl, ?_⟩) <;> conv => whnf) | fail
    all_goals first
      | exact ret_arr2 rfl rfl rfl rfl rfl rfl (by intro r hr; cases hr) rfl rfl rfl
      | (exfalso; simp_all; done)
      | trace_state
  | true =>
    have e1 : brF t ds stop now count = brR t ds stop now count := by unfold brF; rw [hp]; rfl
    rw [e1]
    unfold brOk at hp
    simp only [Bool.and_eq_true] at hp
    have hc2 := c96 t hf (nb_ok hp.1) ds hl stop now count
    rw [hp.1] at hc0
    rw [hp.2] at hc1
    repeat' first | refine go_seq ?_ | refine go_region ?_ | refine go_miss rfl rfl rfl ?_ | refine go_undef rfl rfl rfl ?_ | ((first | refine go_op rfl ?_ | refine go_nil ?_ | refine go_hit rfl rfl rfl ?_ | refine go_splitT rfl rfl rfl (fun h => ?_) (fun h => ?_) | refine go_splitF rfl rfl rfl (fun h => ?_) (fun h => ?_) | refine go_pickT rfl ?_ | refine go_pickF rfl ?_ | refine go_pick rfl (fun h => ?_) (fun h => ?_) | refine go_call [] (hc0) rfl rfl rfl rfl ?_ | refine go_call [] (hc1) rfl rfl rfl rfl ?_ | refine go_call [] (hc2) rfl rfl rfl rfl ?_) <;> conv => whnf) | ((first | refine go_loadB ?_ | refine ⟨by kernel_rfl, ?_⟩ | refine go_ret ?_) <;> conv => whnf) | ((first | refine go_skip ?_) <;> conv => whnf) | refine go_true rfl ?_ | refine go_false rfl ?_ | refine go_cond rfl (fun h => ?_) (fun h => ?_) | refine ⟨rfl, ?_⟩ | ((first | refine ⟨trivial, ?_⟩ | refine ⟨le_of_ble rfl, ?_⟩) <;> conv => whnf) | fail
    all_goals first
      | exact ret_arr2 rfl rfl rfl rfl rfl (by rw [List.drop_zero, List.take_length]) (boardRow_gr _) rfl rfl rfl
      | (exfalso; simp at h; done)
      | trace_state

theorem c44 (t : Timetable) (hf : t.fit) (ds : List TripDelay) (hl : ds.length ≤ 1048576) (stop now count : Int) : CallOk Try.prog 44 [.imm (.agg t.enc), .imm (.list (ds.map TripDelay.enc)), .imm (.int .i64 stop), .imm (.int .i64 now), .imm (.int .i64 count)] { res := [.arr 136 4 ((brF t ds stop now count).map BoardRow.enc), .imm (.bool (brOk t ds stop now count))] } := by
  refine callOk_of tyOk Try.func44 rfl rfl (le_of_ble rfl) (le_of_ble rfl) (mutOk_imm rfl _) ?_
  have hc0 := c87 t hf ds hl stop
  have hc1 := c88 now
  have hc3 := c72 count 1 10
  cases hp : brOk t ds stop now count with
  | false =>
    have e1 : brF t ds stop now count = [] := by unfold brF; rw [hp]; rfl
    rw [e1]
    unfold brOk nbOk at hp
    repeat' first | refine go_seq ?_ | refine go_region ?_ | refine go_miss rfl rfl rfl ?_ | refine go_undef rfl rfl rfl ?_ | ((first | refine go_op rfl ?_ | refine go_nil ?_ | refine go_hit rfl rfl rfl ?_ | refine go_splitT rfl rfl rfl (fun h => ?_) (fun h => ?_) | refine go_splitF rfl rfl rfl (fun h => ?_) (fun h => ?_) | refine go_pickT rfl ?_ | refine go_pickF rfl ?_ | refine go_pick rfl (fun h => ?_) (fun h => ?_) | refine go_call [] (hc0) rfl rfl rfl rfl ?_ | refine go_call [] (hc1) rfl rfl rfl rfl ?_ | refine go_call [] (hc3) rfl rfl rfl rfl ?_) <;> conv => whnf) | ((first | refine go_loadB ?_ | refine ⟨by kernel_rfl, ?_⟩ | refine go_ret ?_) <;> conv => whnf) | ((first | refine go_skip ?_) <;> conv => whnf) | refine go_true rfl ?_ | refine go_false rfl ?_ | refine go_cond rfl (fun h => ?_) (fun h => ?_) | refine ⟨rfl, ?_⟩ | ((first | refine ⟨trivial, ?_⟩ | refine ⟨le_of_ble rfl, ?_⟩) <;> conv => whnf) | fail
    all_goals first
      | exact ret_arr2 rfl rfl rfl rfl rfl rfl (by intro r hr; cases hr) rfl rfl rfl
      | (exfalso; simp_all; done)
      | trace_state
  | true =>
    have e1 : brF t ds stop now count = brR t ds stop now count := by unfold brF; rw [hp]; rfl
    rw [e1]
    unfold brOk at hp
    simp only [Bool.and_eq_true] at hp
    have hok := nb_ok hp.1
    have hp1 := hp.1
    unfold nbOk at hp1
    simp only [Bool.and_eq_true] at hp1
    rw [hp1.1, hp1.2.1] at hc0
    rw [hp1.2.2] at hc1
    rw [hp.2] at hc3
    have hcn := (inR_iff _ _ _).1 hp.2
    have hc2 := c94 t hf hok ds hl stop now
    have hbq := brR_eq t ds stop now count
    generalize hrs : (sA t ds stop now).map (rowEnc t) = rows at *
    have hc4 := c95 count rows.length
    have e4 : (if count < (rows.length : Int) then count else (rows.length : Int)) = ((min count.toNat rows.length : Nat) : Int) := by split <;> omega
    rw [e4] at hc4
    have htk : rows.take (min count.toNat rows.length) = (brR t ds stop now count).map BoardRow.enc := by
      rw [hbq]
      by_cases h : count.toNat ≤ rows.length
      · rw [Nat.min_eq_left h]
      · rw [Nat.min_eq_right (by omega), List.take_of_length_le (Nat.le_refl _), List.take_of_length_le (by omega)]
    have hkn : min count.toNat rows.length ≤ rows.length := Nat.min_le_right _ _
    repeat' first | refine go_seq ?_ | refine go_region ?_ | refine go_miss rfl rfl rfl ?_ | refine go_undef rfl rfl rfl ?_ | ((first | refine go_op rfl ?_ | refine go_nil ?_ | refine go_hit rfl rfl rfl ?_ | refine go_splitT rfl rfl rfl (fun h => ?_) (fun h => ?_) | refine go_splitF rfl rfl rfl (fun h => ?_) (fun h => ?_) | refine go_pickT rfl ?_ | refine go_pickF rfl ?_ | refine go_pick rfl (fun h => ?_) (fun h => ?_) | refine go_call [] (hc0) rfl rfl rfl rfl ?_ | refine go_call [] (hc1) rfl rfl rfl rfl ?_ | refine go_call [] (hc2) rfl rfl rfl rfl ?_ | refine go_call [] (hc3) rfl rfl rfl rfl ?_ | refine go_call [] (hc4) rfl rfl rfl rfl ?_ | refine go_sliceTo (k := min count.toNat rows.length) rfl rfl rfl rfl rfl rfl hkn ?_) <;> conv => whnf) | ((first | refine go_loadB ?_ | refine ⟨by kernel_rfl, ?_⟩ | refine go_ret ?_) <;> conv => whnf) | ((first | refine go_skip ?_) <;> conv => whnf) | refine go_true rfl ?_ | refine go_false rfl ?_ | refine go_cond rfl (fun h => ?_) (fun h => ?_) | refine ⟨rfl, ?_⟩ | ((first | refine ⟨trivial, ?_⟩ | refine ⟨le_of_ble rfl, ?_⟩) <;> conv => whnf) | fail
    all_goals first
      | exact ret_arr2 rfl rfl rfl rfl rfl (by rw [List.drop_zero]; exact htk) (boardRow_gr _) rfl rfl rfl
      | (exfalso; simp at h; done)
      | trace_state

theorem c9 (t : Timetable) (hok_t : t.ok) (ds : List TripDelay) (_ : ∀ v ∈ ds, v.ok) (hl_ds : ds.length ≤ 9223372036854775807) (stop : Int) (_ : i64 stop) (now : Int) (_ : i64 now) (count : Int) (_ : i64 count) : CallOk Try.prog 9 [.imm (.agg t.enc), .imm (.list (ds.map TripDelay.enc)), .imm (.int .i64 stop), .imm (.int .i64 now), .imm (.int .i64 count)] { res := [.imm (.bool true)] } := by
  refine callOk_of tyOk Try.func9 rfl rfl (le_of_ble rfl) (le_of_ble rfl) (mutOk_imm rfl _) ?_
  have hsz1 := c13 t hok_t (1048576) (by omega) (by omega)
  have hle1 := szTimetable_sz.le (1048576) t (by omega)
  by_cases h01 : 0 ≤ szTimetable 1048576 t
  case neg =>
    repeat' first | refine go_seq ?_ | refine go_region ?_ | refine go_miss rfl rfl rfl ?_ | refine go_undef rfl rfl rfl ?_ | refine go_draw drawsOk ?_ | ((first | refine go_op rfl ?_ | refine go_nil ?_ | refine go_hit rfl rfl rfl ?_ | refine go_splitT rfl rfl rfl (fun h => ?_) (fun h => ?_) | refine go_splitF rfl rfl rfl (fun h => ?_) (fun h => ?_) | refine go_storeBox rfl rfl rfl rfl rfl rfl ?_ | refine go_dop rfl ?_ | refine go_dhit rfl rfl ?_ | refine go_dmiss rfl rfl ?_ | refine go_dundef rfl rfl ?_ | refine go_dend (by kernel_rfl) ?_ | refine go_pickT rfl ?_ | refine go_pickF rfl ?_ | refine go_pick rfl (fun h => ?_) (fun h => ?_) | refine go_call [] (hsz1) rfl rfl rfl rfl ?_) <;> conv => whnf) | ((first | refine go_dsplit2 rfl (fun h => ?_) (fun h => ?_) | refine go_loadB ?_ | refine ⟨by kernel_rfl, ?_⟩ | refine go_ret ?_) <;> conv => whnf) | ((first | refine go_skip ?_) <;> conv => whnf) | refine go_true rfl ?_ | refine go_false rfl ?_ | refine go_cond rfl (fun h => ?_) (fun h => ?_) | refine ⟨rfl, ?_⟩ | ((first | refine ⟨trivial, ?_⟩ | refine ⟨le_of_ble rfl, ?_⟩) <;> conv => whnf) | fail
    all_goals first
      | exact ret_imm rfl rfl rfl rfl rfl rfl
      | (exfalso; have h' := of_decide_eq_false h; omega)
      | (exfalso; have h' := of_decide_eq_true h; omega)
      | (exfalso; rename_i hq; have h' := of_decide_eq_true hq; omega)
      | (exfalso; rename_i hq; have h' := of_decide_eq_false hq; omega)
      | (exfalso; rename_i hq _; have h' := of_decide_eq_true hq; omega)
      | (exfalso; rename_i hq _; have h' := of_decide_eq_false hq; omega)
      | trace_state
  have hf_t := szTimetable_fit (by omega) h01
  have hsz2 := c14 ds hl_ds (szTimetable 1048576 t) (by omega) (by omega)
  have hle2 := szTripDelayS_sz.le (szTimetable 1048576 t) ds (by omega)
  by_cases h02 : 0 ≤ szTripDelayS (szTimetable 1048576 t) ds
  case neg =>
    repeat' first | refine go_seq ?_ | refine go_region ?_ | refine go_miss rfl rfl rfl ?_ | refine go_undef rfl rfl rfl ?_ | refine go_draw drawsOk ?_ | ((first | refine go_op rfl ?_ | refine go_nil ?_ | refine go_hit rfl rfl rfl ?_ | refine go_splitT rfl rfl rfl (fun h => ?_) (fun h => ?_) | refine go_splitF rfl rfl rfl (fun h => ?_) (fun h => ?_) | refine go_storeBox rfl rfl rfl rfl rfl rfl ?_ | refine go_dop rfl ?_ | refine go_dhit rfl rfl ?_ | refine go_dmiss rfl rfl ?_ | refine go_dundef rfl rfl ?_ | refine go_dend (by kernel_rfl) ?_ | refine go_pickT rfl ?_ | refine go_pickF rfl ?_ | refine go_pick rfl (fun h => ?_) (fun h => ?_) | refine go_call [] (hsz1) rfl rfl rfl rfl ?_ | refine go_call [] (hsz2) rfl rfl rfl rfl ?_) <;> conv => whnf) | ((first | refine go_dsplit2 rfl (fun h => ?_) (fun h => ?_) | refine go_loadB ?_ | refine ⟨by kernel_rfl, ?_⟩ | refine go_ret ?_) <;> conv => whnf) | ((first | refine go_skip ?_) <;> conv => whnf) | refine go_true rfl ?_ | refine go_false rfl ?_ | refine go_cond rfl (fun h => ?_) (fun h => ?_) | refine ⟨rfl, ?_⟩ | ((first | refine ⟨trivial, ?_⟩ | refine ⟨le_of_ble rfl, ?_⟩) <;> conv => whnf) | fail
    all_goals first
      | exact ret_imm rfl rfl rfl rfl rfl rfl
      | (exfalso; have h' := of_decide_eq_false h; omega)
      | (exfalso; have h' := of_decide_eq_true h; omega)
      | (exfalso; rename_i hq; have h' := of_decide_eq_true hq; omega)
      | (exfalso; rename_i hq; have h' := of_decide_eq_false hq; omega)
      | (exfalso; rename_i hq _; have h' := of_decide_eq_true hq; omega)
      | (exfalso; rename_i hq _; have h' := of_decide_eq_false hq; omega)
      | trace_state
  have hlds : ds.length ≤ 1048576 := by have := less_pos (k := ds.length) h02; omega
  have hrl : (brF t ds stop now count).length ≤ 1048576 := brF_len t hf_t ds stop now count
  have hspec : CallOk Try.prog 44 [.imm (.agg t.enc), .imm (.list (((ds.map TripDelay.enc).drop 0).take (ds.map TripDelay.enc).length)), .imm (.int .i64 stop), .imm (.int .i64 now), .imm (.int .i64 count)] { res := [.arr 136 4 ((brF t ds stop now count).map BoardRow.enc), .imm (.bool (brOk t ds stop now count))] } := by rw [tripDelay_view]; exact c44 t hf_t ds hlds stop now count
  have himpl : CallOk Try.prog 45 [.imm (.agg t.enc), .imm (.list (((ds.map TripDelay.enc).drop 0).take (ds.map TripDelay.enc).length)), .imm (.int .i64 stop), .imm (.int .i64 now), .imm (.int .i64 count)] { res := [.arr 136 4 ((brF t ds stop now count).map BoardRow.enc), .imm (.bool (brOk t ds stop now count))] } := by rw [tripDelay_view]; exact c45 t hf_t ds hlds stop now count
  have hct1 := cntTimetable_le hf_t
  have hm1 := k25 t hf_t 1 (by omega) (by omega)
  have heq_ds : CallOk Try.prog 20 [.imm (.list (((ds.map TripDelay.enc).drop 0).take (ds.map TripDelay.enc).length)), .imm (.list (((ds.map TripDelay.enc).drop 0).take (ds.map TripDelay.enc).length))] { res := [.imm (.bool true)] } := by rw [tripDelay_view]; exact c20s ds hlds
  have hm2 := c30 ds (1 + (cntTimetable t : Nat)) (by omega) (by omega) hlds
  have hq2 := kAt_eq (k := (1 + (cntTimetable t : Nat))) (by omega) (2 * ds.length) (by omega)
  have heqR : CallOk Try.prog 46 [.imm (.list ((((brF t ds stop now count).map BoardRow.enc).drop 0).take ((brF t ds stop now count).map BoardRow.enc).length)), .imm (.list ((((brF t ds stop now count).map BoardRow.enc).drop 0).take ((brF t ds stop now count).map BoardRow.enc).length))] { res := [.imm (.bool true)] } := by rw [boardRow_view]; exact c46s _ hrl
  have hmR := c47 (brF t ds stop now count) 1 (by omega) (by omega) hrl
  have hhR : CallOk Try.prog 48 [.imm (.list ((((marksBoardRow 1 (brF t ds stop now count).length).map BoardRow.enc).drop 0).take ((brF t ds stop now count).map BoardRow.enc).length)), .imm (.int .i64 1)] { res := [.imm (.int .i64 (kAt 1 (4 * (brF t ds stop now count).length)))] } := by
    have := c48 1 (brF t ds stop now count).length (by omega) (by omega) hrl
    rwa [show ((((marksBoardRow 1 (brF t ds stop now count).length).map BoardRow.enc).drop 0).take ((brF t ds stop now count).map BoardRow.enc).length) = (marksBoardRow 1 (brF t ds stop now count).length).map BoardRow.enc from by rw [List.drop_zero, List.take_of_length_le (by simp [marksBoardRow])]]
  have hqR := kAt_eq (k := 1) (by omega) (4 * (brF t ds stop now count).length) (by omega)
  repeat' first | refine go_seq ?_ | refine go_region ?_ | refine go_miss rfl rfl rfl ?_ | refine go_undef rfl rfl rfl ?_ | refine go_draw drawsOk ?_ | ((first | refine go_op rfl ?_ | refine go_nil ?_ | refine go_hit rfl rfl rfl ?_ | refine go_splitT rfl rfl rfl (fun h => ?_) (fun h => ?_) | refine go_splitF rfl rfl rfl (fun h => ?_) (fun h => ?_) | refine go_storeBox rfl rfl rfl rfl rfl rfl ?_ | refine go_dop rfl ?_ | refine go_dhit rfl rfl ?_ | refine go_dmiss rfl rfl ?_ | refine go_dundef rfl rfl ?_ | refine go_dend (by kernel_rfl) ?_ | refine go_pickT rfl ?_ | refine go_pickF rfl ?_ | refine go_pick rfl (fun h => ?_) (fun h => ?_) | refine go_call [] (hsz1) rfl rfl rfl rfl ?_ | refine go_call [] (hsz2) rfl rfl rfl rfl ?_ | refine go_call [] (g16 t hf_t) rfl rfl rfl rfl ?_ | refine go_call [] (c19s t hf_t) rfl rfl rfl rfl ?_ | refine go_call [] (c17a ds hlds) rfl rfl rfl rfl ?_ | refine go_call [] (heq_ds) rfl rfl rfl rfl ?_ | refine go_call [] (hspec) rfl rfl rfl rfl ?_ | refine go_call [] (himpl) rfl rfl rfl rfl ?_ | refine go_call [] (heqR) rfl rfl rfl rfl ?_ | refine go_call [3] (hm1) rfl rfl rfl rfl ?_ | refine go_call [2, 0] hm2 (argsIn_lent rfl rfl rfl) rfl rfl rfl ?_ | refine go_call [2, 0] hmR (argsIn_lent rfl rfl rfl) rfl rfl rfl ?_ | refine go_call [] (hhR) rfl rfl rfl rfl ?_) <;> conv => whnf) | ((first | refine go_dsplit2 rfl (fun h => ?_) (fun h => ?_) | refine go_loadB ?_ | refine ⟨by kernel_rfl, ?_⟩ | refine go_ret ?_) <;> conv => whnf) | ((first | refine go_skip ?_) <;> conv => whnf) | refine go_true rfl ?_ | refine go_false rfl ?_ | refine go_cond rfl (fun h => ?_) (fun h => ?_) | refine ⟨rfl, ?_⟩ | ((first | refine ⟨trivial, ?_⟩ | refine ⟨le_of_ble rfl, ?_⟩) <;> conv => whnf) | fail
  all_goals first
    | exact ret_imm rfl rfl rfl rfl rfl rfl
    | (exfalso; simp at h; done)
    | (exfalso; simp at h; omega)
    | (exfalso; have h' := of_decide_eq_false h; omega)
    | (exfalso; have h' := of_decide_eq_true h; omega)
    | (exfalso; rename_i hq; have h' := of_decide_eq_true hq; omega)
    | (exfalso; rename_i hq; have h' := of_decide_eq_false hq; omega)
    | (exfalso; rename_i hq _; have h' := of_decide_eq_true hq; omega)
    | (exfalso; rename_i hq _; have h' := of_decide_eq_false hq; omega)
    | trace_state
end Go.Proofs.Ytiedooadnafghaa

