/- The text of a board: the reference's, and the law. -/
import Derived.Test.YtkfdhhljjeihgaaGreatDoorBT1
namespace Go.Proofs.YtkfdhhljjeihgaaGreatDoor
open Go Go.Am
set_option maxRecDepth 100000
set_option maxHeartbeats 4000000
attribute [local irreducible] amOps amC opCall opIndexAddr opPick retQ opMake opStore amDraw opAppend opLoad opNilCmp opIndex opSlice

theorem c6 (t : Timetable) (hf : t.fit) (ds : List TripDelay) (hl : ds.length ≤ 1048576) (stop now count : Int) :
    CallOk Tryz.prog 6 [.imm (.agg t.enc), .imm (.list (ds.map TripDelay.enc)), .imm (.int .i64 stop), .imm (.int .i64 now), .imm (.int .i64 count)] { res := [.imm (.str (ofL (linesT now (brF t ds stop now count)))), .imm (.bool (brOk t ds stop now count))] } := by
  refine callOk_of tyOk Tryz.func6 rfl rfl (le_of_ble rfl) (le_of_ble rfl) (mutOk_imm rfl _) ?_
  have hc0 := c14 t hf ds hl stop now count
  cases hp : brOk t ds stop now count with
  | false =>
    have e1 : brF t ds stop now count = [] := by unfold brF; rw [hp]; rfl
    rw [hp] at hc0
    rw [e1] at hc0 ⊢
    repeat' first | refine go_seq ?_ | refine go_region ?_ | ((first | refine go_op rfl ?_ | refine go_nil ?_ | refine go_call [] (hc0) rfl rfl rfl rfl ?_) <;> conv => whnf) | ((first | refine go_loadB ?_ | refine ⟨by kernel_rfl, ?_⟩ | refine go_ret ?_) <;> conv => whnf) | refine go_block ?_ | ((first | refine go_skip ?_ | refine go_exit ?_) <;> conv => whnf) | refine go_true rfl ?_ | refine go_false rfl ?_ | refine go_cond rfl (fun h => ?_) (fun h => ?_) | refine ⟨rfl, ?_⟩ | ((first | refine ⟨trivial, ?_⟩ | refine ⟨le_of_ble rfl, ?_⟩) <;> conv => whnf) | fail
    all_goals first
      | exact ret_imm2 rfl rfl rfl rfl rfl rfl rfl rfl
      | (exfalso; simp at h; done)
      | trace_state
  | true =>
    have e1 : brF t ds stop now count = brR t ds stop now count := by unfold brF; rw [hp]; rfl
    rw [hp] at hc0
    rw [e1] at hc0 ⊢
    unfold brOk at hp
    simp only [Bool.and_eq_true] at hp
    have hfit := brR_fit (count := count) hp.1
    have hlen := brR_len t hf ds stop now count
    generalize brR t ds stop now count = rs at *
    have hml : (rs.map BoardRow.enc).length = rs.length := List.length_map _
    repeat' first | refine go_seq ?_ | refine go_region ?_ | ((first | refine go_op rfl ?_ | refine go_nil ?_ | refine go_call [] (hc0) rfl rfl rfl rfl ?_) <;> conv => whnf) | ((first | refine go_loadB ?_ | refine ⟨by kernel_rfl, ?_⟩ | refine go_ret ?_) <;> conv => whnf) | refine go_block ?_ | ((first | refine go_skip ?_ | refine go_exit ?_) <;> conv => whnf) | refine go_true rfl ?_ | refine go_false rfl ?_ | refine go_cond rfl (fun h => ?_) (fun h => ?_) | refine ⟨rfl, ?_⟩ | ((first | refine ⟨trivial, ?_⟩ | refine ⟨le_of_ble rfl, ?_⟩) <;> conv => whnf) | fail
    all_goals try (exfalso; simp at h; done)
    refine go_loop (α := Nat) (fun i => i ≤ rs.length) (fun i => rs.length - i)
      (fun i => st Tryz.f6.ntmps [(3, .imm (.int .i64 now)), (12, .own 1001 0 (rs.map BoardRow.enc).length), (14, .imm (.str (ofL (linesT now (rs.take i))))), (15, .imm (.int .i64 (i : Nat)))]
        [(1001, .arr 53 4 (rs.map BoardRow.enc))] []) 0 (Nat.zero_le _) ?_ ?_
    · exact ref_st (fun y => rid 2 22 0) rfl ⟨rfl, ⟨rfl, rfl⟩, rfl, rfl, trivial⟩ ⟨rfl, trivial⟩ (by simp [nid, rid]) rfl (by simp)
    intro i hi
    cases hx : rs[i]? with
    | none =>
      have hge := le_of_at hx
      rw [List.take_of_length_le hge]
      repeat' first | refine go_seq ?_ | refine go_region ?_ | ((first | refine go_op rfl ?_ | refine go_nil ?_) <;> conv => whnf) | ((first | refine go_loadB ?_ | refine ⟨by kernel_rfl, ?_⟩ | refine go_ret ?_) <;> conv => whnf) | refine go_block ?_ | ((first | refine go_skip ?_ | refine go_exit ?_) <;> conv => whnf) | refine go_true rfl ?_ | refine go_false rfl ?_ | refine go_cond rfl (fun h => ?_) (fun h => ?_) | refine ⟨rfl, ?_⟩ | ((first | refine ⟨trivial, ?_⟩ | refine ⟨le_of_ble rfl, ?_⟩) <;> conv => whnf) | fail
      all_goals first
        | exact ret_imm2 rfl rfl rfl rfl rfl rfl rfl rfl
        | (exfalso; have h' := of_decide_eq_false h; omega)
        | (exfalso; have h' := of_decide_eq_true h; omega)
        | (exfalso; rename_i hq; have h' := of_decide_eq_true hq; omega)
        | (exfalso; rename_i hq; have h' := of_decide_eq_false hq; omega)
        | (exfalso; rename_i hq _; have h' := of_decide_eq_true hq; omega)
        | (exfalso; rename_i hq _; have h' := of_decide_eq_false hq; omega)
        | trace_state
    | some r =>
      have hlt := lt_of_at hx
      have hr := row_at BoardRow.enc hx
      have hrf := hfit r (List.mem_of_getElem? hx)
      have hc2 := c15 r now hrf
      have hrl := rowT_len hrf
      have hll := linesT_len (now := now) (rs := rs.take i) fun r hr => hfit r (List.mem_of_mem_take hr)
      have htl : (rs.take i).length ≤ 1048576 := by rw [List.length_take]; omega
      have hs1 : (ofL (linesT now (rs.take i))).size + (ofL (rowT r now)).size ≤ 4611686018427387904 := by rw [ofL_size, ofL_size]; omega
      have hs2 : (ofL (linesT now (rs.take i)) ++ ofL (rowT r now)).size + (ofL [10]).size ≤ 4611686018427387904 := by rw [ByteArray.size_append, ofL_size, ofL_size, ofL_size]; simp only [List.length_cons, List.length_nil]; omega
      have hnx : ofL (linesT now (rs.take i)) ++ ofL (rowT r now) ++ ofL [10] = ofL (linesT now (rs.take (i + 1))) := by rw [linesT_next hx, ofL_app, ofL_app, List.append_assoc]
      repeat' first | refine go_seq ?_ | refine go_region ?_ | ((first | refine go_op rfl ?_ | refine go_nil ?_ | refine go_call [] (hc2) rfl rfl rfl rfl ?_ | refine go_idxOwn rfl rfl rfl rfl rfl rfl (by omega) ?_ | refine go_loadEl rfl rfl rfl hr ?_ | refine ⟨hs1, ?_⟩ | refine ⟨hs2, ?_⟩) <;> conv => whnf) | ((first | refine go_loadB ?_ | refine ⟨by kernel_rfl, ?_⟩ | refine go_ret ?_) <;> conv => whnf) | refine go_block ?_ | ((first | refine go_skip ?_ | refine go_exit ?_) <;> conv => whnf) | refine go_true rfl ?_ | refine go_false rfl ?_ | refine go_cond rfl (fun h => ?_) (fun h => ?_) | refine ⟨rfl, ?_⟩ | ((first | refine ⟨trivial, ?_⟩ | refine ⟨le_of_ble rfl, ?_⟩) <;> conv => whnf) | fail
      all_goals first
        | (refine go_next (i + 1) (by omega) (by omega) (ref_st id rfl ⟨rfl, ⟨rfl, rfl⟩, ?_, next_i (by omega), trivial⟩ ⟨rfl, trivial⟩ (by simp) rfl (by simp))
           rw [← hnx]
           rfl)
        | (exfalso; have h' := of_decide_eq_false h; omega)
        | (exfalso; have h' := of_decide_eq_true h; omega)
        | (exfalso; rename_i hq; have h' := of_decide_eq_true hq; omega)
        | (exfalso; rename_i hq; have h' := of_decide_eq_false hq; omega)
        | (exfalso; rename_i hq _; have h' := of_decide_eq_true hq; omega)
        | (exfalso; rename_i hq _; have h' := of_decide_eq_false hq; omega)
        | trace_state

theorem c3 (t : Timetable) (hok : t.ok) (ds : List TripDelay) (_ : ∀ v ∈ ds, v.ok) (hdl : ds.length ≤ 9223372036854775807) (stop : Int) (_ : i64 stop) (now : Int) (_ : i64 now) (count : Int) (_ : i64 count) :
    CallOk Tryz.prog 3 [.imm (.agg t.enc), .imm (.list (ds.map TripDelay.enc)), .imm (.int .i64 stop), .imm (.int .i64 now), .imm (.int .i64 count)] { res := [.imm (.bool true)] } := by
  refine callOk_of tyOk Tryz.func3 rfl rfl (le_of_ble rfl) (le_of_ble rfl) (mutOk_imm rfl _) ?_
  have hsz := c4 t hok 1048576 (by omega) (by omega)
  have hle := szTimetable_sz.le 1048576 t (by omega)
  by_cases h0 : 0 ≤ szTimetable 1048576 t
  case neg =>
    repeat' first | refine go_seq ?_ | refine go_region ?_ | refine go_miss rfl rfl rfl ?_ | refine go_undef rfl rfl rfl ?_ | refine go_draw drawsOk ?_ | ((first | refine go_op rfl ?_ | refine go_nil ?_ | refine go_hit rfl rfl rfl ?_ | refine go_splitT rfl rfl rfl (fun h => ?_) (fun h => ?_) | refine go_splitF rfl rfl rfl (fun h => ?_) (fun h => ?_) | refine go_storeBox rfl rfl rfl rfl rfl rfl ?_ | refine go_dop rfl ?_ | refine go_dhit rfl rfl ?_ | refine go_dmiss rfl rfl ?_ | refine go_dundef rfl rfl ?_ | refine go_dend (by kernel_rfl) ?_ | refine go_pickT rfl ?_ | refine go_pickF rfl ?_ | refine go_pick rfl (fun h => ?_) (fun h => ?_) | refine go_call [] (hsz) rfl rfl rfl rfl ?_) <;> conv => whnf) | ((first | refine go_dsplit2 rfl (fun h => ?_) (fun h => ?_) | refine go_loadB ?_ | refine ⟨by kernel_rfl, ?_⟩ | refine go_ret ?_) <;> conv => whnf) | ((first | refine go_skip ?_) <;> conv => whnf) | refine go_true rfl ?_ | refine go_false rfl ?_ | refine go_cond rfl (fun h => ?_) (fun h => ?_) | refine ⟨rfl, ?_⟩ | ((first | refine ⟨trivial, ?_⟩ | refine ⟨le_of_ble rfl, ?_⟩) <;> conv => whnf) | fail
    all_goals first
      | exact ret_imm rfl rfl rfl rfl rfl rfl
      | (exfalso; have h' := of_decide_eq_false h; omega)
      | (exfalso; have h' := of_decide_eq_true h; omega)
      | (exfalso; rename_i hq; have h' := of_decide_eq_true hq; omega)
      | (exfalso; rename_i hq; have h' := of_decide_eq_false hq; omega)
      | (exfalso; rename_i hq _; have h' := of_decide_eq_true hq; omega)
      | (exfalso; rename_i hq _; have h' := of_decide_eq_false hq; omega)
      | trace_state
  have hf := szTimetable_fit (by omega) h0
  have hsz2 := c5 ds hdl (szTimetable 1048576 t) h0 hle
  by_cases h1 : 0 ≤ szTripDelayS (szTimetable 1048576 t) ds
  case neg =>
    repeat' first | refine go_seq ?_ | refine go_region ?_ | refine go_miss rfl rfl rfl ?_ | refine go_undef rfl rfl rfl ?_ | refine go_draw drawsOk ?_ | ((first | refine go_op rfl ?_ | refine go_nil ?_ | refine go_hit rfl rfl rfl ?_ | refine go_splitT rfl rfl rfl (fun h => ?_) (fun h => ?_) | refine go_splitF rfl rfl rfl (fun h => ?_) (fun h => ?_) | refine go_storeBox rfl rfl rfl rfl rfl rfl ?_ | refine go_dop rfl ?_ | refine go_dhit rfl rfl ?_ | refine go_dmiss rfl rfl ?_ | refine go_dundef rfl rfl ?_ | refine go_dend (by kernel_rfl) ?_ | refine go_pickT rfl ?_ | refine go_pickF rfl ?_ | refine go_pick rfl (fun h => ?_) (fun h => ?_) | refine go_call [] (hsz) rfl rfl rfl rfl ?_ | refine go_call [] (hsz2) rfl rfl rfl rfl ?_) <;> conv => whnf) | ((first | refine go_dsplit2 rfl (fun h => ?_) (fun h => ?_) | refine go_loadB ?_ | refine ⟨by kernel_rfl, ?_⟩ | refine go_ret ?_) <;> conv => whnf) | ((first | refine go_skip ?_) <;> conv => whnf) | refine go_true rfl ?_ | refine go_false rfl ?_ | refine go_cond rfl (fun h => ?_) (fun h => ?_) | refine ⟨rfl, ?_⟩ | ((first | refine ⟨trivial, ?_⟩ | refine ⟨le_of_ble rfl, ?_⟩) <;> conv => whnf) | fail
    all_goals first
      | exact ret_imm rfl rfl rfl rfl rfl rfl
      | (exfalso; have h' := of_decide_eq_false h; omega)
      | (exfalso; have h' := of_decide_eq_true h; omega)
      | (exfalso; rename_i hq; have h' := of_decide_eq_true hq; omega)
      | (exfalso; rename_i hq; have h' := of_decide_eq_false hq; omega)
      | (exfalso; rename_i hq _; have h' := of_decide_eq_true hq; omega)
      | (exfalso; rename_i hq _; have h' := of_decide_eq_false hq; omega)
      | trace_state
  have hl : ds.length ≤ 1048576 := by have := less_pos (k := ds.length) h1; omega
  have t1 := c7 t hf
  have t2 := c8 ds hl
  have s1 := c6 t hf ds hl stop now count
  have s2 := c9 t hf ds hl stop now count
  have e1 := c10s t hf
  have e2 := c11s ds hl
  repeat' first | refine go_seq ?_ | refine go_region ?_ | refine go_miss rfl rfl rfl ?_ | refine go_undef rfl rfl rfl ?_ | refine go_draw drawsOk ?_ | ((first | refine go_op rfl ?_ | refine go_nil ?_ | refine go_hit rfl rfl rfl ?_ | refine go_splitT rfl rfl rfl (fun h => ?_) (fun h => ?_) | refine go_splitF rfl rfl rfl (fun h => ?_) (fun h => ?_) | refine go_storeBox rfl rfl rfl rfl rfl rfl ?_ | refine go_dop rfl ?_ | refine go_dhit rfl rfl ?_ | refine go_dmiss rfl rfl ?_ | refine go_dundef rfl rfl ?_ | refine go_dend (by kernel_rfl) ?_ | refine go_pickT rfl ?_ | refine go_pickF rfl ?_ | refine go_pick rfl (fun h => ?_) (fun h => ?_) | refine go_call [] (hsz) rfl rfl rfl rfl ?_ | refine go_call [] (hsz2) rfl rfl rfl rfl ?_ | refine go_call [] (t1) rfl rfl rfl rfl ?_ | refine go_call [] (t2) rfl rfl rfl rfl ?_ | refine go_call [] (s1) rfl rfl rfl rfl ?_ | refine go_call [] (s2) rfl rfl rfl rfl ?_ | refine go_call [] (e1) rfl rfl rfl rfl ?_ | refine go_call [] (e2) rfl rfl rfl rfl ?_) <;> conv => whnf) | ((first | refine go_dsplit2 rfl (fun h => ?_) (fun h => ?_) | refine go_loadB ?_ | refine ⟨by kernel_rfl, ?_⟩ | refine go_ret ?_) <;> conv => whnf) | ((first | refine go_skip ?_) <;> conv => whnf) | refine go_true rfl ?_ | refine go_false rfl ?_ | refine go_cond rfl (fun h => ?_) (fun h => ?_) | refine ⟨rfl, ?_⟩ | ((first | refine ⟨trivial, ?_⟩ | refine ⟨le_of_ble rfl, ?_⟩) <;> conv => whnf) | fail
  all_goals first
    | exact ret_imm rfl rfl rfl rfl rfl rfl
    | (exfalso; simp at h; done)
    | (exfalso; simp [str_self] at h; done)
    | (exfalso; have h' := of_decide_eq_false h; omega)
    | (exfalso; have h' := of_decide_eq_true h; omega)
    | (exfalso; rename_i hq; have h' := of_decide_eq_true hq; omega)
    | (exfalso; rename_i hq; have h' := of_decide_eq_false hq; omega)
    | (exfalso; rename_i hq _; have h' := of_decide_eq_true hq; omega)
    | (exfalso; rename_i hq _; have h' := of_decide_eq_false hq; omega)
    | trace_state
end Go.Proofs.YtkfdhhljjeihgaaGreatDoor

