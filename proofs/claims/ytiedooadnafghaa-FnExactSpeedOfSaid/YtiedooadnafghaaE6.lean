/- The walks of the speed of a vehicle, and the law of SpeedOf, walked. -/
import Derived.Test.YtiedooadnafghaaE1
import Derived.Test.YtiedooadnafghaaR1
namespace Go.Proofs.Ytiedooadnafghaa
open Go Go.Am
set_option maxRecDepth 100000
set_option maxHeartbeats 4000000
attribute [local irreducible] amOps amC opCall opIndexAddr opPick retQ opMake opStore amDraw opAppend opLoad opNilCmp opIndex opSlice

def pVeh (v : Int) (r : Report) : Bool := decide (r.vehicle = v)
def soOwn (rs : List Report) (v : Int) : List Report := rs.filter (pVeh v)
def rep0 : Report := ⟨0, 0, 0, 0⟩
def soAt (own : List Report) (i : Nat) (r : Report) : Bool := decide (i = 0) || (decide (r.line = (own.getD 0 rep0).line) && decide ((own.getD (i - 1) rep0).done ≤ r.done))
def soOk (t : Timetable) (rs : List Report) (v : Int) : Bool := repsOk t rs && (decide (2 ≤ (soOwn rs v).length) && allI (soAt (soOwn rs v)) (soOwn rs v))
def soLast (own : List Report) : Report := own.getD (own.length - 1) rep0
def soA (t : Timetable) (rs : List Report) (v : Int) : Int := if soOk t rs v then IntKind.i64.wrap ((soLast (soOwn rs v)).done - ((soOwn rs v).getD 0 rep0).done) else 0
def soB (t : Timetable) (rs : List Report) (v : Int) : Int := if soOk t rs v then IntKind.i64.wrap ((soLast (soOwn rs v)).time - ((soOwn rs v).getD 0 rep0).time) else 0
theorem own_row {own : List Report} {i : Nat} (h : i < own.length) : (own.map Report.enc)[i]? = some (own.getD i rep0).enc := by
  simp [List.getD_eq_getElem?_getD, h]
theorem soOwn_len (rs : List Report) (v : Int) : (soOwn rs v).length ≤ rs.length := List.length_filter_le _ _

theorem c58 (t : Timetable) (hf : t.fit) (rs : List Report) (hl : rs.length ≤ 1048576) (v : Int) : CallOk Try.prog 58 [.imm (.agg t.enc), .imm (.list (rs.map Report.enc)), .imm (.int .i64 v)] { res := [.imm (.int .i64 (soA t rs v)), .imm (.int .i64 (soB t rs v)), .imm (.bool (soOk t rs v))] } := by
  refine callOk_of tyOk Try.func58 rfl rfl (le_of_ble rfl) (le_of_ble rfl) (mutOk_imm rfl _) ?_
  have hc0 := c55 t hf rs hl
  have hlm : (rs.map Report.enc).length = rs.length := List.length_map _
  have hom : ((soOwn rs v).map Report.enc).length = (soOwn rs v).length := List.length_map _
  have hol := soOwn_len rs v
  cases hp : repsOk t rs with
  | false =>
    have hko : soOk t rs v = false := by unfold soOk; rw [hp]; rfl
    have hka : soA t rs v = 0 := by unfold soA; rw [hko]; rfl
    have hkb : soB t rs v = 0 := by unfold soB; rw [hko]; rfl
    rw [hko, hka, hkb]
    rw [hp] at hc0
    repeat' first | refine go_seq ?_ | refine go_region ?_ | refine go_miss rfl rfl rfl ?_ | refine go_undef rfl rfl rfl ?_ | refine go_draw drawsOk ?_ | ((first | refine go_op rfl ?_ | refine go_nil ?_ | refine go_hit rfl rfl rfl ?_ | refine go_splitT rfl rfl rfl (fun h => ?_) (fun h => ?_) | refine go_splitF rfl rfl rfl (fun h => ?_) (fun h => ?_) | refine go_storeBox rfl rfl rfl rfl rfl rfl ?_ | refine go_dop rfl ?_ | refine go_dhit rfl rfl ?_ | refine go_dmiss rfl rfl ?_ | refine go_dundef rfl rfl ?_ | refine go_dend (by kernel_rfl) ?_ | refine go_pickT rfl ?_ | refine go_pickF rfl ?_ | refine go_pick rfl (fun h => ?_) (fun h => ?_) | refine go_call [] (hc0) rfl rfl rfl rfl ?_) <;> conv => whnf) | ((first | refine go_dsplit2 rfl (fun h => ?_) (fun h => ?_) | refine go_loadB ?_ | refine ⟨by kernel_rfl, ?_⟩ | refine go_ret ?_) <;> conv => whnf) | refine go_block ?_ | ((first | refine go_skip ?_ | refine go_exit ?_) <;> conv => whnf) | refine go_true rfl ?_ | refine go_false rfl ?_ | refine go_cond rfl (fun h => ?_) (fun h => ?_) | refine ⟨rfl, ?_⟩ | ((first | refine ⟨trivial, ?_⟩ | refine ⟨le_of_ble rfl, ?_⟩) <;> conv => whnf) | fail
    all_goals exact ret_imm3 rfl rfl rfl rfl rfl rfl rfl rfl rfl rfl
  | true =>
    rw [hp] at hc0
    repeat' first | refine go_seq ?_ | refine go_region ?_ | refine go_miss rfl rfl rfl ?_ | refine go_undef rfl rfl rfl ?_ | refine go_draw drawsOk ?_ | ((first | refine go_op rfl ?_ | refine go_nil ?_ | refine go_hit rfl rfl rfl ?_ | refine go_splitT rfl rfl rfl (fun h => ?_) (fun h => ?_) | refine go_splitF rfl rfl rfl (fun h => ?_) (fun h => ?_) | refine go_storeBox rfl rfl rfl rfl rfl rfl ?_ | refine go_dop rfl ?_ | refine go_dhit rfl rfl ?_ | refine go_dmiss rfl rfl ?_ | refine go_dundef rfl rfl ?_ | refine go_dend (by kernel_rfl) ?_ | refine go_pickT rfl ?_ | refine go_pickF rfl ?_ | refine go_pick rfl (fun h => ?_) (fun h => ?_) | refine go_call [] (hc0) rfl rfl rfl rfl ?_) <;> conv => whnf) | ((first | refine go_dsplit2 rfl (fun h => ?_) (fun h => ?_) | refine go_loadB ?_ | refine ⟨by kernel_rfl, ?_⟩ | refine go_ret ?_) <;> conv => whnf) | refine go_block ?_ | ((first | refine go_skip ?_ | refine go_exit ?_) <;> conv => whnf) | refine go_true rfl ?_ | refine go_false rfl ?_ | refine go_cond rfl (fun h => ?_) (fun h => ?_) | refine ⟨rfl, ?_⟩ | ((first | refine ⟨trivial, ?_⟩ | refine ⟨le_of_ble rfl, ?_⟩) <;> conv => whnf) | fail
    refine go_loop (α := Nat) (fun i => i ≤ rs.length) (fun i => rs.length - i)
      (fun i => st Try.f58.ntmps [(2, .imm (.int .i64 v)), (9, .own 1000 0 (((rs.take i).filter (pVeh v)).map Report.enc).length), (18, .imm (.list (rs.map Report.enc))), (19, .imm (.int .i64 (rs.map Report.enc).length)), (20, .imm (.int .i64 (i : Nat)))]
        [(1000, .arr 82 4 (((rs.take i).filter (pVeh v)).map Report.enc))] []) 0 (Nat.zero_le _) ?_ ?_
    · exact ref_st (fun _ => nid 3 9) rfl ⟨rfl, ⟨rfl, rfl⟩, rfl, rfl, rfl, trivial⟩ ⟨rfl, trivial⟩ (by simp) rfl (by simp)
    intro i hi
    cases hx : rs[i]? with
    | some r =>
      have hlt := lt_of_at hx
      have hr := row_at Report.enc hx
      have hfl : ((rs.take i).filter (pVeh v)).length ≤ rs.length := Nat.le_trans (List.length_filter_le _ _) (by rw [List.length_take]; omega)
      have hb : (((rs.take i).filter (pVeh v)).map Report.enc).length + 1 ≤ 1073741824 := by rw [List.length_map]; omega
      repeat' first | refine go_seq ?_ | refine go_region ?_ | refine go_miss rfl rfl rfl ?_ | refine go_undef rfl rfl rfl ?_ | refine go_draw drawsOk ?_ | ((first | refine go_op rfl ?_ | refine go_nil ?_ | refine go_hit rfl rfl rfl ?_ | refine go_splitT rfl rfl rfl (fun h => ?_) (fun h => ?_) | refine go_splitF rfl rfl rfl (fun h => ?_) (fun h => ?_) | refine go_storeBox rfl rfl rfl rfl rfl rfl ?_ | refine go_dop rfl ?_ | refine go_dhit rfl rfl ?_ | refine go_dmiss rfl rfl ?_ | refine go_dundef rfl rfl ?_ | refine go_dend (by kernel_rfl) ?_ | refine go_pickT rfl ?_ | refine go_pickF rfl ?_ | refine go_pick rfl (fun h => ?_) (fun h => ?_) | refine go_idx rfl rfl rfl rfl (by omega) hr rfl ?_ | refine go_append (rows2 := [r].map Report.enc) rfl rfl rfl rfl rfl rfl rfl rfl rfl rfl rfl rfl (report_one [r]) rfl rfl rfl hb ?_) <;> conv => whnf) | ((first | refine go_dsplit2 rfl (fun h => ?_) (fun h => ?_) | refine go_loadB ?_ | refine ⟨by kernel_rfl, ?_⟩ | refine go_ret ?_) <;> conv => whnf) | refine go_block ?_ | ((first | refine go_skip ?_ | refine go_exit ?_) <;> conv => whnf) | refine go_true rfl ?_ | refine go_false rfl ?_ | refine go_cond rfl (fun h => ?_) (fun h => ?_) | refine ⟨rfl, ?_⟩ | ((first | refine ⟨trivial, ?_⟩ | refine ⟨le_of_ble rfl, ?_⟩) <;> conv => whnf) | fail
      all_goals try first
        | (exfalso; have h' := of_decide_eq_false h; omega)
        | (exfalso; have h' := of_decide_eq_true h; omega)
        | (exfalso; rename_i hq; have h' := of_decide_eq_true hq; omega)
        | (exfalso; rename_i hq; have h' := of_decide_eq_false hq; omega)
        | (exfalso; rename_i hq _; have h' := of_decide_eq_true hq; omega)
        | (exfalso; rename_i hq _; have h' := of_decide_eq_false hq; omega)
      · refine go_next (i + 1) (by omega) (by omega) (ref_st (fun _ => nid 5 31) rfl ⟨rfl, ⟨?_, rfl⟩, rfl, rfl, next_i (by omega), trivial⟩ ⟨?_, trivial⟩ (by simp) rfl (by simp))
        · show AV.own _ _ _ = AV.own _ _ _
          rw [filter_next hx, if_pos (show pVeh v r = true from h), List.map_append, List.length_append]; try rfl
        · show some _ = some _
          rw [filter_next hx, if_pos (show pVeh v r = true from h), List.map_append]; try rfl
      · refine go_next (i + 1) (by omega) (by omega) (ref_st id rfl ⟨rfl, ⟨?_, rfl⟩, rfl, rfl, next_i (by omega), trivial⟩ ⟨?_, trivial⟩ (by simp) rfl (by simp))
        · show AV.own _ _ _ = AV.own _ _ _
          rw [filter_next hx, if_neg (by unfold pVeh; rw [h]; simp)]; try rfl
        · show some _ = some _
          rw [filter_next hx, if_neg (by unfold pVeh; rw [h]; simp)]; try rfl
    | none =>
      have hge := le_of_at hx
      rw [show (rs.take i).filter (pVeh v) = soOwn rs v by rw [List.take_of_length_le hge]; rfl]
      by_cases h2 : (soOwn rs v).length < 2
      · have hko : soOk t rs v = false := by unfold soOk; rw [decide_eq_false (by omega)]; simp
        have hka : soA t rs v = 0 := by unfold soA; rw [hko]; rfl
        have hkb : soB t rs v = 0 := by unfold soB; rw [hko]; rfl
        rw [hko, hka, hkb]
        repeat' first | refine go_seq ?_ | refine go_region ?_ | refine go_miss rfl rfl rfl ?_ | refine go_undef rfl rfl rfl ?_ | refine go_draw drawsOk ?_ | ((first | refine go_op rfl ?_ | refine go_nil ?_ | refine go_hit rfl rfl rfl ?_ | refine go_splitT rfl rfl rfl (fun h => ?_) (fun h => ?_) | refine go_splitF rfl rfl rfl (fun h => ?_) (fun h => ?_) | refine go_storeBox rfl rfl rfl rfl rfl rfl ?_ | refine go_dop rfl ?_ | refine go_dhit rfl rfl ?_ | refine go_dmiss rfl rfl ?_ | refine go_dundef rfl rfl ?_ | refine go_dend (by kernel_rfl) ?_ | refine go_pickT rfl ?_ | refine go_pickF rfl ?_ | refine go_pick rfl (fun h => ?_) (fun h => ?_)) <;> conv => whnf) | ((first | refine go_dsplit2 rfl (fun h => ?_) (fun h => ?_) | refine go_loadB ?_ | refine ⟨by kernel_rfl, ?_⟩ | refine go_ret ?_) <;> conv => whnf) | refine go_block ?_ | ((first | refine go_skip ?_ | refine go_exit ?_) <;> conv => whnf) | refine go_true rfl ?_ | refine go_false rfl ?_ | refine go_cond rfl (fun h => ?_) (fun h => ?_) | refine ⟨rfl, ?_⟩ | ((first | refine ⟨trivial, ?_⟩ | refine ⟨le_of_ble rfl, ?_⟩) <;> conv => whnf) | fail
        all_goals first
          | exact ret_imm3 rfl rfl rfl rfl rfl rfl rfl rfl rfl rfl
          | (exfalso; have h' := of_decide_eq_false h; omega)
          | (exfalso; have h' := of_decide_eq_true h; omega)
          | (exfalso; rename_i hq; have h' := of_decide_eq_true hq; omega)
          | (exfalso; rename_i hq; have h' := of_decide_eq_false hq; omega)
          | (exfalso; rename_i hq _; have h' := of_decide_eq_true hq; omega)
          | (exfalso; rename_i hq _; have h' := of_decide_eq_false hq; omega)
          | trace_state
      · skip
        repeat' first | refine go_seq ?_ | refine go_region ?_ | refine go_miss rfl rfl rfl ?_ | refine go_undef rfl rfl rfl ?_ | refine go_draw drawsOk ?_ | ((first | refine go_op rfl ?_ | refine go_nil ?_ | refine go_hit rfl rfl rfl ?_ | refine go_splitT rfl rfl rfl (fun h => ?_) (fun h => ?_) | refine go_splitF rfl rfl rfl (fun h => ?_) (fun h => ?_) | refine go_storeBox rfl rfl rfl rfl rfl rfl ?_ | refine go_dop rfl ?_ | refine go_dhit rfl rfl ?_ | refine go_dmiss rfl rfl ?_ | refine go_dundef rfl rfl ?_ | refine go_dend (by kernel_rfl) ?_ | refine go_pickT rfl ?_ | refine go_pickF rfl ?_ | refine go_pick rfl (fun h => ?_) (fun h => ?_)) <;> conv => whnf) | ((first | refine go_dsplit2 rfl (fun h => ?_) (fun h => ?_) | refine go_loadB ?_ | refine ⟨by kernel_rfl, ?_⟩ | refine go_ret ?_) <;> conv => whnf) | refine go_block ?_ | ((first | refine go_skip ?_ | refine go_exit ?_) <;> conv => whnf) | refine go_true rfl ?_ | refine go_false rfl ?_ | refine go_cond rfl (fun h => ?_) (fun h => ?_) | refine ⟨rfl, ?_⟩ | ((first | refine ⟨trivial, ?_⟩ | refine ⟨le_of_ble rfl, ?_⟩) <;> conv => whnf) | fail
        all_goals try first
          | (exfalso; have h' := of_decide_eq_false h; omega)
          | (exfalso; have h' := of_decide_eq_true h; omega)
          | (exfalso; rename_i hq; have h' := of_decide_eq_true hq; omega)
          | (exfalso; rename_i hq; have h' := of_decide_eq_false hq; omega)
          | (exfalso; rename_i hq _; have h' := of_decide_eq_true hq; omega)
          | (exfalso; rename_i hq _; have h' := of_decide_eq_false hq; omega)
        refine go_loop (α := Nat) (fun j => 1 ≤ j ∧ j ≤ (soOwn rs v).length ∧ upI (soAt (soOwn rs v)) (soOwn rs v) j = true) (fun j => (soOwn rs v).length - j)
          (fun j => st Try.f58.ntmps [(9, .own 1000 0 ((soOwn rs v).map Report.enc).length), (12, .imm (.int .i64 (j : Nat)))] [(1000, .arr 82 4 ((soOwn rs v).map Report.enc))] []) 1 ⟨Nat.le_refl _, by omega, ?_⟩ ?_ ?_
        · obtain ⟨r0, hr0⟩ : ∃ r0, (soOwn rs v)[0]? = some r0 := ⟨_, List.getElem?_eq_getElem (by omega)⟩
          simp [upI, hr0, soAt]
        · exact ref_st id rfl ⟨⟨rfl, rfl⟩, rfl, trivial⟩ ⟨rfl, trivial⟩ (by simp) rfl (by simp)
        rintro j ⟨hj1, hj2, hup⟩
        have h0r := own_row (own := soOwn rs v) (i := 0) (by omega)
        cases hy : (soOwn rs v)[j]? with
        | some r =>
          have hlt := lt_of_at hy
          have hjr : ((soOwn rs v).map Report.enc)[j]? = some r.enc := by rw [List.getElem?_map, hy]; rfl
          have hpr := own_row (own := soOwn rs v) (i := j - 1) (by omega)
          have ep : IntKind.i64.wrap (((j : Nat) : Int) - 1) = ((j - 1 : Nat) : Int) := by rw [wrap_small (by omega) (by omega)]; omega
          cases ha : soAt (soOwn rs v) j r with
          | true =>
            have hup' := upI_next hy hup ha
            unfold soAt at ha
            rw [decide_eq_false (by omega), Bool.false_or, Bool.and_eq_true, decide_eq_true_eq, decide_eq_true_eq] at ha
            obtain ⟨ha1, ha2⟩ := ha
            repeat' first | refine go_seq ?_ | refine go_region ?_ | refine go_miss rfl rfl rfl ?_ | refine go_undef rfl rfl rfl ?_ | refine go_draw drawsOk ?_ | ((first | refine go_op rfl ?_ | refine go_nil ?_ | refine go_hit rfl rfl rfl ?_ | refine go_splitT rfl rfl rfl (fun h => ?_) (fun h => ?_) | refine go_splitF rfl rfl rfl (fun h => ?_) (fun h => ?_) | refine go_storeBox rfl rfl rfl rfl rfl rfl ?_ | refine go_dop rfl ?_ | refine go_dhit rfl rfl ?_ | refine go_dmiss rfl rfl ?_ | refine go_dundef rfl rfl ?_ | refine go_dend (by kernel_rfl) ?_ | refine go_pickT rfl ?_ | refine go_pickF rfl ?_ | refine go_pick rfl (fun h => ?_) (fun h => ?_) | refine go_idxOwnI (j := 0) rfl rfl rfl rfl rfl rfl rfl (by omega) ?_ | refine go_idxOwnI (j := j) rfl rfl rfl rfl rfl rfl rfl (by omega) ?_ | refine go_idxOwnI (j := j - 1) rfl rfl ep rfl rfl rfl rfl (by omega) ?_ | refine go_loadEl rfl rfl rfl h0r ?_ | refine go_loadEl rfl rfl rfl hjr ?_ | refine go_loadEl rfl rfl rfl hpr ?_) <;> conv => whnf) | ((first | refine go_dsplit2 rfl (fun h => ?_) (fun h => ?_) | refine go_loadB ?_ | refine ⟨by kernel_rfl, ?_⟩ | refine go_ret ?_) <;> conv => whnf) | refine go_block ?_ | ((first | refine go_skip ?_ | refine go_exit ?_) <;> conv => whnf) | refine go_true rfl ?_ | refine go_false rfl ?_ | refine go_cond rfl (fun h => ?_) (fun h => ?_) | refine ⟨rfl, ?_⟩ | ((first | refine ⟨trivial, ?_⟩ | refine ⟨le_of_ble rfl, ?_⟩) <;> conv => whnf) | fail
            all_goals first
              | exact go_next (j + 1) ⟨by omega, by omega, hup'⟩ (by omega) (ref_st id rfl ⟨⟨rfl, rfl⟩, next_i (by omega), trivial⟩ ⟨rfl, trivial⟩ (by simp) rfl (by simp))
              | (exfalso; have h' := of_decide_eq_false h; omega)
              | (exfalso; have h' := of_decide_eq_true h; omega)
              | (exfalso; rename_i hq; have h' := of_decide_eq_true hq; omega)
              | (exfalso; rename_i hq; have h' := of_decide_eq_false hq; omega)
              | (exfalso; rename_i hq _; have h' := of_decide_eq_true hq; omega)
              | (exfalso; rename_i hq _; have h' := of_decide_eq_false hq; omega)
              | (exfalso; simp only [Bool.not_eq_true', decide_eq_false_iff_not, decide_eq_true_eq] at *; omega)
              | trace_state
          | false =>
            have hko : soOk t rs v = false := by unfold soOk; rw [allI_not hy ha]; simp
            have hka : soA t rs v = 0 := by unfold soA; rw [hko]; rfl
            have hkb : soB t rs v = 0 := by unfold soB; rw [hko]; rfl
            rw [hko, hka, hkb]
            unfold soAt at ha
            rw [decide_eq_false (by omega), Bool.false_or, Bool.and_eq_false_iff, decide_eq_false_iff_not, decide_eq_false_iff_not] at ha
            repeat' first | refine go_seq ?_ | refine go_region ?_ | refine go_miss rfl rfl rfl ?_ | refine go_undef rfl rfl rfl ?_ | refine go_draw drawsOk ?_ | ((first | refine go_op rfl ?_ | refine go_nil ?_ | refine go_hit rfl rfl rfl ?_ | refine go_splitT rfl rfl rfl (fun h => ?_) (fun h => ?_) | refine go_splitF rfl rfl rfl (fun h => ?_) (fun h => ?_) | refine go_storeBox rfl rfl rfl rfl rfl rfl ?_ | refine go_dop rfl ?_ | refine go_dhit rfl rfl ?_ | refine go_dmiss rfl rfl ?_ | refine go_dundef rfl rfl ?_ | refine go_dend (by kernel_rfl) ?_ | refine go_pickT rfl ?_ | refine go_pickF rfl ?_ | refine go_pick rfl (fun h => ?_) (fun h => ?_) | refine go_idxOwnI (j := 0) rfl rfl rfl rfl rfl rfl rfl (by omega) ?_ | refine go_idxOwnI (j := j) rfl rfl rfl rfl rfl rfl rfl (by omega) ?_ | refine go_idxOwnI (j := j - 1) rfl rfl ep rfl rfl rfl rfl (by omega) ?_ | refine go_loadEl rfl rfl rfl h0r ?_ | refine go_loadEl rfl rfl rfl hjr ?_ | refine go_loadEl rfl rfl rfl hpr ?_) <;> conv => whnf) | ((first | refine go_dsplit2 rfl (fun h => ?_) (fun h => ?_) | refine go_loadB ?_ | refine ⟨by kernel_rfl, ?_⟩ | refine go_ret ?_) <;> conv => whnf) | refine go_block ?_ | ((first | refine go_skip ?_ | refine go_exit ?_) <;> conv => whnf) | refine go_true rfl ?_ | refine go_false rfl ?_ | refine go_cond rfl (fun h => ?_) (fun h => ?_) | refine ⟨rfl, ?_⟩ | ((first | refine ⟨trivial, ?_⟩ | refine ⟨le_of_ble rfl, ?_⟩) <;> conv => whnf) | fail
            all_goals first
              | exact ret_imm3 rfl rfl rfl rfl rfl rfl rfl rfl rfl rfl
              | (exfalso; have h' := of_decide_eq_false h; omega)
              | (exfalso; have h' := of_decide_eq_true h; omega)
              | (exfalso; rename_i hq; have h' := of_decide_eq_true hq; omega)
              | (exfalso; rename_i hq; have h' := of_decide_eq_false hq; omega)
              | (exfalso; rename_i hq _; have h' := of_decide_eq_true hq; omega)
              | (exfalso; rename_i hq _; have h' := of_decide_eq_false hq; omega)
              | (exfalso; simp only [Bool.not_eq_false', decide_eq_false_iff_not, decide_eq_true_eq] at *; omega)
              | trace_state
        | none =>
          have hge2 := le_of_at hy
          have hje : j = (soOwn rs v).length := by omega
          subst hje
          have hko : soOk t rs v = true := by unfold soOk; rw [hp, decide_eq_true (by omega), allI_end (Nat.le_refl _) hup]; rfl
          have hka : soA t rs v = IntKind.i64.wrap ((soLast (soOwn rs v)).done - ((soOwn rs v).getD 0 rep0).done) := by unfold soA; rw [hko]; rfl
          have hkb : soB t rs v = IntKind.i64.wrap ((soLast (soOwn rs v)).time - ((soOwn rs v).getD 0 rep0).time) := by unfold soB; rw [hko]; rfl
          rw [hko, hka, hkb]
          have hlr := own_row (own := soOwn rs v) (i := (soOwn rs v).length - 1) (by omega)
          have el : IntKind.i64.wrap ((((soOwn rs v).map Report.enc).length : Int) - 1) = (((soOwn rs v).length - 1 : Nat) : Int) := by rw [hom, wrap_small (by omega) (by omega)]; omega
          repeat' first | refine go_seq ?_ | refine go_region ?_ | refine go_miss rfl rfl rfl ?_ | refine go_undef rfl rfl rfl ?_ | refine go_draw drawsOk ?_ | ((first | refine go_op rfl ?_ | refine go_nil ?_ | refine go_hit rfl rfl rfl ?_ | refine go_splitT rfl rfl rfl (fun h => ?_) (fun h => ?_) | refine go_splitF rfl rfl rfl (fun h => ?_) (fun h => ?_) | refine go_storeBox rfl rfl rfl rfl rfl rfl ?_ | refine go_dop rfl ?_ | refine go_dhit rfl rfl ?_ | refine go_dmiss rfl rfl ?_ | refine go_dundef rfl rfl ?_ | refine go_dend (by kernel_rfl) ?_ | refine go_pickT rfl ?_ | refine go_pickF rfl ?_ | refine go_pick rfl (fun h => ?_) (fun h => ?_) | refine go_idxOwnI (j := 0) rfl rfl rfl rfl rfl rfl rfl (by omega) ?_ | refine go_idxOwnI (j := (soOwn rs v).length - 1) rfl rfl el rfl rfl rfl rfl (by omega) ?_ | refine go_loadEl rfl rfl rfl h0r ?_ | refine go_loadEl rfl rfl rfl hlr ?_) <;> conv => whnf) | ((first | refine go_dsplit2 rfl (fun h => ?_) (fun h => ?_) | refine go_loadB ?_ | refine ⟨by kernel_rfl, ?_⟩ | refine go_ret ?_) <;> conv => whnf) | refine go_block ?_ | ((first | refine go_skip ?_ | refine go_exit ?_) <;> conv => whnf) | refine go_true rfl ?_ | refine go_false rfl ?_ | refine go_cond rfl (fun h => ?_) (fun h => ?_) | refine ⟨rfl, ?_⟩ | ((first | refine ⟨trivial, ?_⟩ | refine ⟨le_of_ble rfl, ?_⟩) <;> conv => whnf) | fail
          all_goals first
            | exact ret_imm3 rfl rfl rfl rfl rfl rfl rfl rfl rfl rfl
            | (exfalso; have h' := of_decide_eq_false h; omega)
            | (exfalso; have h' := of_decide_eq_true h; omega)
            | (exfalso; rename_i hq; have h' := of_decide_eq_true hq; omega)
            | (exfalso; rename_i hq; have h' := of_decide_eq_false hq; omega)
            | (exfalso; rename_i hq _; have h' := of_decide_eq_true hq; omega)
            | (exfalso; rename_i hq _; have h' := of_decide_eq_false hq; omega)
            | trace_state

theorem c57 (t : Timetable) (hf : t.fit) (rs : List Report) (hl : rs.length ≤ 1048576) (v : Int) : CallOk Try.prog 57 [.imm (.agg t.enc), .imm (.list (rs.map Report.enc)), .imm (.int .i64 v)] { res := [.imm (.int .i64 (soA t rs v)), .imm (.int .i64 (soB t rs v)), .imm (.bool (soOk t rs v))] } := by
  refine callOk_of tyOk Try.func57 rfl rfl (le_of_ble rfl) (le_of_ble rfl) (mutOk_imm rfl _) ?_
  have hc0 := c98 t hf rs hl
  have hlm : (rs.map Report.enc).length = rs.length := List.length_map _
  have hom : ((soOwn rs v).map Report.enc).length = (soOwn rs v).length := List.length_map _
  have hol := soOwn_len rs v
  cases hp : repsOk t rs with
  | false =>
    have hko : soOk t rs v = false := by unfold soOk; rw [hp]; rfl
    have hka : soA t rs v = 0 := by unfold soA; rw [hko]; rfl
    have hkb : soB t rs v = 0 := by unfold soB; rw [hko]; rfl
    rw [hko, hka, hkb]
    rw [hp] at hc0
    repeat' first | refine go_seq ?_ | refine go_region ?_ | refine go_miss rfl rfl rfl ?_ | refine go_undef rfl rfl rfl ?_ | refine go_draw drawsOk ?_ | ((first | refine go_op rfl ?_ | refine go_nil ?_ | refine go_hit rfl rfl rfl ?_ | refine go_splitT rfl rfl rfl (fun h => ?_) (fun h => ?_) | refine go_splitF rfl rfl rfl (fun h => ?_) (fun h => ?_) | refine go_dop rfl ?_ | refine go_dhit rfl rfl ?_ | refine go_dmiss rfl rfl ?_ | refine go_dundef rfl rfl ?_ | refine go_dend (by kernel_rfl) ?_ | refine go_pickT rfl ?_ | refine go_pickF rfl ?_ | refine go_pick rfl (fun h => ?_) (fun h => ?_) | refine go_call [] (hc0) rfl rfl rfl rfl ?_) <;> conv => whnf) | ((first | refine go_dsplit2 rfl (fun h => ?_) (fun h => ?_) | refine go_loadB ?_ | refine ⟨by kernel_rfl, ?_⟩ | refine go_ret ?_) <;> conv => whnf) | refine go_block ?_ | ((first | refine go_skip ?_ | refine go_exit ?_) <;> conv => whnf) | refine go_true rfl ?_ | refine go_false rfl ?_ | refine go_cond rfl (fun h => ?_) (fun h => ?_) | refine ⟨rfl, ?_⟩ | ((first | refine ⟨trivial, ?_⟩ | refine ⟨le_of_ble rfl, ?_⟩) <;> conv => whnf) | fail
    all_goals exact ret_imm3 rfl rfl rfl rfl rfl rfl rfl rfl rfl rfl
  | true =>
    rw [hp] at hc0
    repeat' first | refine go_seq ?_ | refine go_region ?_ | refine go_miss rfl rfl rfl ?_ | refine go_undef rfl rfl rfl ?_ | refine go_draw drawsOk ?_ | ((first | refine go_op rfl ?_ | refine go_nil ?_ | refine go_hit rfl rfl rfl ?_ | refine go_splitT rfl rfl rfl (fun h => ?_) (fun h => ?_) | refine go_splitF rfl rfl rfl (fun h => ?_) (fun h => ?_) | refine go_dop rfl ?_ | refine go_dhit rfl rfl ?_ | refine go_dmiss rfl rfl ?_ | refine go_dundef rfl rfl ?_ | refine go_dend (by kernel_rfl) ?_ | refine go_pickT rfl ?_ | refine go_pickF rfl ?_ | refine go_pick rfl (fun h => ?_) (fun h => ?_) | refine go_call [] (hc0) rfl rfl rfl rfl ?_) <;> conv => whnf) | ((first | refine go_dsplit2 rfl (fun h => ?_) (fun h => ?_) | refine go_loadB ?_ | refine ⟨by kernel_rfl, ?_⟩ | refine go_ret ?_) <;> conv => whnf) | refine go_block ?_ | ((first | refine go_skip ?_ | refine go_exit ?_) <;> conv => whnf) | refine go_true rfl ?_ | refine go_false rfl ?_ | refine go_cond rfl (fun h => ?_) (fun h => ?_) | refine ⟨rfl, ?_⟩ | ((first | refine ⟨trivial, ?_⟩ | refine ⟨le_of_ble rfl, ?_⟩) <;> conv => whnf) | fail
    refine go_loop (α := Nat) (fun i => i ≤ rs.length) (fun i => rs.length - i)
      (fun i => st Try.f57.ntmps [(1, .imm (.list (rs.map Report.enc))), (2, .imm (.int .i64 v)), (9, .own 1000 0 (((rs.take i).filter (pVeh v)).map Report.enc).length), (10, .imm (.int .i64 (i : Nat)))]
        [(1000, .arr 82 4 (((rs.take i).filter (pVeh v)).map Report.enc))] []) 0 (Nat.zero_le _) ?_ ?_
    · exact ref_st (fun _ => nid 3 17) rfl ⟨rfl, rfl, ⟨rfl, rfl⟩, rfl, trivial⟩ ⟨rfl, trivial⟩ (by simp) rfl (by simp)
    intro i hi
    cases hx : rs[i]? with
    | some r =>
      have hlt := lt_of_at hx
      have hr := row_at Report.enc hx
      have hfl : ((rs.take i).filter (pVeh v)).length ≤ rs.length := Nat.le_trans (List.length_filter_le _ _) (by rw [List.length_take]; omega)
      have hb : (((rs.take i).filter (pVeh v)).map Report.enc).length + 1 ≤ 1073741824 := by rw [List.length_map]; omega
      repeat' first | refine go_seq ?_ | refine go_region ?_ | refine go_miss rfl rfl rfl ?_ | refine go_undef rfl rfl rfl ?_ | refine go_draw drawsOk ?_ | ((first | refine go_op rfl ?_ | refine go_nil ?_ | refine go_hit rfl rfl rfl ?_ | refine go_splitT rfl rfl rfl (fun h => ?_) (fun h => ?_) | refine go_splitF rfl rfl rfl (fun h => ?_) (fun h => ?_) | refine go_dop rfl ?_ | refine go_dhit rfl rfl ?_ | refine go_dmiss rfl rfl ?_ | refine go_dundef rfl rfl ?_ | refine go_dend (by kernel_rfl) ?_ | refine go_pickT rfl ?_ | refine go_pickF rfl ?_ | refine go_pick rfl (fun h => ?_) (fun h => ?_) | refine go_idx rfl rfl rfl rfl (by omega) hr rfl ?_ | refine go_append (rows2 := [r].map Report.enc) rfl rfl rfl rfl rfl rfl rfl rfl rfl rfl rfl rfl (report_one [r]) rfl rfl rfl hb ?_) <;> conv => whnf) | ((first | refine go_dsplit2 rfl (fun h => ?_) (fun h => ?_) | refine go_loadB ?_ | refine ⟨by kernel_rfl, ?_⟩ | refine go_ret ?_) <;> conv => whnf) | refine go_block ?_ | ((first | refine go_skip ?_ | refine go_exit ?_) <;> conv => whnf) | refine go_true rfl ?_ | refine go_false rfl ?_ | refine go_cond rfl (fun h => ?_) (fun h => ?_) | refine ⟨rfl, ?_⟩ | ((first | refine ⟨trivial, ?_⟩ | refine ⟨le_of_ble rfl, ?_⟩) <;> conv => whnf) | fail
      all_goals try first
        | (exfalso; have h' := of_decide_eq_false h; omega)
        | (exfalso; have h' := of_decide_eq_true h; omega)
        | (exfalso; rename_i hq; have h' := of_decide_eq_true hq; omega)
        | (exfalso; rename_i hq; have h' := of_decide_eq_false hq; omega)
        | (exfalso; rename_i hq _; have h' := of_decide_eq_true hq; omega)
        | (exfalso; rename_i hq _; have h' := of_decide_eq_false hq; omega)
      · refine go_next (i + 1) (by omega) (by omega) (ref_st (fun _ => nid 4 37) rfl ⟨rfl, rfl, ⟨?_, rfl⟩, next_i (by omega), trivial⟩ ⟨?_, trivial⟩ (by simp) rfl (by simp))
        · show AV.own _ _ _ = AV.own _ _ _
          rw [filter_next hx, if_pos (show pVeh v r = true from h), List.map_append, List.length_append]; try rfl
        · show some _ = some _
          rw [filter_next hx, if_pos (show pVeh v r = true from h), List.map_append]; try rfl
      · refine go_next (i + 1) (by omega) (by omega) (ref_st id rfl ⟨rfl, rfl, ⟨?_, rfl⟩, next_i (by omega), trivial⟩ ⟨?_, trivial⟩ (by simp) rfl (by simp))
        · show AV.own _ _ _ = AV.own _ _ _
          rw [filter_next hx, if_neg (by unfold pVeh; rw [h]; simp)]; try rfl
        · show some _ = some _
          rw [filter_next hx, if_neg (by unfold pVeh; rw [h]; simp)]; try rfl
    | none =>
      have hge := le_of_at hx
      rw [show (rs.take i).filter (pVeh v) = soOwn rs v by rw [List.take_of_length_le hge]; rfl]
      by_cases h2 : (soOwn rs v).length < 2
      · have hko : soOk t rs v = false := by unfold soOk; rw [decide_eq_false (by omega)]; simp
        have hka : soA t rs v = 0 := by unfold soA; rw [hko]; rfl
        have hkb : soB t rs v = 0 := by unfold soB; rw [hko]; rfl
        rw [hko, hka, hkb]
        repeat' first | refine go_seq ?_ | refine go_region ?_ | refine go_miss rfl rfl rfl ?_ | refine go_undef rfl rfl rfl ?_ | refine go_draw drawsOk ?_ | ((first | refine go_op rfl ?_ | refine go_nil ?_ | refine go_hit rfl rfl rfl ?_ | refine go_splitT rfl rfl rfl (fun h => ?_) (fun h => ?_) | refine go_splitF rfl rfl rfl (fun h => ?_) (fun h => ?_) | refine go_dop rfl ?_ | refine go_dhit rfl rfl ?_ | refine go_dmiss rfl rfl ?_ | refine go_dundef rfl rfl ?_ | refine go_dend (by kernel_rfl) ?_ | refine go_pickT rfl ?_ | refine go_pickF rfl ?_ | refine go_pick rfl (fun h => ?_) (fun h => ?_)) <;> conv => whnf) | ((first | refine go_dsplit2 rfl (fun h => ?_) (fun h => ?_) | refine go_loadB ?_ | refine ⟨by kernel_rfl, ?_⟩ | refine go_ret ?_) <;> conv => whnf) | refine go_block ?_ | ((first | refine go_skip ?_ | refine go_exit ?_) <;> conv => whnf) | refine go_true rfl ?_ | refine go_false rfl ?_ | refine go_cond rfl (fun h => ?_) (fun h => ?_) | refine ⟨rfl, ?_⟩ | ((first | refine ⟨trivial, ?_⟩ | refine ⟨le_of_ble rfl, ?_⟩) <;> conv => whnf) | fail
        all_goals try first
          | (exfalso; have h' := of_decide_eq_false h; omega)
          | (exfalso; have h' := of_decide_eq_true h; omega)
          | (exfalso; rename_i hq; have h' := of_decide_eq_true hq; omega)
          | (exfalso; rename_i hq; have h' := of_decide_eq_false hq; omega)
          | (exfalso; rename_i hq _; have h' := of_decide_eq_true hq; omega)
          | (exfalso; rename_i hq _; have h' := of_decide_eq_false hq; omega)
        refine go_loop (α := Nat) (fun j => j = 1) (fun _ => 0)
          (fun j => st Try.f57.ntmps [(9, .own 1000 0 ((soOwn rs v).map Report.enc).length), (11, .imm (.int .i64 ((soOwn rs v).map Report.enc).length)), (12, .imm (.int .i64 (j : Nat)))] [(1000, .arr 82 4 ((soOwn rs v).map Report.enc))] []) 1 rfl ?_ ?_
        · exact ref_st id rfl ⟨⟨rfl, rfl⟩, rfl, rfl, trivial⟩ ⟨rfl, trivial⟩ (by simp) rfl (by simp)
        rintro j rfl
        repeat' first | refine go_seq ?_ | refine go_region ?_ | refine go_miss rfl rfl rfl ?_ | refine go_undef rfl rfl rfl ?_ | refine go_draw drawsOk ?_ | ((first | refine go_op rfl ?_ | refine go_nil ?_ | refine go_hit rfl rfl rfl ?_ | refine go_splitT rfl rfl rfl (fun h => ?_) (fun h => ?_) | refine go_splitF rfl rfl rfl (fun h => ?_) (fun h => ?_) | refine go_dop rfl ?_ | refine go_dhit rfl rfl ?_ | refine go_dmiss rfl rfl ?_ | refine go_dundef rfl rfl ?_ | refine go_dend (by kernel_rfl) ?_ | refine go_pickT rfl ?_ | refine go_pickF rfl ?_ | refine go_pick rfl (fun h => ?_) (fun h => ?_)) <;> conv => whnf) | ((first | refine go_dsplit2 rfl (fun h => ?_) (fun h => ?_) | refine go_loadB ?_ | refine ⟨by kernel_rfl, ?_⟩ | refine go_ret ?_) <;> conv => whnf) | refine go_block ?_ | ((first | refine go_skip ?_ | refine go_exit ?_) <;> conv => whnf) | refine go_true rfl ?_ | refine go_false rfl ?_ | refine go_cond rfl (fun h => ?_) (fun h => ?_) | refine ⟨rfl, ?_⟩ | ((first | refine ⟨trivial, ?_⟩ | refine ⟨le_of_ble rfl, ?_⟩) <;> conv => whnf) | fail
        all_goals first
          | exact ret_imm3 rfl rfl rfl rfl rfl rfl rfl rfl rfl rfl
          | (exfalso; have h' := of_decide_eq_false h; omega)
          | (exfalso; have h' := of_decide_eq_true h; omega)
          | (exfalso; rename_i hq; have h' := of_decide_eq_true hq; omega)
          | (exfalso; rename_i hq; have h' := of_decide_eq_false hq; omega)
          | (exfalso; rename_i hq _; have h' := of_decide_eq_true hq; omega)
          | (exfalso; rename_i hq _; have h' := of_decide_eq_false hq; omega)
          | (exfalso; rename_i hq; simp at hq; omega)
          | (exfalso; rename_i hq _; simp at hq; omega)
          | trace_state
      · skip
        repeat' first | refine go_seq ?_ | refine go_region ?_ | refine go_miss rfl rfl rfl ?_ | refine go_undef rfl rfl rfl ?_ | refine go_draw drawsOk ?_ | ((first | refine go_op rfl ?_ | refine go_nil ?_ | refine go_hit rfl rfl rfl ?_ | refine go_splitT rfl rfl rfl (fun h => ?_) (fun h => ?_) | refine go_splitF rfl rfl rfl (fun h => ?_) (fun h => ?_) | refine go_dop rfl ?_ | refine go_dhit rfl rfl ?_ | refine go_dmiss rfl rfl ?_ | refine go_dundef rfl rfl ?_ | refine go_dend (by kernel_rfl) ?_ | refine go_pickT rfl ?_ | refine go_pickF rfl ?_ | refine go_pick rfl (fun h => ?_) (fun h => ?_)) <;> conv => whnf) | ((first | refine go_dsplit2 rfl (fun h => ?_) (fun h => ?_) | refine go_loadB ?_ | refine ⟨by kernel_rfl, ?_⟩ | refine go_ret ?_) <;> conv => whnf) | refine go_block ?_ | ((first | refine go_skip ?_ | refine go_exit ?_) <;> conv => whnf) | refine go_true rfl ?_ | refine go_false rfl ?_ | refine go_cond rfl (fun h => ?_) (fun h => ?_) | refine ⟨rfl, ?_⟩ | ((first | refine ⟨trivial, ?_⟩ | refine ⟨le_of_ble rfl, ?_⟩) <;> conv => whnf) | fail
        all_goals try first
          | (exfalso; have h' := of_decide_eq_false h; omega)
          | (exfalso; have h' := of_decide_eq_true h; omega)
          | (exfalso; rename_i hq; have h' := of_decide_eq_true hq; omega)
          | (exfalso; rename_i hq; have h' := of_decide_eq_false hq; omega)
          | (exfalso; rename_i hq _; have h' := of_decide_eq_true hq; omega)
          | (exfalso; rename_i hq _; have h' := of_decide_eq_false hq; omega)
        refine go_loop (α := Nat) (fun j => 1 ≤ j ∧ j ≤ (soOwn rs v).length ∧ upI (soAt (soOwn rs v)) (soOwn rs v) j = true) (fun j => (soOwn rs v).length - j)
          (fun j => st Try.f57.ntmps [(9, .own 1000 0 ((soOwn rs v).map Report.enc).length), (11, .imm (.int .i64 ((soOwn rs v).map Report.enc).length)), (12, .imm (.int .i64 (j : Nat)))] [(1000, .arr 82 4 ((soOwn rs v).map Report.enc))] []) 1 ⟨Nat.le_refl _, by omega, ?_⟩ ?_ ?_
        · obtain ⟨r0, hr0⟩ : ∃ r0, (soOwn rs v)[0]? = some r0 := ⟨_, List.getElem?_eq_getElem (by omega)⟩
          simp [upI, hr0, soAt]
        · exact ref_st id rfl ⟨⟨rfl, rfl⟩, rfl, rfl, trivial⟩ ⟨rfl, trivial⟩ (by simp) rfl (by simp)
        rintro j ⟨hj1, hj2, hup⟩
        have h0r := own_row (own := soOwn rs v) (i := 0) (by omega)
        cases hy : (soOwn rs v)[j]? with
        | some r =>
          have hlt := lt_of_at hy
          have hjr : ((soOwn rs v).map Report.enc)[j]? = some r.enc := by rw [List.getElem?_map, hy]; rfl
          have hpr := own_row (own := soOwn rs v) (i := j - 1) (by omega)
          have ep : IntKind.i64.wrap (((j : Nat) : Int) - 1) = ((j - 1 : Nat) : Int) := by rw [wrap_small (by omega) (by omega)]; omega
          cases ha : soAt (soOwn rs v) j r with
          | true =>
            have hup' := upI_next hy hup ha
            unfold soAt at ha
            rw [decide_eq_false (by omega), Bool.false_or, Bool.and_eq_true, decide_eq_true_eq, decide_eq_true_eq] at ha
            obtain ⟨ha1, ha2⟩ := ha
            repeat' first | refine go_seq ?_ | refine go_region ?_ | refine go_miss rfl rfl rfl ?_ | refine go_undef rfl rfl rfl ?_ | refine go_draw drawsOk ?_ | ((first | refine go_op rfl ?_ | refine go_nil ?_ | refine go_hit rfl rfl rfl ?_ | refine go_splitT rfl rfl rfl (fun h => ?_) (fun h => ?_) | refine go_splitF rfl rfl rfl (fun h => ?_) (fun h => ?_) | refine go_dop rfl ?_ | refine go_dhit rfl rfl ?_ | refine go_dmiss rfl rfl ?_ | refine go_dundef rfl rfl ?_ | refine go_dend (by kernel_rfl) ?_ | refine go_pickT rfl ?_ | refine go_pickF rfl ?_ | refine go_pick rfl (fun h => ?_) (fun h => ?_) | refine go_idxOwnI (j := 0) rfl rfl rfl rfl rfl rfl rfl (by omega) ?_ | refine go_idxOwnI (j := j) rfl rfl rfl rfl rfl rfl rfl (by omega) ?_ | refine go_idxOwnI (j := j - 1) rfl rfl ep rfl rfl rfl rfl (by omega) ?_ | refine go_loadEl rfl rfl rfl h0r ?_ | refine go_loadEl rfl rfl rfl hjr ?_ | refine go_loadEl rfl rfl rfl hpr ?_) <;> conv => whnf) | ((first | refine go_dsplit2 rfl (fun h => ?_) (fun h => ?_) | refine go_loadB ?_ | refine ⟨by kernel_rfl, ?_⟩ | refine go_ret ?_) <;> conv => whnf) | refine go_block ?_ | ((first | refine go_skip ?_ | refine go_exit ?_) <;> conv => whnf) | refine go_true rfl ?_ | refine go_false rfl ?_ | refine go_cond rfl (fun h => ?_) (fun h => ?_) | refine ⟨rfl, ?_⟩ | ((first | refine ⟨trivial, ?_⟩ | refine ⟨le_of_ble rfl, ?_⟩) <;> conv => whnf) | fail
            all_goals first
              | exact go_next (j + 1) ⟨by omega, by omega, hup'⟩ (by omega) (ref_st id rfl ⟨⟨rfl, rfl⟩, rfl, next_i (by omega), trivial⟩ ⟨rfl, trivial⟩ (by simp) rfl (by simp))
              | (exfalso; have h' := of_decide_eq_false h; omega)
              | (exfalso; have h' := of_decide_eq_true h; omega)
              | (exfalso; rename_i hq; have h' := of_decide_eq_true hq; omega)
              | (exfalso; rename_i hq; have h' := of_decide_eq_false hq; omega)
              | (exfalso; rename_i hq _; have h' := of_decide_eq_true hq; omega)
              | (exfalso; rename_i hq _; have h' := of_decide_eq_false hq; omega)
              | (exfalso; simp only [Bool.not_eq_true', decide_eq_false_iff_not, decide_eq_true_eq] at *; omega)
              | trace_state
          | false =>
            have hko : soOk t rs v = false := by unfold soOk; rw [allI_not hy ha]; simp
            have hka : soA t rs v = 0 := by unfold soA; rw [hko]; rfl
            have hkb : soB t rs v = 0 := by unfold soB; rw [hko]; rfl
            rw [hko, hka, hkb]
            unfold soAt at ha
            rw [decide_eq_false (by omega), Bool.false_or, Bool.and_eq_false_iff, decide_eq_false_iff_not, decide_eq_false_iff_not] at ha
            repeat' first | refine go_seq ?_ | refine go_region ?_ | refine go_miss rfl rfl rfl ?_ | refine go_undef rfl rfl rfl ?_ | refine go_draw drawsOk ?_ | ((first | refine go_op rfl ?_ | refine go_nil ?_ | refine go_hit rfl rfl rfl ?_ | refine go_splitT rfl rfl rfl (fun h => ?_) (fun h => ?_) | refine go_splitF rfl rfl rfl (fun h => ?_) (fun h => ?_) | refine go_dop rfl ?_ | refine go_dhit rfl rfl ?_ | refine go_dmiss rfl rfl ?_ | refine go_dundef rfl rfl ?_ | refine go_dend (by kernel_rfl) ?_ | refine go_pickT rfl ?_ | refine go_pickF rfl ?_ | refine go_pick rfl (fun h => ?_) (fun h => ?_) | refine go_idxOwnI (j := 0) rfl rfl rfl rfl rfl rfl rfl (by omega) ?_ | refine go_idxOwnI (j := j) rfl rfl rfl rfl rfl rfl rfl (by omega) ?_ | refine go_idxOwnI (j := j - 1) rfl rfl ep rfl rfl rfl rfl (by omega) ?_ | refine go_loadEl rfl rfl rfl h0r ?_ | refine go_loadEl rfl rfl rfl hjr ?_ | refine go_loadEl rfl rfl rfl hpr ?_) <;> conv => whnf) | ((first | refine go_dsplit2 rfl (fun h => ?_) (fun h => ?_) | refine go_loadB ?_ | refine ⟨by kernel_rfl, ?_⟩ | refine go_ret ?_) <;> conv => whnf) | refine go_block ?_ | ((first | refine go_skip ?_ | refine go_exit ?_) <;> conv => whnf) | refine go_true rfl ?_ | refine go_false rfl ?_ | refine go_cond rfl (fun h => ?_) (fun h => ?_) | refine ⟨rfl, ?_⟩ | ((first | refine ⟨trivial, ?_⟩ | refine ⟨le_of_ble rfl, ?_⟩) <;> conv => whnf) | fail
            all_goals first
              | exact ret_imm3 rfl rfl rfl rfl rfl rfl rfl rfl rfl rfl
              | (exfalso; have h' := of_decide_eq_false h; omega)
              | (exfalso; have h' := of_decide_eq_true h; omega)
              | (exfalso; rename_i hq; have h' := of_decide_eq_true hq; omega)
              | (exfalso; rename_i hq; have h' := of_decide_eq_false hq; omega)
              | (exfalso; rename_i hq _; have h' := of_decide_eq_true hq; omega)
              | (exfalso; rename_i hq _; have h' := of_decide_eq_false hq; omega)
              | (exfalso; simp only [Bool.not_eq_false', decide_eq_false_iff_not, decide_eq_true_eq] at *; omega)
              | trace_state
        | none =>
          have hge2 := le_of_at hy
          have hje : j = (soOwn rs v).length := by omega
          subst hje
          have hko : soOk t rs v = true := by unfold soOk; rw [hp, decide_eq_true (by omega), allI_end (Nat.le_refl _) hup]; rfl
          have hka : soA t rs v = IntKind.i64.wrap ((soLast (soOwn rs v)).done - ((soOwn rs v).getD 0 rep0).done) := by unfold soA; rw [hko]; rfl
          have hkb : soB t rs v = IntKind.i64.wrap ((soLast (soOwn rs v)).time - ((soOwn rs v).getD 0 rep0).time) := by unfold soB; rw [hko]; rfl
          rw [hko, hka, hkb]
          have hlr := own_row (own := soOwn rs v) (i := (soOwn rs v).length - 1) (by omega)
          have el : IntKind.i64.wrap ((((soOwn rs v).map Report.enc).length : Int) - 1) = (((soOwn rs v).length - 1 : Nat) : Int) := by rw [hom, wrap_small (by omega) (by omega)]; omega
          repeat' first | refine go_seq ?_ | refine go_region ?_ | refine go_miss rfl rfl rfl ?_ | refine go_undef rfl rfl rfl ?_ | refine go_draw drawsOk ?_ | ((first | refine go_op rfl ?_ | refine go_nil ?_ | refine go_hit rfl rfl rfl ?_ | refine go_splitT rfl rfl rfl (fun h => ?_) (fun h => ?_) | refine go_splitF rfl rfl rfl (fun h => ?_) (fun h => ?_) | refine go_dop rfl ?_ | refine go_dhit rfl rfl ?_ | refine go_dmiss rfl rfl ?_ | refine go_dundef rfl rfl ?_ | refine go_dend (by kernel_rfl) ?_ | refine go_pickT rfl ?_ | refine go_pickF rfl ?_ | refine go_pick rfl (fun h => ?_) (fun h => ?_) | refine go_idxOwnI (j := 0) rfl rfl rfl rfl rfl rfl rfl (by omega) ?_ | refine go_idxOwnI (j := (soOwn rs v).length - 1) rfl rfl el rfl rfl rfl rfl (by omega) ?_ | refine go_loadEl rfl rfl rfl h0r ?_ | refine go_loadEl rfl rfl rfl hlr ?_) <;> conv => whnf) | ((first | refine go_dsplit2 rfl (fun h => ?_) (fun h => ?_) | refine go_loadB ?_ | refine ⟨by kernel_rfl, ?_⟩ | refine go_ret ?_) <;> conv => whnf) | refine go_block ?_ | ((first | refine go_skip ?_ | refine go_exit ?_) <;> conv => whnf) | refine go_true rfl ?_ | refine go_false rfl ?_ | refine go_cond rfl (fun h => ?_) (fun h => ?_) | refine ⟨rfl, ?_⟩ | ((first | refine ⟨trivial, ?_⟩ | refine ⟨le_of_ble rfl, ?_⟩) <;> conv => whnf) | fail
          all_goals first
            | exact ret_imm3 rfl rfl rfl rfl rfl rfl rfl rfl rfl rfl
            | (exfalso; have h' := of_decide_eq_false h; omega)
            | (exfalso; have h' := of_decide_eq_true h; omega)
            | (exfalso; rename_i hq; have h' := of_decide_eq_true hq; omega)
            | (exfalso; rename_i hq; have h' := of_decide_eq_false hq; omega)
            | (exfalso; rename_i hq _; have h' := of_decide_eq_true hq; omega)
            | (exfalso; rename_i hq _; have h' := of_decide_eq_false hq; omega)
            | trace_state

theorem c12 (t : Timetable) (hok_t : t.ok) (rs : List Report) (_ : ∀ v ∈ rs, v.ok) (hl_rs : rs.length ≤ 9223372036854775807) (v : Int) (_ : i64 v) : CallOk Try.prog 12 [.imm (.agg t.enc), .imm (.list (rs.map Report.enc)), .imm (.int .i64 v)] { res := [.imm (.bool true)] } := by
  refine callOk_of tyOk Try.func12 rfl rfl (le_of_ble rfl) (le_of_ble rfl) (mutOk_imm rfl _) ?_
  have hsz1 := c13 t hok_t (1048576) (by omega) (by omega)
  have hle1 := szTimetable_sz.le (1048576) t (by omega)
  by_cases h01 : 0 ≤ szTimetable 1048576 t
  case neg =>
    repeat' first | refine go_seq ?_ | refine go_region ?_ | refine go_miss rfl rfl rfl ?_ | refine go_undef rfl rfl rfl ?_ | refine go_draw drawsOk ?_ | ((first | refine go_op rfl ?_ | refine go_nil ?_ | refine go_hit rfl rfl rfl ?_ | refine go_splitT rfl rfl rfl (fun h => ?_) (fun h => ?_) | refine go_splitF rfl rfl rfl (fun h => ?_) (fun h => ?_) | refine go_storeBox rfl rfl rfl rfl rfl rfl ?_ | refine go_dop rfl ?_ | refine go_dhit rfl rfl ?_ | refine go_dmiss rfl rfl ?_ | refine go_dundef rfl rfl ?_ | refine go_dend (by kernel_rfl) ?_ | refine go_pickT rfl ?_ | refine go_pickF rfl ?_ | refine go_pick rfl (fun h => ?_) (fun h => ?_) | refine go_call [] (hsz1) rfl rfl rfl rfl ?_) <;> conv => whnf) | ((first | refine go_dsplit2 rfl (fun h => ?_) (fun h => ?_) | refine go_loadB ?_ | refine ⟨by kernel_rfl, ?_⟩ | refine go_ret ?_) <;> conv => whnf) | ((first | refine go_skip ?_) <;> conv => whnf) | refine go_true rfl ?_ | refine go_false rfl ?_ | refine go_cond rfl (fun h => ?_) (fun h => ?_) | refine ⟨rfl, ?_⟩ | ((first | refine ⟨trivial, ?_⟩ | refine ⟨le_of_ble rfl, ?_⟩) <;> conv => whnf) | fail
    all_goals first
      | exact ret_imm rfl rfl rfl rfl rfl rfl
      | (exfalso; have h' := of_decide_eq_false h; omega)
      | (exfalso; have h' := of_decide_eq_true h; omega)
      | (exfalso; rename_i hq; have h' := of_decide_eq_true hq; omega)
      | (exfalso; rename_i hq; have h' := of_decide_eq_false hq; omega)
      | (exfalso; rename_i hq _; have h' := of_decide_eq_true hq; omega)
      | (exfalso; rename_i hq _; have h' := of_decide_eq_false hq; omega)
      | trace_state
  have hf_t := szTimetable_fit (by omega) h01
  have hsz2 := c52 rs hl_rs (szTimetable 1048576 t) (by omega) (by omega)
  have hle2 := szReportS_sz.le (szTimetable 1048576 t) rs (by omega)
  by_cases h02 : 0 ≤ szReportS (szTimetable 1048576 t) rs
  case neg =>
    repeat' first | refine go_seq ?_ | refine go_region ?_ | refine go_miss rfl rfl rfl ?_ | refine go_undef rfl rfl rfl ?_ | refine go_draw drawsOk ?_ | ((first | refine go_op rfl ?_ | refine go_nil ?_ | refine go_hit rfl rfl rfl ?_ | refine go_splitT rfl rfl rfl (fun h => ?_) (fun h => ?_) | refine go_splitF rfl rfl rfl (fun h => ?_) (fun h => ?_) | refine go_storeBox rfl rfl rfl rfl rfl rfl ?_ | refine go_dop rfl ?_ | refine go_dhit rfl rfl ?_ | refine go_dmiss rfl rfl ?_ | refine go_dundef rfl rfl ?_ | refine go_dend (by kernel_rfl) ?_ | refine go_pickT rfl ?_ | refine go_pickF rfl ?_ | refine go_pick rfl (fun h => ?_) (fun h => ?_) | refine go_call [] (hsz1) rfl rfl rfl rfl ?_ | refine go_call [] (hsz2) rfl rfl rfl rfl ?_) <;> conv => whnf) | ((first | refine go_dsplit2 rfl (fun h => ?_) (fun h => ?_) | refine go_loadB ?_ | refine ⟨by kernel_rfl, ?_⟩ | refine go_ret ?_) <;> conv => whnf) | ((first | refine go_skip ?_) <;> conv => whnf) | refine go_true rfl ?_ | refine go_false rfl ?_ | refine go_cond rfl (fun h => ?_) (fun h => ?_) | refine ⟨rfl, ?_⟩ | ((first | refine ⟨trivial, ?_⟩ | refine ⟨le_of_ble rfl, ?_⟩) <;> conv => whnf) | fail
    all_goals first
      | exact ret_imm rfl rfl rfl rfl rfl rfl
      | (exfalso; have h' := of_decide_eq_false h; omega)
      | (exfalso; have h' := of_decide_eq_true h; omega)
      | (exfalso; rename_i hq; have h' := of_decide_eq_true hq; omega)
      | (exfalso; rename_i hq; have h' := of_decide_eq_false hq; omega)
      | (exfalso; rename_i hq _; have h' := of_decide_eq_true hq; omega)
      | (exfalso; rename_i hq _; have h' := of_decide_eq_false hq; omega)
      | trace_state
  have hlrs : rs.length ≤ 1048576 := by have := less_pos (k := rs.length) h02; omega
  have hspec : CallOk Try.prog 57 [.imm (.agg t.enc), .imm (.list (((rs.map Report.enc).drop 0).take (rs.map Report.enc).length)), .imm (.int .i64 v)] { res := [.imm (.int .i64 (soA t rs v)), .imm (.int .i64 (soB t rs v)), .imm (.bool (soOk t rs v))] } := by rw [report_view]; exact c57 t hf_t rs hlrs v
  have himpl : CallOk Try.prog 58 [.imm (.agg t.enc), .imm (.list (((rs.map Report.enc).drop 0).take (rs.map Report.enc).length)), .imm (.int .i64 v)] { res := [.imm (.int .i64 (soA t rs v)), .imm (.int .i64 (soB t rs v)), .imm (.bool (soOk t rs v))] } := by rw [report_view]; exact c58 t hf_t rs hlrs v
  have heq_rs : CallOk Try.prog 56 [.imm (.list (((rs.map Report.enc).drop 0).take (rs.map Report.enc).length)), .imm (.list (((rs.map Report.enc).drop 0).take (rs.map Report.enc).length))] { res := [.imm (.bool true)] } := by rw [report_view]; exact c56s rs hlrs
  repeat' first | refine go_seq ?_ | refine go_region ?_ | refine go_miss rfl rfl rfl ?_ | refine go_undef rfl rfl rfl ?_ | refine go_draw drawsOk ?_ | ((first | refine go_op rfl ?_ | refine go_nil ?_ | refine go_hit rfl rfl rfl ?_ | refine go_splitT rfl rfl rfl (fun h => ?_) (fun h => ?_) | refine go_splitF rfl rfl rfl (fun h => ?_) (fun h => ?_) | refine go_storeBox rfl rfl rfl rfl rfl rfl ?_ | refine go_dop rfl ?_ | refine go_dhit rfl rfl ?_ | refine go_dmiss rfl rfl ?_ | refine go_dundef rfl rfl ?_ | refine go_dend (by kernel_rfl) ?_ | refine go_pickT rfl ?_ | refine go_pickF rfl ?_ | refine go_pick rfl (fun h => ?_) (fun h => ?_) | refine go_call [] (hsz1) rfl rfl rfl rfl ?_ | refine go_call [] (hsz2) rfl rfl rfl rfl ?_ | refine go_call [] (c16 t hf_t) rfl rfl rfl rfl ?_ | refine go_call [] (c19s t hf_t) rfl rfl rfl rfl ?_ | refine go_call [] (c54a rs hlrs) rfl rfl rfl rfl ?_ | refine go_call [] (heq_rs) rfl rfl rfl rfl ?_ | refine go_call [] (hspec) rfl rfl rfl rfl ?_ | refine go_call [] (himpl) rfl rfl rfl rfl ?_) <;> conv => whnf) | ((first | refine go_dsplit2 rfl (fun h => ?_) (fun h => ?_) | refine go_loadB ?_ | refine ⟨by kernel_rfl, ?_⟩ | refine go_ret ?_) <;> conv => whnf) | ((first | refine go_skip ?_) <;> conv => whnf) | refine go_true rfl ?_ | refine go_false rfl ?_ | refine go_cond rfl (fun h => ?_) (fun h => ?_) | refine ⟨rfl, ?_⟩ | ((first | refine ⟨trivial, ?_⟩ | refine ⟨le_of_ble rfl, ?_⟩) <;> conv => whnf) | fail
  all_goals first
    | exact ret_imm rfl rfl rfl rfl rfl rfl
    | (exfalso; simp at h; done)
    | (exfalso; simp at h; omega)
    | (exfalso; have h' := of_decide_eq_false h; omega)
    | (exfalso; have h' := of_decide_eq_true h; omega)
    | (exfalso; rename_i hq; have h' := of_decide_eq_true hq; omega)
    | (exfalso; rename_i hq; have h' := of_decide_eq_false hq; omega)
    | (exfalso; rename_i hq _; have h' := of_decide_eq_true hq; omega)
    | (exfalso; rename_i hq _; have h' := of_decide_eq_false hq; omega)
    | trace_state
end Go.Proofs.Ytiedooadnafghaa

