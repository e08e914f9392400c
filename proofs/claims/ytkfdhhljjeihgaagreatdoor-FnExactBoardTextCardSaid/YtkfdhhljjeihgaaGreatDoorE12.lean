/- The walks of boards of departures: the reference; the law of BoardRows, walked. -/
import Derived.Test.YtkfdhhljjeihgaaGreatDoorE11
namespace Go.Proofs.YtkfdhhljjeihgaaGreatDoor
open Go Go.Am
set_option maxRecDepth 100000
set_option maxHeartbeats 4000000
attribute [local irreducible] amOps amC opCall opIndexAddr opPick retQ opMake opStore amDraw opAppend opLoad opNilCmp opIndex opSlice

theorem c31 (a b : Int) : CallOk Tryz.prog 31 [.imm (.int .i64 a), .imm (.int .i64 b)] { res := [.imm (.int .i64 (if a < b then a else b))] } := by
  refine callOk_of tyOk Tryz.func31 rfl rfl (le_of_ble rfl) (le_of_ble rfl) (mutOk_imm rfl _) ?_
  repeat' first | refine go_seq ?_ | refine go_region ?_ | ((first | refine go_op rfl ?_ | refine go_nil ?_) <;> conv => whnf) | ((first | refine ⟨by kernel_rfl, ?_⟩ | refine go_ret ?_) <;> conv => whnf) | ((first | refine go_skip ?_) <;> conv => whnf) | refine go_true rfl ?_ | refine go_false rfl ?_ | refine go_cond rfl (fun h => ?_) (fun h => ?_) | refine ⟨rfl, ?_⟩ | ((first | refine ⟨trivial, ?_⟩ | refine ⟨le_of_ble rfl, ?_⟩) <;> conv => whnf) | fail
  all_goals first
    | (refine ret_imm rfl rfl rfl rfl ?_ rfl; rw [if_pos (by simpa using h)]; done)
    | (refine ret_imm rfl rfl rfl rfl ?_ rfl; rw [if_neg (by simpa using h)]; done)

def rowEnc (t : Timetable) (d : Dep) : List D := (rowOf t d).enc
theorem rowEnc_map (t : Timetable) (l : List Dep) : (l.map (rowOf t)).map BoardRow.enc = l.map (rowEnc t) := by
  rw [List.map_map]
  rfl
theorem rowEnc_one (t : Timetable) (l : List Dep) : ∀ r ∈ l.map (rowEnc t), r.all D.one = true := by
  intro r hr
  obtain ⟨d, _, rfl⟩ := List.mem_map.1 hr
  rfl
theorem rowEnc_gr (t : Timetable) (l : List Dep) : ∀ r ∈ l.map (rowEnc t), r.all D.gr = true := by
  intro r hr
  obtain ⟨d, _, rfl⟩ := List.mem_map.1 hr
  rfl
def sR (t : Timetable) (ds : List TripDelay) (stop now : Int) (i : Nat) : List Dep := sortL depLt ((depsN t ds stop i).filter (fun d => decide (now ≤ kw d)))
theorem sR_srt (t : Timetable) (ds : List TripDelay) (stop now : Int) (i : Nat) : Srt depLt (sR t ds stop now i) := sortL_srt depWeak _
theorem sR_none {t : Timetable} {i : Nat} {x : Trip} (ds : List TripDelay) (stop now : Int) (h : t.trips[i]? = some x) (hd : depOf t ds stop x = none) : sR t ds stop now (i + 1) = sR t ds stop now i := by
  unfold sR
  rw [depsN_next ds stop h, hd, List.append_nil]
theorem sR_late {t : Timetable} {i : Nat} {x : Trip} {d : Dep} (ds : List TripDelay) (stop now : Int) (h : t.trips[i]? = some x) (hd : depOf t ds stop x = some d) (hn : ¬ now ≤ kw d) : sR t ds stop now (i + 1) = sR t ds stop now i := by
  unfold sR
  rw [depsN_next ds stop h, hd, List.filter_append, List.filter_cons_of_neg (by simpa using hn), List.filter_nil, List.append_nil]
theorem sR_some {t : Timetable} {i : Nat} {x : Trip} {d : Dep} (ds : List TripDelay) (stop now : Int) (h : t.trips[i]? = some x) (hd : depOf t ds stop x = some d) (hn : now ≤ kw d) : sR t ds stop now (i + 1) = insL depLt (sR t ds stop now i) d := by
  unfold sR
  rw [depsN_next ds stop h, hd, List.filter_append, List.filter_cons_of_pos (by simpa using hn), List.filter_nil, sortL_next]
theorem sR_len (t : Timetable) (ds : List TripDelay) (stop now : Int) (i : Nat) : (sR t ds stop now i).length ≤ i := by
  unfold sR
  rw [sortL_len depWeak]
  have h1 := List.length_filter_le (fun d => decide (now ≤ kw d)) (depsN t ds stop i)
  have h2 := depsN_len t ds stop i
  omega
def sA (t : Timetable) (ds : List TripDelay) (stop now : Int) : List Dep := sortL depLt ((deps t ds stop).filter (fun d => decide (now ≤ kw d)))
theorem sR_all {t : Timetable} {i : Nat} (ds : List TripDelay) (stop now : Int) (h : t.trips.length ≤ i) : sR t ds stop now i = sA t ds stop now := by
  unfold sR sA
  rw [deps_all ds stop h]
theorem brR_eq (t : Timetable) (ds : List TripDelay) (stop now count : Int) : (brR t ds stop now count).map BoardRow.enc = ((sA t ds stop now).map (rowEnc t)).take count.toNat := by
  unfold brR sA brs
  rw [rowEnc_map, filter_sortL depWeak, List.map_take]

theorem dep_facts {t : Timetable} {ds : List TripDelay} {stop : Int} {i : Nat} {x : Trip} {l : Line} (hg : Good t i x l) {d : Dep} (hd : depOf t ds stop x = some d) : d.delay = delOf ds x.id ∧ d.trip = x ∧ 0 ≤ d.time := by
  have hd' := hd
  unfold depOf at hd'
  rw [hg.on.ln] at hd'
  simp only at hd'
  split at hd'
  · rename_i hgo
    injection hd' with hd'
    subst hd'
    refine ⟨rfl, rfl, ?_⟩
    simp only [goes, Bool.and_eq_true, decide_eq_true_eq] at hgo
    have := hg.rs
    have := hg.r5
    show 0 ≤ stopAt x l (plAt l stop).toNat
    rw [hg.at _ (by omega)]
    have := hg.bd (plAt l stop).toNat (by omega)
    have := (inR_iff _ _ _).1 hg.st
    omega
  · cases hd'

theorem c30 (t : Timetable) (hf : t.fit) (hok : ttOk t = true) (ds : List TripDelay) (hl : ds.length ≤ 1048576) (stop now : Int) :
    CallOk Tryz.prog 30 [.imm (.agg t.enc), .imm (.list (ds.map TripDelay.enc)), .imm (.int .i64 stop), .imm (.int .i64 now)] { res := [.arr 53 4 ((sA t ds stop now).map (rowEnc t))] } := by
  refine callOk_of tyOk Tryz.func30 rfl rfl (le_of_ble rfl) (le_of_ble rfl) (mutOk_imm rfl _) ?_
  have htl : (t.trips.map Trip.enc).length = t.trips.length := List.length_map _
  have hnt : t.trips.length ≤ 1048576 := hf.2.1
  repeat' first | refine go_seq ?_ | refine go_region ?_ | refine go_miss rfl rfl rfl ?_ | refine go_undef rfl rfl rfl ?_ | refine go_draw drawsOk ?_ | ((first | refine go_op rfl ?_ | refine go_nil ?_ | refine go_hit rfl rfl rfl ?_ | refine go_splitT rfl rfl rfl (fun h => ?_) (fun h => ?_) | refine go_splitF rfl rfl rfl (fun h => ?_) (fun h => ?_) | refine go_storeBox rfl rfl rfl rfl rfl rfl ?_ | refine go_dop rfl ?_ | refine go_dhit rfl rfl ?_ | refine go_dmiss rfl rfl ?_ | refine go_dundef rfl rfl ?_ | refine go_dend (by kernel_rfl) ?_ | refine go_pickT rfl ?_ | refine go_pickF rfl ?_ | refine go_pick rfl (fun h => ?_) (fun h => ?_)) <;> conv => whnf) | ((first | refine Or.inl ?_ | refine go_dsplit2 rfl (fun h => ?_) (fun h => ?_) | refine go_loadB ?_ | refine ⟨by kernel_rfl, ?_⟩ | refine go_ret ?_) <;> conv => whnf) | refine go_block ?_ | ((first | refine go_skip ?_ | refine go_exit ?_) <;> conv => whnf) | refine go_true rfl ?_ | refine go_false rfl ?_ | refine go_cond rfl (fun h => ?_) (fun h => ?_) | refine ⟨rfl, ?_⟩ | ((first | refine ⟨trivial, ?_⟩ | refine ⟨le_of_ble rfl, ?_⟩) <;> conv => whnf) | fail
  refine go_loop (α := Nat) (fun i => i ≤ t.trips.length) (fun i => t.trips.length - i)
    (fun i => st Tryz.f30.ntmps [(1, .imm (.list (ds.map TripDelay.enc))), (2, .imm (.int .i64 stop)), (3, .imm (.int .i64 now)), (4, .box 1000 0), (9, .own 1001 0 (sR t ds stop now i).length), (10, .imm (.int .i64 (i : Nat)))]
      [(1000, .box 39 (t.enc.map .imm)), (1001, .arr 53 4 ((sR t ds stop now i).map (rowEnc t)))] []) 0 (Nat.zero_le _) ?_ ?_
  · exact ref_st (fun y => if y = 1000 then nid 1 4 else nid 2 16) rfl ⟨rfl, rfl, rfl, ⟨rfl, rfl⟩, ⟨rfl, rfl⟩, rfl, trivial⟩ ⟨⟨rfl, wavs_imm _⟩, rfl, trivial⟩ (by simp [nid]) rfl (by simp)
  intro i hi
  cases hx : t.trips[i]? with
  | none =>
    have hge := le_of_at hx
    rw [sR_all ds stop now hge]
    have hsl : ((sA t ds stop now).map (rowEnc t)).length = (sA t ds stop now).length := List.length_map _
    repeat' first | refine go_seq ?_ | refine go_region ?_ | refine go_miss rfl rfl rfl ?_ | refine go_undef rfl rfl rfl ?_ | refine go_draw drawsOk ?_ | ((first | refine go_op rfl ?_ | refine go_nil ?_ | refine go_hit rfl rfl rfl ?_ | refine go_splitT rfl rfl rfl (fun h => ?_) (fun h => ?_) | refine go_splitF rfl rfl rfl (fun h => ?_) (fun h => ?_) | refine go_storeBox rfl rfl rfl rfl rfl rfl ?_ | refine go_dop rfl ?_ | refine go_dhit rfl rfl ?_ | refine go_dmiss rfl rfl ?_ | refine go_dundef rfl rfl ?_ | refine go_dend (by kernel_rfl) ?_ | refine go_pickT rfl ?_ | refine go_pickF rfl ?_ | refine go_pick rfl (fun h => ?_) (fun h => ?_)) <;> conv => whnf) | ((first | refine Or.inl ?_ | refine go_dsplit2 rfl (fun h => ?_) (fun h => ?_) | refine go_loadB ?_ | refine ⟨by kernel_rfl, ?_⟩ | refine go_ret ?_) <;> conv => whnf) | refine go_block ?_ | ((first | refine go_skip ?_ | refine go_exit ?_) <;> conv => whnf) | refine go_true rfl ?_ | refine go_false rfl ?_ | refine go_cond rfl (fun h => ?_) (fun h => ?_) | refine ⟨rfl, ?_⟩ | ((first | refine ⟨trivial, ?_⟩ | refine ⟨le_of_ble rfl, ?_⟩) <;> conv => whnf) | fail
    all_goals first
      | exact ret_arr rfl rfl rfl rfl rfl (by rw [List.drop_zero, ← hsl, List.take_length]) (rowEnc_gr t _)
      | (exfalso; have h' := of_decide_eq_false h; omega)
      | (exfalso; have h' := of_decide_eq_true h; omega)
      | (exfalso; rename_i hq; have h' := of_decide_eq_true hq; omega)
      | (exfalso; rename_i hq; have h' := of_decide_eq_false hq; omega)
      | (exfalso; rename_i hq _; have h' := of_decide_eq_true hq; omega)
      | (exfalso; rename_i hq _; have h' := of_decide_eq_false hq; omega)
      | trace_state
  | some x =>
    have hlt := lt_of_at hx
    have hr2 := row_at Trip.enc hx
    obtain ⟨l, hg⟩ := good_of hok hx
    have hc1 := c50 t ds hg hf stop
    have hc2 := c51 ds x.id hl
    cases hd : depOf t ds stop x with
    | none =>
      rw [hd] at hc1
      change CallOk _ _ _ { res := [.imm (.int .i64 (-1))] } at hc1
      have hnx := sR_none ds stop now hx hd
      repeat' first | refine go_seq ?_ | refine go_region ?_ | refine go_miss rfl rfl rfl ?_ | refine go_undef rfl rfl rfl ?_ | refine go_draw drawsOk ?_ | ((first | refine go_op rfl ?_ | refine go_nil ?_ | refine go_hit rfl rfl rfl ?_ | refine go_splitT rfl rfl rfl (fun h => ?_) (fun h => ?_) | refine go_splitF rfl rfl rfl (fun h => ?_) (fun h => ?_) | refine go_storeBox rfl rfl rfl rfl rfl rfl ?_ | refine go_dop rfl ?_ | refine go_dhit rfl rfl ?_ | refine go_dmiss rfl rfl ?_ | refine go_dundef rfl rfl ?_ | refine go_dend (by kernel_rfl) ?_ | refine go_pickT rfl ?_ | refine go_pickF rfl ?_ | refine go_pick rfl (fun h => ?_) (fun h => ?_) | refine go_call [] (hc1) rfl rfl rfl rfl ?_ | refine go_call [] (hc2) rfl rfl rfl rfl ?_ | refine go_idx rfl rfl rfl rfl (by omega) hr2 rfl ?_) <;> conv => whnf) | ((first | refine Or.inl ?_ | refine go_dsplit2 rfl (fun h => ?_) (fun h => ?_) | refine go_loadB ?_ | refine ⟨by kernel_rfl, ?_⟩ | refine go_ret ?_) <;> conv => whnf) | refine go_block ?_ | ((first | refine go_skip ?_ | refine go_exit ?_) <;> conv => whnf) | refine go_true rfl ?_ | refine go_false rfl ?_ | refine go_cond rfl (fun h => ?_) (fun h => ?_) | refine ⟨rfl, ?_⟩ | ((first | refine ⟨trivial, ?_⟩ | refine ⟨le_of_ble rfl, ?_⟩) <;> conv => whnf) | fail
      all_goals first
        | (refine go_next (i + 1) (by omega) (by omega) (ref_st id rfl ⟨rfl, rfl, rfl, ⟨rfl, rfl⟩, ⟨?_, rfl⟩, next_i (by omega), trivial⟩ ⟨⟨rfl, wavs_imm _⟩, ?_, trivial⟩ (by simp) rfl (by simp))
           · show AV.own _ _ _ = AV.own _ _ _
             rw [hnx]; try rfl
           · show some _ = some _
             rw [hnx]; try rfl
           done)
        | (exfalso; have h' := of_decide_eq_false h; omega)
        | (exfalso; have h' := of_decide_eq_true h; omega)
        | (exfalso; rename_i hq; have h' := of_decide_eq_true hq; omega)
        | (exfalso; rename_i hq; have h' := of_decide_eq_false hq; omega)
        | (exfalso; rename_i hq _; have h' := of_decide_eq_true hq; omega)
        | (exfalso; rename_i hq _; have h' := of_decide_eq_false hq; omega)
        | trace_state
    | some d =>
      obtain ⟨hd2, hd3, hd4⟩ := dep_facts hg hd
      rw [hd] at hc1
      change CallOk _ _ _ { res := [.imm (.int .i64 d.time)] } at hc1
      rw [← hd2] at hc2
      by_cases hn : now ≤ kw d
      case neg =>
        have hnx := sR_late ds stop now hx hd hn
        unfold kw at hn
        repeat' first | refine go_seq ?_ | refine go_region ?_ | refine go_miss rfl rfl rfl ?_ | refine go_undef rfl rfl rfl ?_ | refine go_draw drawsOk ?_ | ((first | refine go_op rfl ?_ | refine go_nil ?_ | refine go_hit rfl rfl rfl ?_ | refine go_splitT rfl rfl rfl (fun h => ?_) (fun h => ?_) | refine go_splitF rfl rfl rfl (fun h => ?_) (fun h => ?_) | refine go_storeBox rfl rfl rfl rfl rfl rfl ?_ | refine go_dop rfl ?_ | refine go_dhit rfl rfl ?_ | refine go_dmiss rfl rfl ?_ | refine go_dundef rfl rfl ?_ | refine go_dend (by kernel_rfl) ?_ | refine go_pickT rfl ?_ | refine go_pickF rfl ?_ | refine go_pick rfl (fun h => ?_) (fun h => ?_) | refine go_call [] (hc1) rfl rfl rfl rfl ?_ | refine go_call [] (hc2) rfl rfl rfl rfl ?_ | refine go_idx rfl rfl rfl rfl (by omega) hr2 rfl ?_) <;> conv => whnf) | ((first | refine Or.inl ?_ | refine go_dsplit2 rfl (fun h => ?_) (fun h => ?_) | refine go_loadB ?_ | refine ⟨by kernel_rfl, ?_⟩ | refine go_ret ?_) <;> conv => whnf) | refine go_block ?_ | ((first | refine go_skip ?_ | refine go_exit ?_) <;> conv => whnf) | refine go_true rfl ?_ | refine go_false rfl ?_ | refine go_cond rfl (fun h => ?_) (fun h => ?_) | refine ⟨rfl, ?_⟩ | ((first | refine ⟨trivial, ?_⟩ | refine ⟨le_of_ble rfl, ?_⟩) <;> conv => whnf) | fail
        all_goals first
          | (refine go_next (i + 1) (by omega) (by omega) (ref_st id rfl ⟨rfl, rfl, rfl, ⟨rfl, rfl⟩, ⟨?_, rfl⟩, next_i (by omega), trivial⟩ ⟨⟨rfl, wavs_imm _⟩, ?_, trivial⟩ (by simp) rfl (by simp))
             · show AV.own _ _ _ = AV.own _ _ _
               rw [hnx]; try rfl
             · show some _ = some _
               rw [hnx]; try rfl
             done)
          | (exfalso; have h' := of_decide_eq_false h; omega)
          | (exfalso; have h' := of_decide_eq_true h; omega)
          | (exfalso; rename_i hq; have h' := of_decide_eq_true hq; omega)
          | (exfalso; rename_i hq; have h' := of_decide_eq_false hq; omega)
          | (exfalso; rename_i hq _; have h' := of_decide_eq_true hq; omega)
          | (exfalso; rename_i hq _; have h' := of_decide_eq_false hq; omega)
          | (exfalso; rename_i hq; have h2 := of_decide_eq_false hq; omega)
          | trace_state
      have hnx := sR_some ds stop now hx hd hn
      have hsr := sR_srt t ds stop now i
      have hsn := sR_len t ds stop now i
      unfold kw at hn
      obtain ⟨s1, s2, s3, s4⟩ := lastS_in hok hg.on.ln
      have hsl : (l.stops.map intRow).length = l.stops.length := List.length_map _
      have e1 : IntKind.i64.wrap (((l.stops.map intRow).length : Int) - 1) = ((l.stops.length - 1 : Nat) : Int) := by rw [hsl, wrap_small (by omega) (by omega)]; omega
      have h00 : 0 ≤ IntKind.i64.wrap (((l.stops.map intRow).length : Int) - 1) := by rw [e1]; omega
      have hrow : (l.stops.map intRow)[(IntKind.i64.wrap (((l.stops.map intRow).length : Int) - 1)).toNat]? = some (intRow (lastS l)) := by rw [e1]; exact lastS_at (by omega)
      have hst : (t.net.stops.map strRow)[(lastS l).toNat]? = some (strRow (t.net.stops.getD (lastS l).toNat .empty)) := by
        rw [List.getElem?_map, List.getD_eq_getElem?_getD, List.getElem?_eq_getElem (by omega)]
        rfl
      have hrw : rowOf t d = ⟨d.time, d.delay, l.name, t.net.stops.getD (lastS l).toNat .empty⟩ := by unfold rowOf lineNm destNm; rw [hd3, hg.on.ln]
      have hc3 := c52 hg.on
      have hc4 := c53 hg.on
      generalize hsd : sR t ds stop now i = s at *
      have hsm : (s.map (rowEnc t)).length = s.length := List.length_map _
      repeat' first | refine go_seq ?_ | refine go_region ?_ | refine go_miss rfl rfl rfl ?_ | refine go_undef rfl rfl rfl ?_ | refine go_draw drawsOk ?_ | ((first | refine go_op rfl ?_ | refine go_nil ?_ | refine go_hit rfl rfl rfl ?_ | refine go_splitT rfl rfl rfl (fun h => ?_) (fun h => ?_) | refine go_splitF rfl rfl rfl (fun h => ?_) (fun h => ?_) | refine go_storeBox rfl rfl rfl rfl rfl rfl ?_ | refine go_dop rfl ?_ | refine go_dhit rfl rfl ?_ | refine go_dmiss rfl rfl ?_ | refine go_dundef rfl rfl ?_ | refine go_dend (by kernel_rfl) ?_ | refine go_pickT rfl ?_ | refine go_pickF rfl ?_ | refine go_pick rfl (fun h => ?_) (fun h => ?_) | refine go_call [] (hc1) rfl rfl rfl rfl ?_ | refine go_call [] (hc2) rfl rfl rfl rfl ?_ | refine go_call [] (hc3) rfl rfl rfl rfl ?_ | refine go_call [] (hc4) rfl rfl rfl rfl ?_ | refine go_idx rfl rfl rfl rfl (by omega) hr2 rfl ?_ | refine go_idx rfl rfl rfl rfl h00 hrow rfl ?_ | refine go_idx rfl rfl rfl rfl s3 hst rfl ?_) <;> conv => whnf) | ((first | refine Or.inl ?_ | refine go_dsplit2 rfl (fun h => ?_) (fun h => ?_) | refine go_loadB ?_ | refine ⟨by kernel_rfl, ?_⟩ | refine go_ret ?_) <;> conv => whnf) | refine go_block ?_ | ((first | refine go_skip ?_ | refine go_exit ?_) <;> conv => whnf) | refine go_true rfl ?_ | refine go_false rfl ?_ | refine go_cond rfl (fun h => ?_) (fun h => ?_) | refine ⟨rfl, ?_⟩ | ((first | refine ⟨trivial, ?_⟩ | refine ⟨le_of_ble rfl, ?_⟩) <;> conv => whnf) | fail
      all_goals try first
        | (exfalso; have h' := of_decide_eq_false h; omega)
        | (exfalso; have h' := of_decide_eq_true h; omega)
        | (exfalso; rename_i hq; have h' := of_decide_eq_true hq; omega)
        | (exfalso; rename_i hq; have h' := of_decide_eq_false hq; omega)
        | (exfalso; rename_i hq _; have h' := of_decide_eq_true hq; omega)
        | (exfalso; rename_i hq _; have h' := of_decide_eq_false hq; omega)
        | (exfalso; have h' := of_decide_eq_true h; omega)
        | (exfalso; rename_i hq; have h' := of_decide_eq_true hq; omega)
      refine go_loop (α := Nat) (fun k => k ≤ s.length ∧ ∀ y ∈ s.drop k, depLt d y = true) (fun k => k)
        (fun k => st Tryz.f30.ntmps [(1, .imm (.list (ds.map TripDelay.enc))), (2, .imm (.int .i64 stop)), (3, .imm (.int .i64 now)), (4, .box 1000 0), (9, .own 1001 0 s.length), (10, .imm (.int .i64 (i : Nat))), (11, .imm (.int .i64 d.time)), (12, .imm (.int .i64 d.delay)), (14, .box 1002 0), (15, .imm (.int .i64 (k : Nat)))]
          [(1000, .box 39 (t.enc.map .imm)), (1001, .arr 53 4 (s.map (rowEnc t))), (1002, .box 53 ((BoardRow.enc ⟨d.time, d.delay, l.name, t.net.stops.getD (lastS l).toNat .empty⟩).map .imm))] []) s.length ⟨Nat.le_refl _, by simp⟩ ?_ ?_
      · exact ref_st (fun y => if y = 1002 then nid 7 14 else y) rfl ⟨rfl, rfl, rfl, ⟨rfl, rfl⟩, ⟨rfl, rfl⟩, rfl, rfl, rfl, ⟨rfl, rfl⟩, rfl, trivial⟩ ⟨⟨rfl, wavs_imm _⟩, rfl, ⟨rfl, wavs_imm _⟩, trivial⟩ (by simp [nid]) rfl (by simp)
      rintro k ⟨hk, hdr⟩
      have hgo : (k = 0 ∨ ∃ y, s[k - 1]? = some y ∧ depLt d y = false) → s.take k ++ [d] ++ s.drop k = sR t ds stop now (i + 1) := fun h => by rw [hnx]; exact insL_at depWeak hsr hdr h
      have hlen' : (s.take k ++ [d] ++ s.drop k).length = s.length + 1 := by simp; omega
      have rr1 : ((s.map (rowEnc t)).drop 0).take k = (s.take k).map (rowEnc t) := by rw [List.drop_zero, List.map_take]
      have rr2 : ((s.map (rowEnc t)).drop k).take (s.length - k) = (s.drop k).map (rowEnc t) := by rw [← List.map_drop, List.take_of_length_le (by simp)]
      have o1 := rowEnc_one t (s.take k)
      have o2 := rowEnc_one t (s.drop k)
      have o3 := boardRow_one [(⟨d.time, d.delay, l.name, t.net.stops.getD (lastS l).toNat .empty⟩ : BoardRow)]
      by_cases hk0 : k = 0
      · subst hk0
        have hF1 : 0 + 0 ≤ (s.map (rowEnc t)).length := by omega
        have hF2 : 0 + (s.length - 0) ≤ (s.map (rowEnc t)).length := by omega
        have hB1 : 0 + 0 ≤ 1073741824 := by omega
        have hB2 : 0 + 0 + 1 ≤ 1073741824 := by omega
        have hB3 : 0 + 0 + 1 + (s.length - 0) ≤ 1073741824 := by omega
        have hL1 : 0 + 0 = (List.replicate 0 ty53.zero ++ (s.take 0).map (rowEnc t)).length := by simp
        have hL2 : 0 + 0 + 1 = (List.replicate 0 ty53.zero ++ (s.take 0).map (rowEnc t) ++ [(⟨d.time, d.delay, l.name, t.net.stops.getD (lastS l).toNat .empty⟩ : BoardRow)].map BoardRow.enc).length := by simp
        repeat' first | refine go_seq ?_ | refine go_region ?_ | refine go_miss rfl rfl rfl ?_ | refine go_undef rfl rfl rfl ?_ | refine go_draw drawsOk ?_ | ((first | refine go_op rfl ?_ | refine go_nil ?_ | refine go_hit rfl rfl rfl ?_ | refine go_splitT rfl rfl rfl (fun h => ?_) (fun h => ?_) | refine go_splitF rfl rfl rfl (fun h => ?_) (fun h => ?_) | refine go_storeBox rfl rfl rfl rfl rfl rfl ?_ | refine go_dop rfl ?_ | refine go_dhit rfl rfl ?_ | refine go_dmiss rfl rfl ?_ | refine go_dundef rfl rfl ?_ | refine go_dend (by kernel_rfl) ?_ | refine go_pickT rfl ?_ | refine go_pickF rfl ?_ | refine go_pick rfl (fun h => ?_) (fun h => ?_) | refine go_sliceTo (k := 0) (id := 1001) rfl rfl rfl rfl rfl rfl hk ?_ | refine go_sliceFrom (k := 0) (id := 1001) rfl rfl rfl rfl rfl rfl hk ?_ | refine go_appSl (off2 := 0) (rr := (s.take 0).map (rowEnc t)) rfl rfl rfl rfl rfl rfl rfl rfl rfl rfl rfl rfl hF1 rr1 o1 rfl rfl hB1 ?_ | refine go_append (rows2 := [(⟨d.time, d.delay, l.name, t.net.stops.getD (lastS l).toNat .empty⟩ : BoardRow)].map BoardRow.enc) rfl rfl rfl rfl rfl rfl rfl rfl rfl rfl rfl rfl o3 rfl hL1 rfl hB2 ?_ | refine go_appSl (off2 := 0) (rr := (s.drop 0).map (rowEnc t)) rfl rfl rfl rfl rfl rfl rfl rfl rfl rfl rfl rfl hF2 rr2 o2 rfl hL2 hB3 ?_) <;> conv => whnf) | ((first | refine Or.inl ?_ | refine go_dsplit2 rfl (fun h => ?_) (fun h => ?_) | refine go_loadB ?_ | refine ⟨by kernel_rfl, ?_⟩ | refine go_ret ?_) <;> conv => whnf) | refine go_block ?_ | ((first | refine go_skip ?_ | refine go_exit ?_) <;> conv => whnf) | refine go_true rfl ?_ | refine go_false rfl ?_ | refine go_cond rfl (fun h => ?_) (fun h => ?_) | refine ⟨rfl, ?_⟩ | ((first | refine ⟨trivial, ?_⟩ | refine ⟨le_of_ble rfl, ?_⟩) <;> conv => whnf) | fail
        all_goals first
          | (refine go_next (i + 1) (by omega) (by omega) (ref_st (fun y => if y = 1001 then nid 3 131 else y) rfl ⟨rfl, rfl, rfl, ⟨rfl, rfl⟩, ⟨?_, rfl⟩, next_i (by omega), trivial⟩ ⟨⟨rfl, wavs_imm _⟩, ?_, trivial⟩ (by simp [nid]) rfl (by simp))
             · show AV.own _ _ _ = AV.own _ _ _
               congr 1
               rw [← hgo (.inl rfl), hlen']
               omega
             · show some _ = some _
               rw [← hgo (.inl rfl), List.map_append, List.map_append]
               show _ = some (O.arr _ _ (_ ++ [(rowOf t d).enc] ++ _))
               rw [hrw]
               rfl
             done)
          | (exfalso; have h' := of_decide_eq_false h; omega)
          | (exfalso; have h' := of_decide_eq_true h; omega)
          | (exfalso; rename_i hq; have h' := of_decide_eq_true hq; omega)
          | (exfalso; rename_i hq; have h' := of_decide_eq_false hq; omega)
          | (exfalso; rename_i hq _; have h' := of_decide_eq_true hq; omega)
          | (exfalso; rename_i hq _; have h' := of_decide_eq_false hq; omega)
          | trace_state
      · obtain ⟨j, rfl⟩ : ∃ j, k = j + 1 := ⟨k - 1, by omega⟩
        obtain ⟨y, hy⟩ : ∃ y, s[j]? = some y := ⟨_, List.getElem?_eq_getElem (by omega)⟩
        have r0 : (s.map (rowEnc t))[j]? = some [.int .i64 y.time, .int .i64 y.delay, .str (lineNm t y), .str (destNm t y)] := by rw [List.getElem?_map, hy]; rfl
        have hF1 : 0 + (j + 1) ≤ (s.map (rowEnc t)).length := by omega
        have hF2 : j + 1 + (s.length - (j + 1)) ≤ (s.map (rowEnc t)).length := by omega
        have hB1 : 0 + (j + 1) ≤ 1073741824 := by omega
        have hB2 : 0 + (j + 1) + 1 ≤ 1073741824 := by omega
        have hB3 : 0 + (j + 1) + 1 + (s.length - (j + 1)) ≤ 1073741824 := by omega
        have hL1 : 0 + (j + 1) = (List.replicate 0 ty53.zero ++ (s.take (j + 1)).map (rowEnc t)).length := by simp; omega
        have hL2 : 0 + (j + 1) + 1 = (List.replicate 0 ty53.zero ++ (s.take (j + 1)).map (rowEnc t) ++ [(⟨d.time, d.delay, l.name, t.net.stops.getD (lastS l).toNat .empty⟩ : BoardRow)].map BoardRow.enc).length := by simp; omega
        have ej : IntKind.i64.wrap (((j + 1 : Nat) : Int) - 1) = (j : Nat) := by rw [wrap_small (by omega) (by omega)]; omega
        have hdj : s.drop j = y :: s.drop (j + 1) := by
          rw [List.drop_eq_getElem_cons (show j < s.length by omega)]
          congr 1
          exact (List.getElem?_eq_some_iff.1 hy).2
        have hit := depLt_iff d y
        have hif := depLt_not d y
        unfold kw at hit hif
        repeat' first | refine go_seq ?_ | refine go_region ?_ | refine go_miss rfl rfl rfl ?_ | refine go_undef rfl rfl rfl ?_ | refine go_draw drawsOk ?_ | ((first | refine go_op rfl ?_ | refine go_nil ?_ | refine go_hit rfl rfl rfl ?_ | refine go_splitT rfl rfl rfl (fun h => ?_) (fun h => ?_) | refine go_splitF rfl rfl rfl (fun h => ?_) (fun h => ?_) | refine go_storeBox rfl rfl rfl rfl rfl rfl ?_ | refine go_dop rfl ?_ | refine go_dhit rfl rfl ?_ | refine go_dmiss rfl rfl ?_ | refine go_dundef rfl rfl ?_ | refine go_dend (by kernel_rfl) ?_ | refine go_pickT rfl ?_ | refine go_pickF rfl ?_ | refine go_pick rfl (fun h => ?_) (fun h => ?_) | refine go_sliceTo (k := j + 1) (id := 1001) rfl rfl rfl rfl rfl rfl hk ?_ | refine go_sliceFrom (k := j + 1) (id := 1001) rfl rfl rfl rfl rfl rfl hk ?_ | refine go_appSl (off2 := 0) (rr := (s.take (j + 1)).map (rowEnc t)) rfl rfl rfl rfl rfl rfl rfl rfl rfl rfl rfl rfl hF1 rr1 o1 rfl rfl hB1 ?_ | refine go_append (rows2 := [(⟨d.time, d.delay, l.name, t.net.stops.getD (lastS l).toNat .empty⟩ : BoardRow)].map BoardRow.enc) rfl rfl rfl rfl rfl rfl rfl rfl rfl rfl rfl rfl o3 rfl hL1 rfl hB2 ?_ | refine go_appSl (off2 := j + 1) (rr := (s.drop (j + 1)).map (rowEnc t)) rfl rfl rfl rfl rfl rfl rfl rfl rfl rfl rfl rfl hF2 rr2 o2 rfl hL2 hB3 ?_ | refine go_idxOwnI (j := j) rfl rfl ej rfl rfl rfl rfl (show j < _ by omega) ?_ | refine go_loadEl (i := j) rfl rfl rfl r0 ?_) <;> conv => whnf) | ((first | refine Or.inl ?_ | refine go_dsplit2 rfl (fun h => ?_) (fun h => ?_) | refine go_loadB ?_ | refine ⟨by kernel_rfl, ?_⟩ | refine go_ret ?_) <;> conv => whnf) | refine go_block ?_ | ((first | refine go_skip ?_ | refine go_exit ?_) <;> conv => whnf) | refine go_true rfl ?_ | refine go_false rfl ?_ | refine go_cond rfl (fun h => ?_) (fun h => ?_) | refine ⟨rfl, ?_⟩ | ((first | refine ⟨trivial, ?_⟩ | refine ⟨le_of_ble rfl, ?_⟩) <;> conv => whnf) | fail
        all_goals first
          | (refine go_next j ⟨by omega, ?_⟩ (by omega) (ref_st id rfl ⟨rfl, rfl, rfl, ⟨rfl, rfl⟩, ⟨rfl, rfl⟩, rfl, rfl, rfl, ⟨rfl, rfl⟩, ?_, trivial⟩ ⟨⟨rfl, wavs_imm _⟩, rfl, ⟨rfl, wavs_imm _⟩, trivial⟩ (by simp) rfl (by simp))
             · intro z hz
               rw [hdj] at hz
               rcases List.mem_cons.1 hz with rfl | hz
               · rw [hit]
                 simp only [decide_eq_true_eq, decide_eq_false_iff_not] at *
                 omega
               · exact hdr z hz
             · show AV.imm (.int .i64 _) = AV.imm (.int .i64 _)
               rw [ej]
             done)
          | (have hno : depLt d y = false := by
               rw [hif]
               simp only [decide_eq_true_eq, decide_eq_false_iff_not] at *
               omega
             refine go_next (i + 1) (by omega) (by omega) (ref_st (fun y => if y = 1001 then nid 3 131 else y) rfl ⟨rfl, rfl, rfl, ⟨rfl, rfl⟩, ⟨?_, rfl⟩, next_i (by omega), trivial⟩ ⟨⟨rfl, wavs_imm _⟩, ?_, trivial⟩ (by simp [nid]) rfl (by simp))
             · show AV.own _ _ _ = AV.own _ _ _
               congr 1
               rw [← hgo (.inr ⟨y, hy, hno⟩), hlen']
               omega
             · show some _ = some _
               rw [← hgo (.inr ⟨y, hy, hno⟩), List.map_append, List.map_append]
               show _ = some (O.arr _ _ (_ ++ [(rowOf t d).enc] ++ _))
               rw [hrw]
               rfl
             done)
          | (exfalso; have h' := of_decide_eq_false h; omega)
          | (exfalso; have h' := of_decide_eq_true h; omega)
          | (exfalso; rename_i hq; have h' := of_decide_eq_true hq; omega)
          | (exfalso; rename_i hq; have h' := of_decide_eq_false hq; omega)
          | (exfalso; rename_i hq _; have h' := of_decide_eq_true hq; omega)
          | (exfalso; rename_i hq _; have h' := of_decide_eq_false hq; omega)
          | trace_state
end Go.Proofs.YtkfdhhljjeihgaaGreatDoor

