/- The walks of boards of departures. -/
import Derived.Test.YtkfdhhljjeihgaaGreatDoorE10
namespace Go.Proofs.YtkfdhhljjeihgaaGreatDoor
open Go Go.Am
set_option maxRecDepth 100000
set_option maxHeartbeats 4000000
attribute [local irreducible] amOps amC opCall opIndexAddr opPick retQ opMake opStore amDraw opAppend opLoad opNilCmp opIndex opSlice

theorem a58 (t : Timetable) (hf : t.fit) (hok : ttOk t = true) (ds : List TripDelay) (hl : ds.length ≤ 1048576) (stop : Int) :
    CallOk Tryz.prog 58 [.imm (.agg t.enc), .imm (.list (ds.map TripDelay.enc)), .imm (.int .i64 stop)] { res := [.arr 110 5 ((deps t ds stop).map Dep.enc)] } := by
  refine callOk_of tyOk Tryz.func58 rfl rfl (le_of_ble rfl) (le_of_ble rfl) (mutOk_imm rfl _) ?_
  have htl : (t.trips.map Trip.enc).length = t.trips.length := List.length_map _
  have hnt : t.trips.length ≤ 1048576 := hf.2.1
  repeat' first | refine go_seq ?_ | refine go_region ?_ | refine go_miss rfl rfl rfl ?_ | refine go_undef rfl rfl rfl ?_ | refine go_draw drawsOk ?_ | ((first | refine go_op rfl ?_ | refine go_nil ?_ | refine go_hit rfl rfl rfl ?_ | refine go_splitT rfl rfl rfl (fun h => ?_) (fun h => ?_) | refine go_splitF rfl rfl rfl (fun h => ?_) (fun h => ?_) | refine go_storeBox rfl rfl rfl rfl rfl rfl ?_ | refine go_dop rfl ?_ | refine go_dhit rfl rfl ?_ | refine go_dmiss rfl rfl ?_ | refine go_dundef rfl rfl ?_ | refine go_dend (by kernel_rfl) ?_ | refine go_pickT rfl ?_ | refine go_pickF rfl ?_ | refine go_pick rfl (fun h => ?_) (fun h => ?_)) <;> conv => whnf) | ((first | refine Or.inl ?_ | refine go_dsplit2 rfl (fun h => ?_) (fun h => ?_) | refine go_loadB ?_ | refine ⟨by kernel_rfl, ?_⟩ | refine go_ret ?_) <;> conv => whnf) | refine go_block ?_ | ((first | refine go_skip ?_ | refine go_exit ?_) <;> conv => whnf) | refine go_true rfl ?_ | refine go_false rfl ?_ | refine go_cond rfl (fun h => ?_) (fun h => ?_) | refine ⟨rfl, ?_⟩ | ((first | refine ⟨trivial, ?_⟩ | refine ⟨le_of_ble rfl, ?_⟩) <;> conv => whnf) | fail
  refine go_loop (α := Nat) (fun i => i ≤ t.trips.length) (fun i => t.trips.length - i)
    (fun i => st Tryz.f58.ntmps [(1, .imm (.list (ds.map TripDelay.enc))), (2, .imm (.int .i64 stop)), (3, .box 1000 0), (7, .own 1001 0 ((depsN t ds stop i).map Dep.enc).length), (14, .imm (.list (t.trips.map Trip.enc))), (15, .imm (.int .i64 (t.trips.map Trip.enc).length)), (16, .imm (.int .i64 (i : Nat)))]
      [(1000, .box 39 (t.enc.map .imm)), (1001, .arr 110 5 ((depsN t ds stop i).map Dep.enc))] []) 0 (Nat.zero_le _) ?_ ?_
  · exact ref_st (fun y => if y = 1000 then nid 1 3 else nid 2 7) rfl ⟨rfl, rfl, ⟨rfl, rfl⟩, ⟨rfl, rfl⟩, rfl, rfl, rfl, trivial⟩ ⟨⟨rfl, wavs_imm _⟩, rfl, trivial⟩ (by simp [nid]) rfl (by simp)
  intro i hi
  cases hx : t.trips[i]? with
  | none =>
    have hge := le_of_at hx
    rw [deps_all ds stop hge]
    repeat' first | refine go_seq ?_ | refine go_region ?_ | refine go_miss rfl rfl rfl ?_ | refine go_undef rfl rfl rfl ?_ | refine go_draw drawsOk ?_ | ((first | refine go_op rfl ?_ | refine go_nil ?_ | refine go_hit rfl rfl rfl ?_ | refine go_splitT rfl rfl rfl (fun h => ?_) (fun h => ?_) | refine go_splitF rfl rfl rfl (fun h => ?_) (fun h => ?_) | refine go_storeBox rfl rfl rfl rfl rfl rfl ?_ | refine go_dop rfl ?_ | refine go_dhit rfl rfl ?_ | refine go_dmiss rfl rfl ?_ | refine go_dundef rfl rfl ?_ | refine go_dend (by kernel_rfl) ?_ | refine go_pickT rfl ?_ | refine go_pickF rfl ?_ | refine go_pick rfl (fun h => ?_) (fun h => ?_)) <;> conv => whnf) | ((first | refine Or.inl ?_ | refine go_dsplit2 rfl (fun h => ?_) (fun h => ?_) | refine go_loadB ?_ | refine ⟨by kernel_rfl, ?_⟩ | refine go_ret ?_) <;> conv => whnf) | refine go_block ?_ | ((first | refine go_skip ?_ | refine go_exit ?_) <;> conv => whnf) | refine go_true rfl ?_ | refine go_false rfl ?_ | refine go_cond rfl (fun h => ?_) (fun h => ?_) | refine ⟨rfl, ?_⟩ | ((first | refine ⟨trivial, ?_⟩ | refine ⟨le_of_ble rfl, ?_⟩) <;> conv => whnf) | fail
    all_goals try first
      | (exfalso; have h' := of_decide_eq_false h; omega)
      | (exfalso; have h' := of_decide_eq_true h; omega)
      | (exfalso; rename_i hq; have h' := of_decide_eq_true hq; omega)
      | (exfalso; rename_i hq; have h' := of_decide_eq_false hq; omega)
      | (exfalso; rename_i hq _; have h' := of_decide_eq_true hq; omega)
      | (exfalso; rename_i hq _; have h' := of_decide_eq_false hq; omega)
    · exact ret_arr rfl rfl rfl rfl rfl (by rw [List.drop_zero, List.take_length]) (dep_gr _)
  | some x =>
    have hlt := lt_of_at hx
    have hr := row_at Trip.enc hx
    obtain ⟨l, hg⟩ := good_of hok hx
    have hlf := hf.1.2.2.2 l (List.mem_of_getElem? hg.on.ln)
    have hsl : (l.stops.map intRow).length = l.stops.length := List.length_map _
    have hol := depsN_len t ds stop i
    have hb : ((depsN t ds stop i).map Dep.enc).length + 1 ≤ 1073741824 := by rw [List.length_map]; omega
    have hnx := depsN_next ds stop hx
    have hd : depOf t ds stop x = if goes l stop then some ⟨x, stopAt x l (plAt l stop).toNat, delOf ds x.id⟩ else none := by unfold depOf; rw [hg.on.ln]
    have hc1 := c63 t x l hg.on.lo hg.on.ln
    have hc2 := c79 t x l hg.on.lo hg.on.ln hg.st hlf.2.2
    have hc3 := c80 l.stops stop hlf.2.1
    have hc4 := c81 ds x.id hl
    have hrs := hg.rs
    have hr5 := hg.r5
    have hw1 : IntKind.i64.wrap ((l.stops.length : Int) - 1) = (l.stops.length : Int) - 1 := wrap_small (by omega) (by omega)
    have hw : IntKind.i64.wrap (((l.stops.map intRow).length : Int) - 1) = (l.stops.length : Int) - 1 := by rw [hsl]; exact hw1
    change CallOk _ _ _ { res := [.imm (.int .i64 (plAt l stop))] } at hc3
    cases hgo : goes l stop with
    | true =>
      rw [hgo, if_pos rfl] at hd
      rw [hd] at hnx
      change _ = _ ++ [_] at hnx
      have hgo' := hgo
      unfold goes at hgo'
      simp only [Bool.and_eq_true, decide_eq_true_eq] at hgo'
      have hrow : ((stopsT x l (l.runs.length + 1)).map intRow)[(plAt l stop).toNat]? = some (intRow (stopAt x l (plAt l stop).toNat)) := stopsT_at (by omega)
      have hone := dep_one [⟨x, stopAt x l (plAt l stop).toNat, delOf ds x.id⟩]
      repeat' first | refine go_seq ?_ | refine go_region ?_ | refine go_miss rfl rfl rfl ?_ | refine go_undef rfl rfl rfl ?_ | refine go_draw drawsOk ?_ | ((first | refine go_op rfl ?_ | refine go_nil ?_ | refine go_hit rfl rfl rfl ?_ | refine go_splitT rfl rfl rfl (fun h => ?_) (fun h => ?_) | refine go_splitF rfl rfl rfl (fun h => ?_) (fun h => ?_) | refine go_storeBox rfl rfl rfl rfl rfl rfl ?_ | refine go_dop rfl ?_ | refine go_dhit rfl rfl ?_ | refine go_dmiss rfl rfl ?_ | refine go_dundef rfl rfl ?_ | refine go_dend (by kernel_rfl) ?_ | refine go_pickT rfl ?_ | refine go_pickF rfl ?_ | refine go_pick rfl (fun h => ?_) (fun h => ?_) | refine go_call [] (hc1) rfl rfl rfl rfl ?_ | refine go_call [] (hc2) rfl rfl rfl rfl ?_ | refine go_call [] (hc3) rfl rfl rfl rfl ?_ | refine go_call [] (hc4) rfl rfl rfl rfl ?_ | refine go_idx rfl rfl rfl rfl (by omega) hr rfl ?_ | refine go_idx rfl rfl rfl rfl hgo'.1 hrow rfl ?_ | refine go_append (rows2 := [(⟨x, stopAt x l (plAt l stop).toNat, delOf ds x.id⟩ : Dep)].map Dep.enc) rfl rfl rfl rfl rfl rfl rfl rfl rfl rfl rfl rfl hone rfl rfl rfl hb ?_) <;> conv => whnf) | ((first | refine Or.inl ?_ | refine go_dsplit2 rfl (fun h => ?_) (fun h => ?_) | refine go_loadB ?_ | refine ⟨by kernel_rfl, ?_⟩ | refine go_ret ?_) <;> conv => whnf) | refine go_block ?_ | ((first | refine go_skip ?_ | refine go_exit ?_) <;> conv => whnf) | refine go_true rfl ?_ | refine go_false rfl ?_ | refine go_cond rfl (fun h => ?_) (fun h => ?_) | refine ⟨rfl, ?_⟩ | ((first | refine ⟨trivial, ?_⟩ | refine ⟨le_of_ble rfl, ?_⟩) <;> conv => whnf) | fail
      all_goals first
        | (refine go_next (i + 1) (by omega) (by omega) (ref_st (fun y => if y = 1001 then nid 7 51 else y) rfl ⟨rfl, rfl, ⟨rfl, rfl⟩, ⟨?_, rfl⟩, rfl, rfl, next_i (by omega), trivial⟩ ⟨⟨rfl, wavs_imm _⟩, ?_, trivial⟩ (by simp [nid]) rfl (by simp))
           · show AV.own _ _ _ = AV.own _ _ _
             rw [hnx, List.map_append, List.length_append]; try rfl
           · show some _ = some _
             rw [hnx, List.map_append]; try rfl
           done)
        | (exfalso; have h' := of_decide_eq_false h; omega)
        | (exfalso; have h' := of_decide_eq_true h; omega)
        | (exfalso; rename_i hq; have h' := of_decide_eq_true hq; omega)
        | (exfalso; rename_i hq; have h' := of_decide_eq_false hq; omega)
        | (exfalso; rename_i hq _; have h' := of_decide_eq_true hq; omega)
        | (exfalso; rename_i hq _; have h' := of_decide_eq_false hq; omega)
        | (exfalso; have h' := of_decide_eq_false h; rw [hw] at h'; omega)
        | trace_state
    | false =>
      rw [hgo, if_neg (by simp)] at hd
      rw [hd] at hnx
      change _ = _ ++ [] at hnx
      have hgo' := hgo
      unfold goes at hgo'
      simp only [Bool.and_eq_false_iff, decide_eq_false_iff_not] at hgo'
      repeat' first | refine go_seq ?_ | refine go_region ?_ | refine go_miss rfl rfl rfl ?_ | refine go_undef rfl rfl rfl ?_ | refine go_draw drawsOk ?_ | ((first | refine go_op rfl ?_ | refine go_nil ?_ | refine go_hit rfl rfl rfl ?_ | refine go_splitT rfl rfl rfl (fun h => ?_) (fun h => ?_) | refine go_splitF rfl rfl rfl (fun h => ?_) (fun h => ?_) | refine go_storeBox rfl rfl rfl rfl rfl rfl ?_ | refine go_dop rfl ?_ | refine go_dhit rfl rfl ?_ | refine go_dmiss rfl rfl ?_ | refine go_dundef rfl rfl ?_ | refine go_dend (by kernel_rfl) ?_ | refine go_pickT rfl ?_ | refine go_pickF rfl ?_ | refine go_pick rfl (fun h => ?_) (fun h => ?_) | refine go_call [] (hc1) rfl rfl rfl rfl ?_ | refine go_call [] (hc2) rfl rfl rfl rfl ?_ | refine go_call [] (hc3) rfl rfl rfl rfl ?_ | refine go_idx rfl rfl rfl rfl (by omega) hr rfl ?_) <;> conv => whnf) | ((first | refine Or.inl ?_ | refine go_dsplit2 rfl (fun h => ?_) (fun h => ?_) | refine go_loadB ?_ | refine ⟨by kernel_rfl, ?_⟩ | refine go_ret ?_) <;> conv => whnf) | refine go_block ?_ | ((first | refine go_skip ?_ | refine go_exit ?_) <;> conv => whnf) | refine go_true rfl ?_ | refine go_false rfl ?_ | refine go_cond rfl (fun h => ?_) (fun h => ?_) | refine ⟨rfl, ?_⟩ | ((first | refine ⟨trivial, ?_⟩ | refine ⟨le_of_ble rfl, ?_⟩) <;> conv => whnf) | fail
      all_goals first
        | (refine go_next (i + 1) (by omega) (by omega) (ref_st id rfl ⟨rfl, rfl, ⟨rfl, rfl⟩, ⟨?_, rfl⟩, rfl, rfl, next_i (by omega), trivial⟩ ⟨⟨rfl, wavs_imm _⟩, ?_, trivial⟩ (by simp) rfl (by simp))
           · show AV.own _ _ _ = AV.own _ _ _
             rw [hnx, List.append_nil]; try rfl
           · show some _ = some _
             rw [hnx, List.append_nil]; try rfl
           done)
        | (exfalso; have h' := of_decide_eq_false h; omega)
        | (exfalso; have h' := of_decide_eq_true h; omega)
        | (exfalso; rename_i hq; have h' := of_decide_eq_true hq; omega)
        | (exfalso; rename_i hq; have h' := of_decide_eq_false hq; omega)
        | (exfalso; rename_i hq _; have h' := of_decide_eq_true hq; omega)
        | (exfalso; rename_i hq _; have h' := of_decide_eq_false hq; omega)
        | (exfalso; rename_i hq; have h' := of_decide_eq_true h; rw [hw] at h'; have h2 := of_decide_eq_true hq; omega)
        | trace_state


theorem deps_le (t : Timetable) (ds : List TripDelay) (stop : Int) : (deps t ds stop).length ≤ t.trips.length := List.length_filterMap_le _ _
def lastS (l : Line) : Int := l.stops.getD (l.stops.length - 1) 0
theorem lastS_at {l : Line} (h : 0 < l.stops.length) : (l.stops.map intRow)[l.stops.length - 1]? = some (intRow (lastS l)) := by
  rw [List.getElem?_map, lastS, List.getD_eq_getElem?_getD, List.getElem?_eq_getElem (by omega)]
  rfl
theorem lastS_in {t : Timetable} (hok : ttOk t = true) {k : Nat} {l : Line} (hl : t.net.lines[k]? = some l) : 2 ≤ l.stops.length ∧ l.stops.length ≤ 6 ∧ 0 ≤ lastS l ∧ lastS l < t.net.stops.length := by
  have hn : netOk t.net = true := by unfold ttOk at hok; simp only [Bool.and_eq_true] at hok; exact hok.1
  unfold netOk at hn
  simp only [Bool.and_eq_true] at hn
  have h1 := List.all_eq_true.1 hn.2 l (List.mem_of_getElem? hl)
  unfold lineOk at h1
  simp only [Bool.and_eq_true, decide_eq_true_eq] at h1
  have hs := (inR_iff _ _ _).1 h1.1.1.1
  have hst := h1.1.2
  unfold stopsOk at hst
  have hx : l.stops[l.stops.length - 1]? = some (lastS l) := by
    rw [lastS, List.getD_eq_getElem?_getD, List.getElem?_eq_getElem (by omega)]
    rfl
  have h2 := (allI_iff.1 hst) _ _ hx
  simp only [Bool.and_eq_true] at h2
  have := (inR_iff _ _ _).1 h2.1
  exact ⟨by omega, by omega, by omega, by omega⟩

theorem c64 (t : Timetable) (x : Trip) (l : Line) (h0 : 0 ≤ x.line) (hl : t.net.lines[x.line.toNat]? = some l) (hp : 2 ≤ l.stops.length) (hm : l.stops.length ≤ 6) : CallOk Tryz.prog 64 [.imm (.agg t.enc), .imm (.agg x.enc)] { res := [.imm (.int .i64 (lastS l))] } := by
  refine callOk_of tyOk Tryz.func64 rfl rfl (le_of_ble rfl) (le_of_ble rfl) (mutOk_imm rfl _) ?_
  have hc1 := c63 t x l h0 hl
  have hsl : (l.stops.map intRow).length = l.stops.length := List.length_map _
  have e1 : IntKind.i64.wrap (((l.stops.map intRow).length : Int) - 1) = ((l.stops.length - 1 : Nat) : Int) := by rw [hsl, wrap_small (by omega) (by omega)]; omega
  have h00 : 0 ≤ IntKind.i64.wrap (((l.stops.map intRow).length : Int) - 1) := by rw [e1]; omega
  have hrow : (l.stops.map intRow)[(IntKind.i64.wrap (((l.stops.map intRow).length : Int) - 1)).toNat]? = some (intRow (lastS l)) := by rw [e1]; exact lastS_at (by omega)
  repeat' first | refine go_seq ?_ | refine go_region ?_ | ((first | refine go_op rfl ?_ | refine go_nil ?_ | refine go_call [] (hc1) rfl rfl rfl rfl ?_ | refine go_idx rfl rfl rfl rfl h00 hrow rfl ?_) <;> conv => whnf) | ((first | refine go_loadB ?_ | refine ⟨by kernel_rfl, ?_⟩ | refine go_ret ?_) <;> conv => whnf) | ((first | refine go_skip ?_) <;> conv => whnf) | refine ⟨rfl, ?_⟩ | ((first | refine ⟨trivial, ?_⟩ | refine ⟨le_of_ble rfl, ?_⟩) <;> conv => whnf) | fail
  all_goals exact ret_imm rfl rfl rfl rfl rfl rfl

def lineNm (t : Timetable) (d : Dep) : ByteArray := match t.net.lines[d.trip.line.toNat]? with | some l => l.name | none => .empty
def destNm (t : Timetable) (d : Dep) : ByteArray := match t.net.lines[d.trip.line.toNat]? with | some l => t.net.stops.getD (lastS l).toNat .empty | none => .empty
def rowOf (t : Timetable) (d : Dep) : BoardRow := ⟨d.time, d.delay, lineNm t d, destNm t d⟩
def brs (now count : Int) (l : List Dep) : List Dep := (l.filter (fun d => decide (now ≤ kw d))).take count.toNat
theorem brs_next {now count : Int} {l : List Dep} {j : Nat} {d : Dep} (h : l[j]? = some d) :
    brs now count (l.take (j + 1)) = brs now count (l.take j) ++ (if decide (now ≤ kw d) && decide (((brs now count (l.take j)).length : Int) < count) then [d] else []) := by
  unfold brs
  rw [List.take_add_one, h]
  simp only [Option.toList_some, List.filter_append]
  generalize (l.take j).filter (fun d => decide (now ≤ kw d)) = F
  by_cases hp : now ≤ kw d
  · rw [List.filter_cons_of_pos (by simpa using hp), List.filter_nil, List.take_append]
    congr 1
    by_cases hc : F.length < count.toNat
    · rw [if_pos (by simp only [Bool.and_eq_true, decide_eq_true_eq, List.length_take]; omega)]
      rw [List.take_of_length_le (by simp; omega)]
    · rw [if_neg (by simp only [Bool.and_eq_true, decide_eq_true_eq, List.length_take]; omega)]
      have : count.toNat - F.length = 0 := by omega
      rw [this]
      rfl
  · rw [List.filter_cons_of_neg (by simpa using hp), List.filter_nil, List.append_nil, if_neg (by simp [hp]), List.append_nil]
theorem brs_len (now count : Int) (l : List Dep) : (brs now count l).length ≤ l.length := by
  unfold brs
  rw [List.length_take]
  have := List.length_filter_le (fun d => decide (now ≤ kw d)) l
  omega

theorem deps_line {t : Timetable} (hok : ttOk t = true) {ds : List TripDelay} {stop : Int} {d : Dep} (h : d ∈ deps t ds stop) : ∃ l, 0 ≤ d.trip.line ∧ t.net.lines[d.trip.line.toNat]? = some l := by
  obtain ⟨x, hx, hd⟩ := List.mem_filterMap.1 h
  obtain ⟨i, hi⟩ := List.getElem?_of_mem hx
  obtain ⟨l, hg⟩ := good_of hok hi
  unfold depOf at hd
  rw [hg.on.ln] at hd
  simp only at hd
  split at hd
  · injection hd with hd
    subst hd
    exact ⟨l, hg.on.lo, hg.on.ln⟩
  · cases hd

def brR (t : Timetable) (ds : List TripDelay) (stop now count : Int) : List BoardRow := (brs now count (sortL depLt (deps t ds stop))).map (rowOf t)

theorem c41 (t : Timetable) (hf : t.fit) (hok : ttOk t = true) (ds : List TripDelay) (hl : ds.length ≤ 1048576) (stop now count : Int) :
    CallOk Tryz.prog 41 [.imm (.agg t.enc), .imm (.list (ds.map TripDelay.enc)), .imm (.int .i64 stop), .imm (.int .i64 now), .imm (.int .i64 count)] { res := [.arr 53 4 ((brR t ds stop now count).map BoardRow.enc)] } := by
  refine callOk_of tyOk Tryz.func41 rfl rfl (le_of_ble rfl) (le_of_ble rfl) (mutOk_imm rfl _) ?_
  have hdn : (deps t ds stop).length ≤ 12 := by
    have h1 := deps_le t ds stop
    have h2 : tripsOk t = true := by unfold ttOk at hok; simp only [Bool.and_eq_true] at hok; exact hok.2
    unfold tripsOk at h2
    simp only [Bool.and_eq_true, decide_eq_true_eq] at h2
    omega
  have hc0 := a58 t hf hok ds hl stop
  have hc1 := c59 (deps t ds stop) hdn
  have hmem : ∀ d ∈ sortL depLt (deps t ds stop), d ∈ deps t ds stop := fun d h => mem_sortL h
  have hsl : (sortL depLt (deps t ds stop)).length = (deps t ds stop).length := sortL_len depWeak _
  have hdl : ((deps t ds stop).map Dep.enc).length = (deps t ds stop).length := List.length_map _
  repeat' first | refine go_seq ?_ | refine go_region ?_ | refine go_miss rfl rfl rfl ?_ | refine go_undef rfl rfl rfl ?_ | refine go_draw drawsOk ?_ | ((first | refine go_op rfl ?_ | refine go_nil ?_ | refine go_hit rfl rfl rfl ?_ | refine go_splitT rfl rfl rfl (fun h => ?_) (fun h => ?_) | refine go_splitF rfl rfl rfl (fun h => ?_) (fun h => ?_) | refine go_storeBox rfl rfl rfl rfl rfl rfl ?_ | refine go_dop rfl ?_ | refine go_dhit rfl rfl ?_ | refine go_dmiss rfl rfl ?_ | refine go_dundef rfl rfl ?_ | refine go_dend (by kernel_rfl) ?_ | refine go_pickT rfl ?_ | refine go_pickF rfl ?_ | refine go_pick rfl (fun h => ?_) (fun h => ?_) | refine go_call [] (hc0) rfl rfl rfl rfl ?_ | refine go_call [2, 0] hc1 (argsIn_lent rfl rfl rfl) rfl rfl rfl ?_) <;> conv => whnf) | ((first | refine Or.inl ?_ | refine go_dsplit2 rfl (fun h => ?_) (fun h => ?_) | refine go_loadB ?_ | refine ⟨by kernel_rfl, ?_⟩ | refine go_ret ?_) <;> conv => whnf) | refine go_block ?_ | ((first | refine go_skip ?_ | refine go_exit ?_) <;> conv => whnf) | refine go_true rfl ?_ | refine go_false rfl ?_ | refine go_cond rfl (fun h => ?_) (fun h => ?_) | refine ⟨rfl, ?_⟩ | ((first | refine ⟨trivial, ?_⟩ | refine ⟨le_of_ble rfl, ?_⟩) <;> conv => whnf) | fail
  unfold brR
  generalize sortL depLt (deps t ds stop) = l at *
  refine go_loop (α := Nat) (fun i => i ≤ l.length) (fun i => l.length - i)
    (fun i => st Tryz.f41.ntmps [(3, .imm (.int .i64 now)), (4, .imm (.int .i64 count)), (5, .box 1000 0), (12, .own 1002 0 (((brs now count (l.take i)).map (rowOf t)).map BoardRow.enc).length), (21, .own 1001 0 ((deps t ds stop).map Dep.enc).length), (22, .imm (.int .i64 ((deps t ds stop).map Dep.enc).length)), (23, .imm (.int .i64 (i : Nat)))]
      [(1000, .box 39 (t.enc.map .imm)), (1001, .arr 110 5 (l.map Dep.enc)), (1002, .arr 53 4 (((brs now count (l.take i)).map (rowOf t)).map BoardRow.enc))] []) 0 (Nat.zero_le _) ?_ ?_
  · have h0 : brs now count (l.take 0) = [] := by simp [brs]
    refine ref_st (fun y => if y = 1000 then nid 1 5 else if y = 1001 then rid 2 18 0 else nid 4 12) rfl ⟨rfl, rfl, ⟨rfl, rfl⟩, ⟨?_, rfl⟩, ⟨rfl, rfl⟩, rfl, rfl, trivial⟩ ⟨⟨rfl, wavs_imm _⟩, rfl, ?_, trivial⟩ (by simp [nid, rid]) rfl (by simp)
    · show AV.own _ _ _ = AV.own _ _ _
      rw [h0]; rfl
    · show some _ = some _
      rw [h0]; rfl
  intro i hi
  cases hx : l[i]? with
  | none =>
    have hge := le_of_at hx
    rw [List.take_of_length_le hge]
    repeat' first | refine go_seq ?_ | refine go_region ?_ | refine go_miss rfl rfl rfl ?_ | refine go_undef rfl rfl rfl ?_ | refine go_draw drawsOk ?_ | ((first | refine go_op rfl ?_ | refine go_nil ?_ | refine go_hit rfl rfl rfl ?_ | refine go_splitT rfl rfl rfl (fun h => ?_) (fun h => ?_) | refine go_splitF rfl rfl rfl (fun h => ?_) (fun h => ?_) | refine go_storeBox rfl rfl rfl rfl rfl rfl ?_ | refine go_dop rfl ?_ | refine go_dhit rfl rfl ?_ | refine go_dmiss rfl rfl ?_ | refine go_dundef rfl rfl ?_ | refine go_dend (by kernel_rfl) ?_ | refine go_pickT rfl ?_ | refine go_pickF rfl ?_ | refine go_pick rfl (fun h => ?_) (fun h => ?_)) <;> conv => whnf) | ((first | refine Or.inl ?_ | refine go_dsplit2 rfl (fun h => ?_) (fun h => ?_) | refine go_loadB ?_ | refine ⟨by kernel_rfl, ?_⟩ | refine go_ret ?_) <;> conv => whnf) | refine go_block ?_ | ((first | refine go_skip ?_ | refine go_exit ?_) <;> conv => whnf) | refine go_true rfl ?_ | refine go_false rfl ?_ | refine go_cond rfl (fun h => ?_) (fun h => ?_) | refine ⟨rfl, ?_⟩ | ((first | refine ⟨trivial, ?_⟩ | refine ⟨le_of_ble rfl, ?_⟩) <;> conv => whnf) | fail
    all_goals try first
      | (exfalso; have h' := of_decide_eq_false h; omega)
      | (exfalso; have h' := of_decide_eq_true h; omega)
      | (exfalso; rename_i hq; have h' := of_decide_eq_true hq; omega)
      | (exfalso; rename_i hq; have h' := of_decide_eq_false hq; omega)
      | (exfalso; rename_i hq _; have h' := of_decide_eq_true hq; omega)
      | (exfalso; rename_i hq _; have h' := of_decide_eq_false hq; omega)
      | (exfalso; have h' := of_decide_eq_true h; omega)
    · exact ret_arr rfl rfl rfl rfl rfl (by rw [List.drop_zero, List.take_length]) (boardRow_gr _)
  | some d =>
    have hlt := lt_of_at hx
    have hr := row_at Dep.enc hx
    obtain ⟨q, hq0, hq⟩ := deps_line hok (hmem d (List.mem_of_getElem? hx))
    obtain ⟨s1, s2, s3, s4⟩ := lastS_in hok hq
    have hol := brs_len now count (l.take i)
    have hnx := brs_next (now := now) (count := count) hx
    have htk : (l.take i).length ≤ 12 := by rw [List.length_take]; omega
    have hml : ((((brs now count (l.take i)).map (rowOf t)).map BoardRow.enc).length : Int) = ((brs now count (l.take i)).length : Int) := by rw [List.length_map, List.length_map]
    have hb : (((brs now count (l.take i)).map (rowOf t)).map BoardRow.enc).length + 1 ≤ 1073741824 := by rw [List.length_map, List.length_map]; omega
    have hc2 := c63 t d.trip q hq0 hq
    have hc3 := c64 t d.trip q hq0 hq s1 s2
    have hst : (t.net.stops.map strRow)[(lastS q).toNat]? = some (strRow (t.net.stops.getD (lastS q).toNat .empty)) := by
      rw [List.getElem?_map, List.getD_eq_getElem?_getD, List.getElem?_eq_getElem (by omega)]
      rfl
    have hrow : rowOf t d = ⟨d.time, d.delay, q.name, t.net.stops.getD (lastS q).toNat .empty⟩ := by unfold rowOf lineNm destNm; rw [hq]
    have hone := boardRow_one [(⟨d.time, d.delay, q.name, t.net.stops.getD (lastS q).toNat .empty⟩ : BoardRow)]
    unfold kw at hnx
    generalize hout : brs now count (l.take i) = out at *
    repeat' first | refine go_seq ?_ | refine go_region ?_ | refine go_miss rfl rfl rfl ?_ | refine go_undef rfl rfl rfl ?_ | refine go_draw drawsOk ?_ | ((first | refine go_op rfl ?_ | refine go_nil ?_ | refine go_hit rfl rfl rfl ?_ | refine go_splitT rfl rfl rfl (fun h => ?_) (fun h => ?_) | refine go_splitF rfl rfl rfl (fun h => ?_) (fun h => ?_) | refine go_storeBox rfl rfl rfl rfl rfl rfl ?_ | refine go_dop rfl ?_ | refine go_dhit rfl rfl ?_ | refine go_dmiss rfl rfl ?_ | refine go_dundef rfl rfl ?_ | refine go_dend (by kernel_rfl) ?_ | refine go_pickT rfl ?_ | refine go_pickF rfl ?_ | refine go_pick rfl (fun h => ?_) (fun h => ?_) | refine go_call [] (hc2) rfl rfl rfl rfl ?_ | refine go_call [] (hc3) rfl rfl rfl rfl ?_ | refine go_idxOwn rfl rfl rfl rfl rfl rfl (by omega) ?_ | refine go_loadEl rfl rfl rfl hr ?_ | refine go_idx rfl rfl rfl rfl s3 hst rfl ?_ | refine go_append (rows2 := [(⟨d.time, d.delay, q.name, t.net.stops.getD (lastS q).toNat .empty⟩ : BoardRow)].map BoardRow.enc) rfl rfl rfl rfl rfl rfl rfl rfl rfl rfl rfl rfl hone rfl rfl rfl hb ?_) <;> conv => whnf) | ((first | refine Or.inl ?_ | refine go_dsplit2 rfl (fun h => ?_) (fun h => ?_) | refine go_loadB ?_ | refine ⟨by kernel_rfl, ?_⟩ | refine go_ret ?_) <;> conv => whnf) | refine go_block ?_ | ((first | refine go_skip ?_ | refine go_exit ?_) <;> conv => whnf) | refine go_true rfl ?_ | refine go_false rfl ?_ | refine go_cond rfl (fun h => ?_) (fun h => ?_) | refine ⟨rfl, ?_⟩ | ((first | refine ⟨trivial, ?_⟩ | refine ⟨le_of_ble rfl, ?_⟩) <;> conv => whnf) | fail
    all_goals first
      | (refine go_next (i + 1) (by omega) (by omega) (ref_st (fun y => if y = 1002 then nid 5 61 else y) rfl ⟨rfl, rfl, ⟨rfl, rfl⟩, ⟨?_, rfl⟩, ⟨rfl, rfl⟩, rfl, next_i (by omega), trivial⟩ ⟨⟨rfl, wavs_imm _⟩, rfl, ?_, trivial⟩ (by simp [nid]) rfl (by simp))
         · show AV.own _ _ _ = AV.own _ _ _
           rw [hnx, if_pos (by simp only [Bool.and_eq_true, decide_eq_true_eq] at *; omega), List.map_append, List.map_append, List.length_append]; try rfl
         · show some _ = some _
           rw [hnx, if_pos (by simp only [Bool.and_eq_true, decide_eq_true_eq] at *; omega), List.map_append, List.map_append]; show _ = some (O.arr _ _ (_ ++ [(rowOf t d).enc])); rw [hrow]; try rfl
         done)
      | (refine go_next (i + 1) (by omega) (by omega) (ref_st id rfl ⟨rfl, rfl, ⟨rfl, rfl⟩, ⟨?_, rfl⟩, ⟨rfl, rfl⟩, rfl, next_i (by omega), trivial⟩ ⟨⟨rfl, wavs_imm _⟩, rfl, ?_, trivial⟩ (by simp) rfl (by simp))
         · show AV.own _ _ _ = AV.own _ _ _
           rw [hnx, if_neg (by simp only [Bool.and_eq_true, decide_eq_true_eq, decide_eq_false_iff_not] at *; omega), List.append_nil]; try rfl
         · show some _ = some _
           rw [hnx, if_neg (by simp only [Bool.and_eq_true, decide_eq_true_eq, decide_eq_false_iff_not] at *; omega), List.append_nil]; try rfl
         done)
      | (exfalso; have h' := of_decide_eq_false h; omega)
      | (exfalso; have h' := of_decide_eq_true h; omega)
      | (exfalso; rename_i hq; have h' := of_decide_eq_true hq; omega)
      | (exfalso; rename_i hq; have h' := of_decide_eq_false hq; omega)
      | (exfalso; rename_i hq _; have h' := of_decide_eq_true hq; omega)
      | (exfalso; rename_i hq _; have h' := of_decide_eq_false hq; omega)
      | trace_state
end Go.Proofs.YtkfdhhljjeihgaaGreatDoor

