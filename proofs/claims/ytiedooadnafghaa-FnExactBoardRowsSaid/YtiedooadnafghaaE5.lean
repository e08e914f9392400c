/- The walks of the departures from a stop. -/
import Derived.Test.YtiedooadnafghaaT4
import Derived.Test.YtiedooadnafghaaE3
namespace Go.Proofs.Ytiedooadnafghaa
open Go Go.Am
set_option maxRecDepth 100000
set_option maxHeartbeats 4000000
attribute [local irreducible] amOps amC opCall opIndexAddr opPick retQ opMake opStore amDraw opAppend opLoad opNilCmp opIndex opSlice

/-- A departure: of a trip, when, how late. -/
structure Dep where
  trip : Trip
  time : Int
  delay : Int
def Dep.enc (v : Dep) : List D := [.int .i64 v.trip.id, .int .i64 v.trip.line, .int .i64 v.trip.start, .int .i64 v.time, .int .i64 v.delay]
theorem dep_gr (xs : List Dep) : ∀ x ∈ xs.map Dep.enc, x.all D.gr = true := by
  intro x hx
  obtain ⟨_, _, rfl⟩ := List.mem_map.1 hx
  rfl
theorem dep_one (xs : List Dep) : (xs.map Dep.enc).all (fun r => r.all D.one) = true := by
  simp only [List.all_map, List.all_eq_true]
  intro _ _
  rfl

def plAt (l : Line) (stop : Int) : Int := idxF (pInt stop) l.stops
def goes (l : Line) (stop : Int) : Bool := decide (0 ≤ plAt l stop) && decide (plAt l stop < (l.stops.length : Int) - 1)
def depOf (t : Timetable) (ds : List TripDelay) (stop : Int) (x : Trip) : Option Dep :=
  match t.net.lines[x.line.toNat]? with
  | some l => if goes l stop then some ⟨x, stopAt x l (plAt l stop).toNat, delOf ds x.id⟩ else none
  | none => none
def depsN (t : Timetable) (ds : List TripDelay) (stop : Int) (i : Nat) : List Dep := (t.trips.take i).filterMap (depOf t ds stop)
def deps (t : Timetable) (ds : List TripDelay) (stop : Int) : List Dep := t.trips.filterMap (depOf t ds stop)
theorem depsN_next {t : Timetable} {i : Nat} {x : Trip} (ds : List TripDelay) (stop : Int) (h : t.trips[i]? = some x) : depsN t ds stop (i + 1) = depsN t ds stop i ++ (match depOf t ds stop x with | some d => [d] | none => []) := by
  unfold depsN
  rw [List.take_add_one, h]
  simp only [Option.toList_some, List.filterMap_append]
  congr 1
  cases hd : depOf t ds stop x <;> simp [hd]
theorem depsN_len (t : Timetable) (ds : List TripDelay) (stop : Int) (i : Nat) : (depsN t ds stop i).length ≤ i := by
  unfold depsN
  exact Nat.le_trans (List.length_filterMap_le _ _) (by rw [List.length_take]; omega)
theorem deps_all {t : Timetable} {i : Nat} (ds : List TripDelay) (stop : Int) (h : t.trips.length ≤ i) : depsN t ds stop i = deps t ds stop := by
  unfold depsN deps
  rw [List.take_of_length_le h]

theorem plAt_lt (l : Line) (stop : Int) : plAt l stop < l.stops.length ∨ plAt l stop = -1 := by
  by_cases h : 0 ≤ plAt l stop
  · obtain ⟨i, x, h1, h2, _⟩ := idxF_spec h
    have := lt_of_at h2
    left
    unfold plAt at *
    omega
  · right
    unfold plAt idxF at *
    split at h
    · omega
    · rename_i hn
      rw [if_neg hn]

theorem c91 (t : Timetable) (hf : t.fit) (hok : ttOk t = true) (ds : List TripDelay) (hl : ds.length ≤ 1048576) (stop : Int) :
    CallOk Try.prog 91 [.imm (.agg t.enc), .imm (.list (ds.map TripDelay.enc)), .imm (.int .i64 stop)] { res := [.imm (.list ((deps t ds stop).map Dep.enc))] } := by
  refine callOk_of tyOk Try.func91 rfl rfl (le_of_ble rfl) (le_of_ble rfl) (mutOk_imm rfl _) ?_
  have htl : (t.trips.map Trip.enc).length = t.trips.length := List.length_map _
  have hnt : t.trips.length ≤ 1048576 := hf.2.1
  repeat' first | refine go_seq ?_ | refine go_region ?_ | refine go_miss rfl rfl rfl ?_ | refine go_undef rfl rfl rfl ?_ | refine go_draw drawsOk ?_ | ((first | refine go_op rfl ?_ | refine go_nil ?_ | refine go_hit rfl rfl rfl ?_ | refine go_splitT rfl rfl rfl (fun h => ?_) (fun h => ?_) | refine go_splitF rfl rfl rfl (fun h => ?_) (fun h => ?_) | refine go_storeBox rfl rfl rfl rfl rfl rfl ?_ | refine go_dop rfl ?_ | refine go_dhit rfl rfl ?_ | refine go_dmiss rfl rfl ?_ | refine go_dundef rfl rfl ?_ | refine go_dend (by kernel_rfl) ?_ | refine go_pickT rfl ?_ | refine go_pickF rfl ?_ | refine go_pick rfl (fun h => ?_) (fun h => ?_)) <;> conv => whnf) | ((first | refine go_dsplit2 rfl (fun h => ?_) (fun h => ?_) | refine go_loadB ?_ | refine ⟨by kernel_rfl, ?_⟩ | refine go_ret ?_) <;> conv => whnf) | refine go_block ?_ | ((first | refine go_skip ?_ | refine go_exit ?_) <;> conv => whnf) | refine go_true rfl ?_ | refine go_false rfl ?_ | refine go_cond rfl (fun h => ?_) (fun h => ?_) | refine ⟨rfl, ?_⟩ | ((first | refine ⟨trivial, ?_⟩ | refine ⟨le_of_ble rfl, ?_⟩) <;> conv => whnf) | fail
  refine go_loop (α := Nat) (fun i => i ≤ t.trips.length) (fun i => t.trips.length - i)
    (fun i => st Try.f91.ntmps [(1, .imm (.list (ds.map TripDelay.enc))), (2, .imm (.int .i64 stop)), (3, .box 1000 0), (7, .own 1001 0 ((depsN t ds stop i).map Dep.enc).length), (14, .imm (.list (t.trips.map Trip.enc))), (15, .imm (.int .i64 (t.trips.map Trip.enc).length)), (16, .imm (.int .i64 (i : Nat)))]
      [(1000, .box 38 (t.enc.map .imm)), (1001, .arr 127 5 ((depsN t ds stop i).map Dep.enc))] []) 0 (Nat.zero_le _) ?_ ?_
  · exact ref_st (fun y => if y = 1000 then nid 1 3 else nid 2 7) rfl ⟨rfl, rfl, ⟨rfl, rfl⟩, ⟨rfl, rfl⟩, rfl, rfl, rfl, trivial⟩ ⟨⟨rfl, wavs_imm _⟩, rfl, trivial⟩ (by simp [nid]) rfl (by simp)
  intro i hi
  cases hx : t.trips[i]? with
  | none =>
    have hge := le_of_at hx
    rw [deps_all ds stop hge]
    repeat' first | refine go_seq ?_ | refine go_region ?_ | refine go_miss rfl rfl rfl ?_ | refine go_undef rfl rfl rfl ?_ | refine go_draw drawsOk ?_ | ((first | refine go_op rfl ?_ | refine go_nil ?_ | refine go_hit rfl rfl rfl ?_ | refine go_splitT rfl rfl rfl (fun h => ?_) (fun h => ?_) | refine go_splitF rfl rfl rfl (fun h => ?_) (fun h => ?_) | refine go_storeBox rfl rfl rfl rfl rfl rfl ?_ | refine go_dop rfl ?_ | refine go_dhit rfl rfl ?_ | refine go_dmiss rfl rfl ?_ | refine go_dundef rfl rfl ?_ | refine go_dend (by kernel_rfl) ?_ | refine go_pickT rfl ?_ | refine go_pickF rfl ?_ | refine go_pick rfl (fun h => ?_) (fun h => ?_)) <;> conv => whnf) | ((first | refine go_dsplit2 rfl (fun h => ?_) (fun h => ?_) | refine go_loadB ?_ | refine ⟨by kernel_rfl, ?_⟩ | refine go_ret ?_) <;> conv => whnf) | refine go_block ?_ | ((first | refine go_skip ?_ | refine go_exit ?_) <;> conv => whnf) | refine go_true rfl ?_ | refine go_false rfl ?_ | refine go_cond rfl (fun h => ?_) (fun h => ?_) | refine ⟨rfl, ?_⟩ | ((first | refine ⟨trivial, ?_⟩ | refine ⟨le_of_ble rfl, ?_⟩) <;> conv => whnf) | fail
    all_goals try first
      | (exfalso; have h' := of_decide_eq_false h; omega)
      | (exfalso; have h' := of_decide_eq_true h; omega)
      | (exfalso; rename_i hq; have h' := of_decide_eq_true hq; omega)
      | (exfalso; rename_i hq; have h' := of_decide_eq_false hq; omega)
      | (exfalso; rename_i hq _; have h' := of_decide_eq_true hq; omega)
      | (exfalso; rename_i hq _; have h' := of_decide_eq_false hq; omega)
    · exact ret_own rfl rfl rfl rfl rfl (by rw [List.drop_zero, List.take_length]) (dep_gr _)
  | some x =>
    have hlt := lt_of_at hx
    have hr := row_at Trip.enc hx
    obtain ⟨l, hg⟩ := good_of hok hx
    have hlf := hf.1.2.2.2 l (List.mem_of_getElem? hg.on.ln)
    have hsl : (l.stops.map intRow).length = l.stops.length := List.length_map _
    have hol := depsN_len t ds stop i
    have hb : ((depsN t ds stop i).map Dep.enc).length + 1 ≤ 1073741824 := by rw [List.length_map]; omega
    have hnx := depsN_next ds stop hx
    have hd : depOf t ds stop x = if goes l stop then some ⟨x, stopAt x l (plAt l stop).toNat, delOf ds x.id⟩ else none := by unfold depOf; rw [hg.on.ln]
    have hc1 := c81 t x l hg.on.lo hg.on.ln
    have hc2 := c82 t x l hg.on.lo hg.on.ln hg.st hlf.2.2
    have hc3 := c122 l.stops stop hlf.2.1
    have hc4 := c86 ds x.id hl
    have hrs := hg.rs
    have hr5 := hg.r5
    have hw1 : IntKind.i64.wrap ((l.stops.length : Int) - 1) = (l.stops.length : Int) - 1 := wrap_small (by omega) (by omega)
    have hw : IntKind.i64.wrap (((l.stops.map intRow).length : Int) - 1) = (l.stops.length : Int) - 1 := by rw [hsl]; exact hw1
    change CallOk _ _ _ { res := [.imm (.int .i64 (plAt l stop))] } at hc3
    cases hgo : goes l stop with
    | true =>
      rw [hgo, if_pos rfl] at hd
      rw [hd] at hnx
      change _ = _ ++ [_] at hnx
      have hgo' := hgo
      unfold goes at hgo'
      simp only [Bool.and_eq_true, decide_eq_true_eq] at hgo'
      have hrow : ((stopsT x l (l.runs.length + 1)).map intRow)[(plAt l stop).toNat]? = some (intRow (stopAt x l (plAt l stop).toNat)) := stopsT_at (by omega)
      have hone := dep_one [⟨x, stopAt x l (plAt l stop).toNat, delOf ds x.id⟩]
      repeat' first | refine go_seq ?_ | refine go_region ?_ | refine go_miss rfl rfl rfl ?_ | refine go_undef rfl rfl rfl ?_ | refine go_draw drawsOk ?_ | ((first | refine go_op rfl ?_ | refine go_nil ?_ | refine go_hit rfl rfl rfl ?_ | refine go_splitT rfl rfl rfl (fun h => ?_) (fun h => ?_) | refine go_splitF rfl rfl rfl (fun h => ?_) (fun h => ?_) | refine go_storeBox rfl rfl rfl rfl rfl rfl ?_ | refine go_dop rfl ?_ | refine go_dhit rfl rfl ?_ | refine go_dmiss rfl rfl ?_ | refine go_dundef rfl rfl ?_ | refine go_dend (by kernel_rfl) ?_ | refine go_pickT rfl ?_ | refine go_pickF rfl ?_ | refine go_pick rfl (fun h => ?_) (fun h => ?_) | refine go_call [] (hc1) rfl rfl rfl rfl ?_ | refine go_call [] (hc2) rfl rfl rfl rfl ?_ | refine go_call [] (hc3) rfl rfl rfl rfl ?_ | refine go_call [] (hc4) rfl rfl rfl rfl ?_ | refine go_idx rfl rfl rfl rfl (by omega) hr rfl ?_ | refine go_idx rfl rfl rfl rfl hgo'.1 hrow rfl ?_ | refine go_append (rows2 := [(⟨x, stopAt x l (plAt l stop).toNat, delOf ds x.id⟩ : Dep)].map Dep.enc) rfl rfl rfl rfl rfl rfl rfl rfl rfl rfl rfl rfl hone rfl rfl rfl hb ?_) <;> conv => whnf) | ((first | refine go_dsplit2 rfl (fun h => ?_) (fun h => ?_) | refine go_loadB ?_ | refine ⟨by kernel_rfl, ?_⟩ | refine go_ret ?_) <;> conv => whnf) | refine go_block ?_ | ((first | refine go_skip ?_ | refine go_exit ?_) <;> conv => whnf) | refine go_true rfl ?_ | refine go_false rfl ?_ | refine go_cond rfl (fun h => ?_) (fun h => ?_) | refine ⟨rfl, ?_⟩ | ((first | refine ⟨trivial, ?_⟩ | refine ⟨le_of_ble rfl, ?_⟩) <;> conv => whnf) | fail
      all_goals first
        | (refine go_next (i + 1) (by omega) (by omega) (ref_st (fun y => if y = 1001 then nid 7 51 else y) rfl ⟨rfl, rfl, ⟨rfl, rfl⟩, ⟨?_, rfl⟩, rfl, rfl, next_i (by omega), trivial⟩ ⟨⟨rfl, wavs_imm _⟩, ?_, trivial⟩ (by simp [nid]) rfl (by simp))
           · show AV.own _ _ _ = AV.own _ _ _
             rw [hnx, List.map_append, List.length_append]; try rfl
           · show some _ = some _
             rw [hnx, List.map_append]; try rfl
           done)
        | (exfalso; have h' := of_decide_eq_false h; omega)
        | (exfalso; have h' := of_decide_eq_true h; omega)
        | (exfalso; rename_i hq; have h' := of_decide_eq_true hq; omega)
        | (exfalso; rename_i hq; have h' := of_decide_eq_false hq; omega)
        | (exfalso; rename_i hq _; have h' := of_decide_eq_true hq; omega)
        | (exfalso; rename_i hq _; have h' := of_decide_eq_false hq; omega)
        | (exfalso; have h' := of_decide_eq_false h; rw [hw] at h'; omega)
        | trace_state
    | false =>
      rw [hgo, if_neg (by simp)] at hd
      rw [hd] at hnx
      change _ = _ ++ [] at hnx
      have hgo' := hgo
      unfold goes at hgo'
      simp only [Bool.and_eq_false_iff, decide_eq_false_iff_not] at hgo'
      repeat' first | refine go_seq ?_ | refine go_region ?_ | refine go_miss rfl rfl rfl ?_ | refine go_undef rfl rfl rfl ?_ | refine go_draw drawsOk ?_ | ((first | refine go_op rfl ?_ | refine go_nil ?_ | refine go_hit rfl rfl rfl ?_ | refine go_splitT rfl rfl rfl (fun h => ?_) (fun h => ?_) | refine go_splitF rfl rfl rfl (fun h => ?_) (fun h => ?_) | refine go_storeBox rfl rfl rfl rfl rfl rfl ?_ | refine go_dop rfl ?_ | refine go_dhit rfl rfl ?_ | refine go_dmiss rfl rfl ?_ | refine go_dundef rfl rfl ?_ | refine go_dend (by kernel_rfl) ?_ | refine go_pickT rfl ?_ | refine go_pickF rfl ?_ | refine go_pick rfl (fun h => ?_) (fun h => ?_) | refine go_call [] (hc1) rfl rfl rfl rfl ?_ | refine go_call [] (hc2) rfl rfl rfl rfl ?_ | refine go_call [] (hc3) rfl rfl rfl rfl ?_ | refine go_idx rfl rfl rfl rfl (by omega) hr rfl ?_) <;> conv => whnf) | ((first | refine go_dsplit2 rfl (fun h => ?_) (fun h => ?_) | refine go_loadB ?_ | refine ⟨by kernel_rfl, ?_⟩ | refine go_ret ?_) <;> conv => whnf) | refine go_block ?_ | ((first | refine go_skip ?_ | refine go_exit ?_) <;> conv => whnf) | refine go_true rfl ?_ | refine go_false rfl ?_ | refine go_cond rfl (fun h => ?_) (fun h => ?_) | refine ⟨rfl, ?_⟩ | ((first | refine ⟨trivial, ?_⟩ | refine ⟨le_of_ble rfl, ?_⟩) <;> conv => whnf) | fail
      all_goals first
        | (refine go_next (i + 1) (by omega) (by omega) (ref_st id rfl ⟨rfl, rfl, ⟨rfl, rfl⟩, ⟨?_, rfl⟩, rfl, rfl, next_i (by omega), trivial⟩ ⟨⟨rfl, wavs_imm _⟩, ?_, trivial⟩ (by simp) rfl (by simp))
           · show AV.own _ _ _ = AV.own _ _ _
             rw [hnx, List.append_nil]; try rfl
           · show some _ = some _
             rw [hnx, List.append_nil]; try rfl
           done)
        | (exfalso; have h' := of_decide_eq_false h; omega)
        | (exfalso; have h' := of_decide_eq_true h; omega)
        | (exfalso; rename_i hq; have h' := of_decide_eq_true hq; omega)
        | (exfalso; rename_i hq; have h' := of_decide_eq_false hq; omega)
        | (exfalso; rename_i hq _; have h' := of_decide_eq_true hq; omega)
        | (exfalso; rename_i hq _; have h' := of_decide_eq_false hq; omega)
        | (exfalso; rename_i hq; have h' := of_decide_eq_true h; rw [hw] at h'; have h2 := of_decide_eq_true hq; omega)
        | trace_state

theorem c89 (t : Timetable) (ds : List TripDelay) {i : Nat} {x : Trip} {l : Line} (hg : Good t i x l) (hf : t.fit) (stop : Int) :
    CallOk Try.prog 89 [.imm (.agg t.enc), .imm (.int .i64 (i : Nat)), .imm (.int .i64 stop)] { res := [.imm (.int .i64 (match depOf t ds stop x with | some d => d.time | none => -1))] } := by
  refine callOk_of tyOk Try.func89 rfl rfl (le_of_ble rfl) (le_of_ble rfl) (mutOk_imm rfl _) ?_
  have hlf := hf.1.2.2.2 l (List.mem_of_getElem? hg.on.ln)
  have hd : depOf t ds stop x = if goes l stop then some ⟨x, stopAt x l (plAt l stop).toNat, delOf ds x.id⟩ else none := by unfold depOf; rw [hg.on.ln]
  have hsl : (l.stops.map intRow).length = l.stops.length := List.length_map _
  have hrs := hg.rs
  have hr5 := hg.r5
  have hw : IntKind.i64.wrap (((l.stops.map intRow).length : Int) - 1) = (l.stops.length : Int) - 1 := by rw [hsl]; exact wrap_small (by omega) (by omega)
  have hc1 := c73 hg.on
  have hc2 := c118 l stop hlf.2.1
  change CallOk _ _ _ { res := [.imm (.int .i64 (plAt l stop))] } at hc2
  have hc3 := c119 hg.on
  have hpl := plAt_lt l stop
  cases hgo : goes l stop with
  | true =>
    rw [hgo, if_pos rfl] at hd
    have hgo' := hgo
    unfold goes at hgo'
    simp only [Bool.and_eq_true, decide_eq_true_eq] at hgo'
    have e : ((plAt l stop).toNat : Int) = plAt l stop := Int.toNat_of_nonneg hgo'.1
    have hc4 := c76 hg.on (plAt l stop).toNat (by omega) hlf.2.2
    rw [e] at hc4
    rw [hd]
    repeat' first | refine go_seq ?_ | refine go_region ?_ | refine go_miss rfl rfl rfl ?_ | refine go_undef rfl rfl rfl ?_ | ((first | refine go_op rfl ?_ | refine go_nil ?_ | refine go_hit rfl rfl rfl ?_ | refine go_splitT rfl rfl rfl (fun h => ?_) (fun h => ?_) | refine go_splitF rfl rfl rfl (fun h => ?_) (fun h => ?_) | refine go_pickT rfl ?_ | refine go_pickF rfl ?_ | refine go_pick rfl (fun h => ?_) (fun h => ?_) | refine go_call [] (hc1) rfl rfl rfl rfl ?_ | refine go_call [] (hc2) rfl rfl rfl rfl ?_ | refine go_call [] (hc3) rfl rfl rfl rfl ?_ | refine go_call [] (hc4) rfl rfl rfl rfl ?_) <;> conv => whnf) | ((first | refine go_loadB ?_ | refine ⟨by kernel_rfl, ?_⟩ | refine go_ret ?_) <;> conv => whnf) | ((first | refine go_skip ?_) <;> conv => whnf) | refine go_true rfl ?_ | refine go_false rfl ?_ | refine go_cond rfl (fun h => ?_) (fun h => ?_) | refine ⟨rfl, ?_⟩ | ((first | refine ⟨trivial, ?_⟩ | refine ⟨le_of_ble rfl, ?_⟩) <;> conv => whnf) | fail
    all_goals first
      | exact ret_imm rfl rfl rfl rfl rfl rfl
      | (exfalso; have h' := of_decide_eq_false h; omega)
      | (exfalso; have h' := of_decide_eq_true h; omega)
      | (exfalso; rename_i hq; have h' := of_decide_eq_true hq; omega)
      | (exfalso; rename_i hq; have h' := of_decide_eq_false hq; omega)
      | (exfalso; rename_i hq _; have h' := of_decide_eq_true hq; omega)
      | (exfalso; rename_i hq _; have h' := of_decide_eq_false hq; omega)
      | (exfalso; have h' := of_decide_eq_true h; rw [hw] at h'; omega)
      | trace_state
  | false =>
    rw [hgo, if_neg (by simp)] at hd
    have hgo' := hgo
    unfold goes at hgo'
    simp only [Bool.and_eq_false_iff, decide_eq_false_iff_not] at hgo'
    rw [hd]
    repeat' first | refine go_seq ?_ | refine go_region ?_ | refine go_miss rfl rfl rfl ?_ | refine go_undef rfl rfl rfl ?_ | ((first | refine go_op rfl ?_ | refine go_nil ?_ | refine go_hit rfl rfl rfl ?_ | refine go_splitT rfl rfl rfl (fun h => ?_) (fun h => ?_) | refine go_splitF rfl rfl rfl (fun h => ?_) (fun h => ?_) | refine go_pickT rfl ?_ | refine go_pickF rfl ?_ | refine go_pick rfl (fun h => ?_) (fun h => ?_) | refine go_call [] (hc1) rfl rfl rfl rfl ?_ | refine go_call [] (hc2) rfl rfl rfl rfl ?_ | refine go_call [] (hc3) rfl rfl rfl rfl ?_) <;> conv => whnf) | ((first | refine go_loadB ?_ | refine ⟨by kernel_rfl, ?_⟩ | refine go_ret ?_) <;> conv => whnf) | ((first | refine go_skip ?_) <;> conv => whnf) | refine go_true rfl ?_ | refine go_false rfl ?_ | refine go_cond rfl (fun h => ?_) (fun h => ?_) | refine ⟨rfl, ?_⟩ | ((first | refine ⟨trivial, ?_⟩ | refine ⟨le_of_ble rfl, ?_⟩) <;> conv => whnf) | fail
    all_goals first
      | exact ret_imm rfl rfl rfl rfl rfl rfl
      | (exfalso; have h' := of_decide_eq_false h; omega)
      | (exfalso; have h' := of_decide_eq_true h; omega)
      | (exfalso; rename_i hq; have h' := of_decide_eq_true hq; omega)
      | (exfalso; rename_i hq; have h' := of_decide_eq_false hq; omega)
      | (exfalso; rename_i hq _; have h' := of_decide_eq_true hq; omega)
      | (exfalso; rename_i hq _; have h' := of_decide_eq_false hq; omega)
      | (exfalso; have h' := of_decide_eq_false h; rw [hw] at h'; rename_i hq; have h2 := of_decide_eq_false hq; omega)
      | trace_state
end Go.Proofs.Ytiedooadnafghaa

