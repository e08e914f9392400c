/- The walks of the next departures by line, and the law of NextByLine, walked. -/
import Derived.Test.YtiedooadnafghaaE5
namespace Go.Proofs.Ytiedooadnafghaa
open Go Go.Am
set_option maxRecDepth 100000
set_option maxHeartbeats 4000000
attribute [local irreducible] amOps amC opCall opIndexAddr opPick retQ opMake opStore amDraw opAppend opLoad opNilCmp opIndex opSlice

def nbC (now best x : Int) : Bool := decide (now ≤ x) && (decide (best < 0) || decide (x < best))
def nbStep (now best x : Int) : Int := if nbC now best x then x else best
def nbAdd (now : Int) (k : Nat) (b : Int) (d : Dep) : Int := if d.trip.line = (k : Int) then nbStep now b (IntKind.i64.wrap (d.time + d.delay)) else b
def nbBest (now : Int) (k : Nat) (ds : List Dep) : Int := ds.foldl (nbAdd now k) (-1)
def nbRow (now : Int) (n : Nat) (ds : List Dep) : List Int := (List.range n).map (fun k => nbBest now k ds)
theorem nbRow_len (now : Int) (n : Nat) (ds : List Dep) : ((nbRow now n ds).map intRow).length = n := by simp [nbRow]
theorem nbRow_at {now : Int} {n k : Nat} (ds : List Dep) (h : k < n) : ((nbRow now n ds).map intRow)[k]? = some (intRow (nbBest now k ds)) := by simp [nbRow, h]
theorem nbRow_nil (now : Int) (ls : List Line) : ls.map (fun _ => intRow (-1)) = (nbRow now ls.length []).map intRow := by
  unfold nbRow nbBest
  simp only [List.foldl_nil, List.map_map]
  apply List.ext_getElem?
  intro i
  simp only [List.getElem?_map]
  by_cases h : i < ls.length
  · simp [h]
  · have e : (List.range ls.length)[i]? = none := List.getElem?_eq_none (by simp; omega)
    simp [List.getElem?_eq_none (Nat.le_of_not_lt h), e]
theorem nbRow_next {now : Int} {n j : Nat} {ds : List Dep} {d : Dep} (h : ds[j]? = some d) {k : Nat} (hk : d.trip.line = (k : Int)) (hn : k < n) :
    (nbRow now n (ds.take (j + 1))).map intRow = ((nbRow now n (ds.take j)).map intRow).set k (intRow (nbStep now (nbBest now k (ds.take j)) (IntKind.i64.wrap (d.time + d.delay)))) := by
  apply List.ext_getElem?
  intro i
  rw [List.getElem?_set]
  by_cases hi : i < n
  · have e : nbBest now i (ds.take (j + 1)) = nbAdd now i (nbBest now i (ds.take j)) d := foldl_next h
    rw [nbRow_at _ hi, e]
    by_cases hik : k = i
    · subst hik
      rw [if_pos rfl, if_pos (by rw [nbRow_len]; exact hn)]
      unfold nbAdd
      rw [if_pos hk]
    · rw [if_neg hik, nbRow_at _ hi]
      unfold nbAdd
      rw [if_neg (by omega)]
  · rw [List.getElem?_eq_none (by rw [nbRow_len]; omega)]
    rw [if_neg (by omega), List.getElem?_eq_none (by rw [nbRow_len]; omega)]

def nbOk (t : Timetable) (ds : List TripDelay) (stop now : Int) : Bool := delaysOk t ds && (inR stop 0 ((t.net.stops.length : Int) - 1) && timeOk now)
def nbR (t : Timetable) (ds : List TripDelay) (stop now : Int) : List Int := if nbOk t ds stop now then nbRow now t.net.lines.length (deps t ds stop) else []
theorem nbR_len (t : Timetable) (hf : t.fit) (ds : List TripDelay) (stop now : Int) : (nbR t ds stop now).length ≤ 1048576 := by
  unfold nbR
  split
  · have := nbRow_len now t.net.lines.length (deps t ds stop)
    rw [List.length_map] at this
    rw [this]
    exact hf.1.2.2.1
  · simp

theorem c90 (t : Timetable) (hf : t.fit) (ds : List TripDelay) (hl : ds.length ≤ 1048576) (stop now : Int) : CallOk Try.prog 90 [.imm (.agg t.enc), .imm (.list (ds.map TripDelay.enc)), .imm (.int .i64 stop), .imm (.int .i64 now)] { res := [.imm (.bool (nbOk t ds stop now))] } := by
  refine callOk_of tyOk Try.func90 rfl rfl (le_of_ble rfl) (le_of_ble rfl) (mutOk_imm rfl _) ?_
  have hc0 := c18 t hf ds hl
  have hc1 := c120 t.net stop
  have hc2 := c121 now
  unfold nbOk
  repeat' first | refine go_seq ?_ | refine go_region ?_ | refine go_miss rfl rfl rfl ?_ | refine go_undef rfl rfl rfl ?_ | ((first | refine go_op rfl ?_ | refine go_nil ?_ | refine go_hit rfl rfl rfl ?_ | refine go_splitT rfl rfl rfl (fun h => ?_) (fun h => ?_) | refine go_splitF rfl rfl rfl (fun h => ?_) (fun h => ?_) | refine go_pickT rfl ?_ | refine go_pickF rfl ?_ | refine go_pick rfl (fun h => ?_) (fun h => ?_) | refine go_call [] (hc0) rfl rfl rfl rfl ?_ | refine go_call [] (hc1) rfl rfl rfl rfl ?_ | refine go_call [] (hc2) rfl rfl rfl rfl ?_) <;> conv => whnf) | ((first | refine go_loadB ?_ | refine ⟨by kernel_rfl, ?_⟩ | refine go_ret ?_) <;> conv => whnf) | ((first | refine go_skip ?_) <;> conv => whnf) | refine ⟨rfl, ?_⟩ | ((first | refine ⟨trivial, ?_⟩ | refine ⟨le_of_ble rfl, ?_⟩) <;> conv => whnf) | fail
  all_goals
    refine ret_imm rfl rfl rfl rfl ?_ rfl
    simp_all
theorem c87 (t : Timetable) (hf : t.fit) (ds : List TripDelay) (hl : ds.length ≤ 1048576) (stop : Int) : CallOk Try.prog 87 [.imm (.agg t.enc), .imm (.list (ds.map TripDelay.enc)), .imm (.int .i64 stop)] { res := [.imm (.bool (delaysOk t ds && inR stop 0 ((t.net.stops.length : Int) - 1)))] } := by
  refine callOk_of tyOk Try.func87 rfl rfl (le_of_ble rfl) (le_of_ble rfl) (mutOk_imm rfl _) ?_
  have hc0 := c61 t hf ds hl
  have hsl : ((t.net.stops.map strRow).length : Int) = t.net.stops.length := by rw [List.length_map]
  have hw : IntKind.i64.wrap (((t.net.stops.map strRow).length : Int) - 1) = (t.net.stops.length : Int) - 1 := by rw [hsl]; have := hf.1.1; exact wrap_small (by omega) (by omega)
  have hc1 := c72 stop 0 (IntKind.i64.wrap (((t.net.stops.map strRow).length : Int) - 1))
  repeat' first | refine go_seq ?_ | refine go_region ?_ | refine go_miss rfl rfl rfl ?_ | refine go_undef rfl rfl rfl ?_ | ((first | refine go_op rfl ?_ | refine go_nil ?_ | refine go_hit rfl rfl rfl ?_ | refine go_splitT rfl rfl rfl (fun h => ?_) (fun h => ?_) | refine go_splitF rfl rfl rfl (fun h => ?_) (fun h => ?_) | refine go_pickT rfl ?_ | refine go_pickF rfl ?_ | refine go_pick rfl (fun h => ?_) (fun h => ?_) | refine go_call [] (hc0) rfl rfl rfl rfl ?_ | refine go_call [] (hc1) rfl rfl rfl rfl ?_) <;> conv => whnf) | ((first | refine go_loadB ?_ | refine ⟨by kernel_rfl, ?_⟩ | refine go_ret ?_) <;> conv => whnf) | ((first | refine go_skip ?_) <;> conv => whnf) | refine ⟨rfl, ?_⟩ | ((first | refine ⟨trivial, ?_⟩ | refine ⟨le_of_ble rfl, ?_⟩) <;> conv => whnf) | fail
  all_goals
    refine ret_imm rfl rfl rfl rfl ?_ rfl
    simp_all

theorem deps_at {t : Timetable} (hok : ttOk t = true) {ds : List TripDelay} {stop : Int} {j : Nat} {d : Dep} (h : (deps t ds stop)[j]? = some d) : ∃ k : Nat, d.trip.line = (k : Int) ∧ k < t.net.lines.length := by
  obtain ⟨x, hx, hd⟩ := List.mem_filterMap.1 (List.mem_of_getElem? h)
  obtain ⟨i, hi⟩ := List.getElem?_of_mem hx
  obtain ⟨l, hg⟩ := good_of hok hi
  unfold depOf at hd
  rw [hg.on.ln] at hd
  simp only at hd
  split at hd
  · injection hd with hd
    subst hd
    have := lt_of_at hg.on.ln
    have := hg.on.lo
    exact ⟨x.line.toNat, by simp only; omega, by omega⟩
  · cases hd
theorem deps_len (t : Timetable) (ds : List TripDelay) (stop : Int) : (deps t ds stop).length ≤ t.trips.length := List.length_filterMap_le _ _

theorem c33 (t : Timetable) (hf : t.fit) (ds : List TripDelay) (hl : ds.length ≤ 1048576) (stop now : Int) : CallOk Try.prog 33 [.imm (.agg t.enc), .imm (.list (ds.map TripDelay.enc)), .imm (.int .i64 stop), .imm (.int .i64 now)] { res := [.arr 3 1 ((nbR t ds stop now).map intRow), .imm (.bool (nbOk t ds stop now))] } := by
  refine callOk_of tyOk Try.func33 rfl rfl (le_of_ble rfl) (le_of_ble rfl) (mutOk_imm rfl _) ?_
  have hc0 := c90 t hf ds hl stop now
  cases hp : nbOk t ds stop now with
  | false =>
    have e1 : nbR t ds stop now = [] := by unfold nbR; rw [hp]; rfl
    rw [e1]
    rw [hp] at hc0
    repeat' first | refine go_seq ?_ | refine go_region ?_ | refine go_miss rfl rfl rfl ?_ | refine go_undef rfl rfl rfl ?_ | ((first | refine go_op rfl ?_ | refine go_nil ?_ | refine go_hit rfl rfl rfl ?_ | refine go_splitT rfl rfl rfl (fun h => ?_) (fun h => ?_) | refine go_splitF rfl rfl rfl (fun h => ?_) (fun h => ?_) | refine go_storeBox rfl rfl rfl rfl rfl rfl ?_ | refine go_pickT rfl ?_ | refine go_pickF rfl ?_ | refine go_pick rfl (fun h => ?_) (fun h => ?_) | refine go_call [] (hc0) rfl rfl rfl rfl ?_) <;> conv => whnf) | ((first | refine go_loadB ?_ | refine ⟨by kernel_rfl, ?_⟩ | refine go_ret ?_) <;> conv => whnf) | refine go_block ?_ | ((first | refine go_skip ?_ | refine go_exit ?_) <;> conv => whnf) | refine go_true rfl ?_ | refine go_false rfl ?_ | refine go_cond rfl (fun h => ?_) (fun h => ?_) | refine ⟨rfl, ?_⟩ | ((first | refine ⟨trivial, ?_⟩ | refine ⟨le_of_ble rfl, ?_⟩) <;> conv => whnf) | fail
    all_goals exact ret_arr2 rfl rfl rfl rfl rfl rfl (by intro r hr; cases hr) rfl rfl rfl
  | true =>
    have e1 : nbR t ds stop now = nbRow now t.net.lines.length (deps t ds stop) := by unfold nbR; rw [hp]; rfl
    rw [e1]
    rw [hp] at hc0
    have hp' := hp
    unfold nbOk delaysOk at hp'
    simp only [Bool.and_eq_true] at hp'
    have hok := hp'.1.1
    have hnl : t.net.lines.length ≤ 1048576 := hf.1.2.2.1
    have hll : (t.net.lines.map Line.enc).length = t.net.lines.length := List.length_map _
    have hc1 := c91 t hf hok ds hl stop
    have hdl : ((deps t ds stop).map Dep.enc).length = (deps t ds stop).length := List.length_map _
    have hdn := deps_len t ds stop
    have hnt : t.trips.length ≤ 1048576 := hf.2.1
    repeat' first | refine go_seq ?_ | refine go_region ?_ | refine go_miss rfl rfl rfl ?_ | refine go_undef rfl rfl rfl ?_ | ((first | refine go_op rfl ?_ | refine go_nil ?_ | refine go_hit rfl rfl rfl ?_ | refine go_splitT rfl rfl rfl (fun h => ?_) (fun h => ?_) | refine go_splitF rfl rfl rfl (fun h => ?_) (fun h => ?_) | refine go_storeBox rfl rfl rfl rfl rfl rfl ?_ | refine go_pickT rfl ?_ | refine go_pickF rfl ?_ | refine go_pick rfl (fun h => ?_) (fun h => ?_) | refine go_call [] (hc0) rfl rfl rfl rfl ?_ | refine go_makeN rfl rfl rfl rfl rfl rfl rfl rfl rfl (by omega) (by rw [hll]; omega) ?_) <;> conv => whnf) | ((first | refine go_loadB ?_ | refine ⟨by kernel_rfl, ?_⟩ | refine go_ret ?_) <;> conv => whnf) | refine go_block ?_ | ((first | refine go_skip ?_ | refine go_exit ?_) <;> conv => whnf) | refine go_true rfl ?_ | refine go_false rfl ?_ | refine go_cond rfl (fun h => ?_) (fun h => ?_) | refine ⟨rfl, ?_⟩ | ((first | refine ⟨trivial, ?_⟩ | refine ⟨le_of_ble rfl, ?_⟩) <;> conv => whnf) | fail
    refine go_loop (α := Nat) (fun i => i ≤ t.net.lines.length) (fun i => t.net.lines.length - i)
      (fun i => st Try.f33.ntmps [(1, .imm (.list (ds.map TripDelay.enc))), (2, .imm (.int .i64 stop)), (3, .imm (.int .i64 now)), (4, .box 1000 0), (10, .own 1001 0 (t.net.lines.map Line.enc).length), (28, .imm (.int .i64 (t.net.lines.map Line.enc).length)), (29, .imm (.int .i64 (i : Nat)))]
        [(1000, .box 38 (t.enc.map .imm)), (1001, .arr 3 1 (fill (fun _ : Line => intRow (-1)) ty3.zero t.net.lines i))] []) 0 (Nat.zero_le _) ?_ ?_
    · refine ref_st (fun y => if y = 1000 then nid 1 4 else nid 3 26) rfl ⟨rfl, rfl, rfl, ⟨rfl, rfl⟩, ⟨rfl, rfl⟩, rfl, rfl, trivial⟩ ⟨⟨rfl, wavs_imm _⟩, ?_, trivial⟩ (by simp [nid]) rfl (by simp)
      show some _ = some _
      rw [← fill_0, List.length_map]
      rfl
    intro i hi
    cases hx : t.net.lines[i]? with
    | some l =>
      have hlt := lt_of_at hx
      repeat' first | refine go_seq ?_ | refine go_region ?_ | refine go_miss rfl rfl rfl ?_ | refine go_undef rfl rfl rfl ?_ | ((first | refine go_op rfl ?_ | refine go_nil ?_ | refine go_hit rfl rfl rfl ?_ | refine go_splitT rfl rfl rfl (fun h => ?_) (fun h => ?_) | refine go_splitF rfl rfl rfl (fun h => ?_) (fun h => ?_) | refine go_storeBox rfl rfl rfl rfl rfl rfl ?_ | refine go_pickT rfl ?_ | refine go_pickF rfl ?_ | refine go_pick rfl (fun h => ?_) (fun h => ?_) | refine go_idxOwn rfl rfl rfl rfl rfl rfl (by rw [hll]; omega) ?_ | refine go_storeRow rfl rfl rfl rfl (fill_at _ _ hx) rfl rfl (fill_set _ _ hx) ?_) <;> conv => whnf) | ((first | refine go_loadB ?_ | refine ⟨by kernel_rfl, ?_⟩ | refine go_ret ?_) <;> conv => whnf) | refine go_block ?_ | ((first | refine go_skip ?_ | refine go_exit ?_) <;> conv => whnf) | refine go_true rfl ?_ | refine go_false rfl ?_ | refine go_cond rfl (fun h => ?_) (fun h => ?_) | refine ⟨rfl, ?_⟩ | ((first | refine ⟨trivial, ?_⟩ | refine ⟨le_of_ble rfl, ?_⟩) <;> conv => whnf) | fail
      all_goals first
        | exact go_next (i + 1) (by omega) (by omega) (ref_st id rfl ⟨rfl, rfl, rfl, ⟨rfl, rfl⟩, ⟨rfl, rfl⟩, rfl, next_i (by omega), trivial⟩ ⟨⟨rfl, wavs_imm _⟩, rfl, trivial⟩ (by simp) rfl (by simp))
        | (exfalso; have h' := of_decide_eq_false h; omega)
        | (exfalso; have h' := of_decide_eq_true h; omega)
        | (exfalso; rename_i hq; have h' := of_decide_eq_true hq; omega)
        | (exfalso; rename_i hq; have h' := of_decide_eq_false hq; omega)
        | (exfalso; rename_i hq _; have h' := of_decide_eq_true hq; omega)
        | (exfalso; rename_i hq _; have h' := of_decide_eq_false hq; omega)
        | trace_state
    | none =>
      have hge := le_of_at hx
      rw [fill_end _ _ _ hge, nbRow_nil now t.net.lines]
      repeat' first | refine go_seq ?_ | refine go_region ?_ | refine go_miss rfl rfl rfl ?_ | refine go_undef rfl rfl rfl ?_ | ((first | refine go_op rfl ?_ | refine go_nil ?_ | refine go_hit rfl rfl rfl ?_ | refine go_splitT rfl rfl rfl (fun h => ?_) (fun h => ?_) | refine go_splitF rfl rfl rfl (fun h => ?_) (fun h => ?_) | refine go_storeBox rfl rfl rfl rfl rfl rfl ?_ | refine go_pickT rfl ?_ | refine go_pickF rfl ?_ | refine go_pick rfl (fun h => ?_) (fun h => ?_) | refine go_call [] (hc1) rfl rfl rfl rfl ?_) <;> conv => whnf) | ((first | refine go_loadB ?_ | refine ⟨by kernel_rfl, ?_⟩ | refine go_ret ?_) <;> conv => whnf) | refine go_block ?_ | ((first | refine go_skip ?_ | refine go_exit ?_) <;> conv => whnf) | refine go_true rfl ?_ | refine go_false rfl ?_ | refine go_cond rfl (fun h => ?_) (fun h => ?_) | refine ⟨rfl, ?_⟩ | ((first | refine ⟨trivial, ?_⟩ | refine ⟨le_of_ble rfl, ?_⟩) <;> conv => whnf) | fail
      all_goals try first
        | (exfalso; have h' := of_decide_eq_false h; omega)
        | (exfalso; have h' := of_decide_eq_true h; omega)
        | (exfalso; rename_i hq; have h' := of_decide_eq_true hq; omega)
        | (exfalso; rename_i hq; have h' := of_decide_eq_false hq; omega)
        | (exfalso; rename_i hq _; have h' := of_decide_eq_true hq; omega)
        | (exfalso; rename_i hq _; have h' := of_decide_eq_false hq; omega)
      refine go_loop (α := Nat) (fun j => j ≤ (deps t ds stop).length) (fun j => (deps t ds stop).length - j)
        (fun j => st Try.f33.ntmps [(3, .imm (.int .i64 now)), (10, .own 1001 0 (t.net.lines.map Line.enc).length), (39, .imm (.list ((deps t ds stop).map Dep.enc))), (40, .imm (.int .i64 ((deps t ds stop).map Dep.enc).length)), (41, .imm (.int .i64 (j : Nat)))]
          [(1001, .arr 3 1 ((nbRow now t.net.lines.length ((deps t ds stop).take j)).map intRow))] []) 0 (Nat.zero_le _) ?_ ?_
      · exact ref_st id rfl ⟨rfl, ⟨rfl, rfl⟩, rfl, rfl, rfl, trivial⟩ ⟨rfl, trivial⟩ (by simp) rfl (by simp)
      intro j hj
      cases hy : (deps t ds stop)[j]? with
      | none =>
        have hge2 := le_of_at hy
        rw [List.take_of_length_le hge2]
        repeat' first | refine go_seq ?_ | refine go_region ?_ | refine go_miss rfl rfl rfl ?_ | refine go_undef rfl rfl rfl ?_ | ((first | refine go_op rfl ?_ | refine go_nil ?_ | refine go_hit rfl rfl rfl ?_ | refine go_splitT rfl rfl rfl (fun h => ?_) (fun h => ?_) | refine go_splitF rfl rfl rfl (fun h => ?_) (fun h => ?_) | refine go_storeBox rfl rfl rfl rfl rfl rfl ?_ | refine go_pickT rfl ?_ | refine go_pickF rfl ?_ | refine go_pick rfl (fun h => ?_) (fun h => ?_)) <;> conv => whnf) | ((first | refine go_loadB ?_ | refine ⟨by kernel_rfl, ?_⟩ | refine go_ret ?_) <;> conv => whnf) | refine go_block ?_ | ((first | refine go_skip ?_ | refine go_exit ?_) <;> conv => whnf) | refine go_true rfl ?_ | refine go_false rfl ?_ | refine go_cond rfl (fun h => ?_) (fun h => ?_) | refine ⟨rfl, ?_⟩ | ((first | refine ⟨trivial, ?_⟩ | refine ⟨le_of_ble rfl, ?_⟩) <;> conv => whnf) | fail
        all_goals try first
          | (exfalso; have h' := of_decide_eq_false h; omega)
          | (exfalso; have h' := of_decide_eq_true h; omega)
          | (exfalso; rename_i hq; have h' := of_decide_eq_true hq; omega)
          | (exfalso; rename_i hq; have h' := of_decide_eq_false hq; omega)
          | (exfalso; rename_i hq _; have h' := of_decide_eq_true hq; omega)
          | (exfalso; rename_i hq _; have h' := of_decide_eq_false hq; omega)
        · refine ret_arr2 rfl rfl rfl rfl rfl ?_ (int_gr _) rfl rfl rfl
          rw [List.drop_zero, List.take_of_length_le (by rw [nbRow_len, hll]; exact Nat.le_refl _)]
      | some d =>
        have hlt2 := lt_of_at hy
        have hr2 := row_at Dep.enc hy
        obtain ⟨k, hk, hkn⟩ := deps_at hok hy
        have hat := nbRow_at (now := now) ((deps t ds stop).take j) hkn
        have hnx := nbRow_next (now := now) hy hk hkn
        generalize hbst : nbBest now k ((deps t ds stop).take j) = best at *
        generalize hrows : (nbRow now t.net.lines.length ((deps t ds stop).take j)).map intRow = rows at *
        cases hC : nbC now best (IntKind.i64.wrap (d.time + d.delay)) with
        | true =>
          have hst : nbStep now best (IntKind.i64.wrap (d.time + d.delay)) = IntKind.i64.wrap (d.time + d.delay) := by unfold nbStep; rw [hC]; rfl
          rw [hst] at hnx
          unfold nbC at hC
          repeat' first | refine go_seq ?_ | refine go_region ?_ | refine go_miss rfl rfl rfl ?_ | refine go_undef rfl rfl rfl ?_ | ((first | refine go_op rfl ?_ | refine go_nil ?_ | refine go_hit rfl rfl rfl ?_ | refine go_splitT rfl rfl rfl (fun h => ?_) (fun h => ?_) | refine go_splitF rfl rfl rfl (fun h => ?_) (fun h => ?_) | refine go_storeBox rfl rfl rfl rfl rfl rfl ?_ | refine go_pickT rfl ?_ | refine go_pickF rfl ?_ | refine go_pick rfl (fun h => ?_) (fun h => ?_) | refine go_idx rfl rfl rfl rfl (by omega) hr2 rfl ?_ | refine go_idxOwnI (j := k) rfl rfl hk rfl rfl rfl rfl (by rw [hll]; exact hkn) ?_ | refine go_loadEl rfl rfl rfl hat ?_ | refine go_storeRow rfl rfl rfl rfl hat rfl rfl rfl ?_) <;> conv => whnf) | ((first | refine go_loadB ?_ | refine ⟨by kernel_rfl, ?_⟩ | refine go_ret ?_) <;> conv => whnf) | refine go_block ?_ | ((first | refine go_skip ?_ | refine go_exit ?_) <;> conv => whnf) | refine go_true rfl ?_ | refine go_false rfl ?_ | refine go_cond rfl (fun h => ?_) (fun h => ?_) | refine ⟨rfl, ?_⟩ | ((first | refine ⟨trivial, ?_⟩ | refine ⟨le_of_ble rfl, ?_⟩) <;> conv => whnf) | fail
          all_goals first
            | (refine go_next (j + 1) (by omega) (by omega) (ref_st id rfl ⟨rfl, ⟨rfl, rfl⟩, rfl, rfl, next_i (by omega), trivial⟩ ⟨?_, trivial⟩ (by simp) rfl (by simp))
               show some _ = some _
               rw [hnx]; try rfl
               done)
            | (exfalso; have h' := of_decide_eq_false h; omega)
            | (exfalso; have h' := of_decide_eq_true h; omega)
            | (exfalso; rename_i hq; have h' := of_decide_eq_true hq; omega)
            | (exfalso; rename_i hq; have h' := of_decide_eq_false hq; omega)
            | (exfalso; rename_i hq _; have h' := of_decide_eq_true hq; omega)
            | (exfalso; rename_i hq _; have h' := of_decide_eq_false hq; omega)
            | (exfalso; simp only [decide_eq_true_eq, decide_eq_false_iff_not, Bool.and_eq_true, Bool.or_eq_true] at *; omega)
            | trace_state
        | false =>
          have hst : nbStep now best (IntKind.i64.wrap (d.time + d.delay)) = best := by unfold nbStep; rw [hC]; rfl
          rw [hst] at hnx
          have hset : rows.set k (intRow best) = rows := by
            apply List.ext_getElem?
            intro q
            rw [List.getElem?_set]
            split
            · rename_i e; subst e; rw [hat]; split
              · rfl
              · rename_i hno; exact absurd (lt_of_at hat) hno
            · rfl
          rw [hset] at hnx
          unfold nbC at hC
          repeat' first | refine go_seq ?_ | refine go_region ?_ | refine go_miss rfl rfl rfl ?_ | refine go_undef rfl rfl rfl ?_ | ((first | refine go_op rfl ?_ | refine go_nil ?_ | refine go_hit rfl rfl rfl ?_ | refine go_splitT rfl rfl rfl (fun h => ?_) (fun h => ?_) | refine go_splitF rfl rfl rfl (fun h => ?_) (fun h => ?_) | refine go_storeBox rfl rfl rfl rfl rfl rfl ?_ | refine go_pickT rfl ?_ | refine go_pickF rfl ?_ | refine go_pick rfl (fun h => ?_) (fun h => ?_) | refine go_idx rfl rfl rfl rfl (by omega) hr2 rfl ?_ | refine go_idxOwnI (j := k) rfl rfl hk rfl rfl rfl rfl (by rw [hll]; exact hkn) ?_ | refine go_loadEl rfl rfl rfl hat ?_ | refine go_storeRow rfl rfl rfl rfl hat rfl rfl rfl ?_) <;> conv => whnf) | ((first | refine go_loadB ?_ | refine ⟨by kernel_rfl, ?_⟩ | refine go_ret ?_) <;> conv => whnf) | refine go_block ?_ | ((first | refine go_skip ?_ | refine go_exit ?_) <;> conv => whnf) | refine go_true rfl ?_ | refine go_false rfl ?_ | refine go_cond rfl (fun h => ?_) (fun h => ?_) | refine ⟨rfl, ?_⟩ | ((first | refine ⟨trivial, ?_⟩ | refine ⟨le_of_ble rfl, ?_⟩) <;> conv => whnf) | fail
          all_goals first
            | (refine go_next (j + 1) (by omega) (by omega) (ref_st id rfl ⟨rfl, ⟨rfl, rfl⟩, rfl, rfl, next_i (by omega), trivial⟩ ⟨?_, trivial⟩ (by simp) rfl (by simp))
               show some _ = some _
               rw [hnx]; try rfl
               done)
            | (exfalso; have h' := of_decide_eq_false h; omega)
            | (exfalso; have h' := of_decide_eq_true h; omega)
            | (exfalso; rename_i hq; have h' := of_decide_eq_true hq; omega)
            | (exfalso; rename_i hq; have h' := of_decide_eq_false hq; omega)
            | (exfalso; rename_i hq _; have h' := of_decide_eq_true hq; omega)
            | (exfalso; rename_i hq _; have h' := of_decide_eq_false hq; omega)
            | (exfalso; simp only [decide_eq_true_eq, decide_eq_false_iff_not, Bool.and_eq_false_iff, Bool.or_eq_false_iff] at *; omega)
            | trace_state

def nbFold (t : Timetable) (ds : List TripDelay) (stop now : Int) (k i : Nat) : Int := nbBest now k (depsN t ds stop i)
theorem nbFold_next {t : Timetable} {i : Nat} {x : Trip} (ds : List TripDelay) (stop now : Int) (k : Nat) (h : t.trips[i]? = some x) : nbFold t ds stop now k (i + 1) = match depOf t ds stop x with | some d => nbAdd now k (nbFold t ds stop now k i) d | none => nbFold t ds stop now k i := by
  unfold nbFold nbBest
  rw [depsN_next ds stop h, List.foldl_append]
  cases depOf t ds stop x <;> rfl

theorem c32 (t : Timetable) (hf : t.fit) (ds : List TripDelay) (hl : ds.length ≤ 1048576) (stop now : Int) : CallOk Try.prog 32 [.imm (.agg t.enc), .imm (.list (ds.map TripDelay.enc)), .imm (.int .i64 stop), .imm (.int .i64 now)] { res := [.arr 3 1 ((nbR t ds stop now).map intRow), .imm (.bool (nbOk t ds stop now))] } := by
  refine callOk_of tyOk Try.func32 rfl rfl (le_of_ble rfl) (le_of_ble rfl) (mutOk_imm rfl _) ?_
  have hc0 := c87 t hf ds hl stop
  have hc1 := c88 now
  cases hp : nbOk t ds stop now with
  | false =>
    have e1 : nbR t ds stop now = [] := by unfold nbR; rw [hp]; rfl
    rw [e1]
    unfold nbOk at hp
    repeat' first | refine go_seq ?_ | refine go_region ?_ | refine go_miss rfl rfl rfl ?_ | refine go_undef rfl rfl rfl ?_ | ((first | refine go_op rfl ?_ | refine go_nil ?_ | refine go_hit rfl rfl rfl ?_ | refine go_splitT rfl rfl rfl (fun h => ?_) (fun h => ?_) | refine go_splitF rfl rfl rfl (fun h => ?_) (fun h => ?_) | refine go_pickT rfl ?_ | refine go_pickF rfl ?_ | refine go_pick rfl (fun h => ?_) (fun h => ?_) | refine go_call [] (hc0) rfl rfl rfl rfl ?_ | refine go_call [] (hc1) rfl rfl rfl rfl ?_) <;> conv => whnf) | ((first | refine go_loadB ?_ | refine ⟨by kernel_rfl, ?_⟩ | refine go_ret ?_) <;> conv => whnf) | refine go_block ?_ | ((first | refine go_skip ?_ | refine go_exit ?_) <;> conv => whnf) | refine go_true rfl ?_ | refine go_false rfl ?_ | refine go_cond rfl (fun h => ?_) (fun h => ?_) | refine ⟨rfl, ?_⟩ | ((first | refine ⟨trivial, ?_⟩ | refine ⟨le_of_ble rfl, ?_⟩) <;> conv => whnf) | fail
    all_goals first
      | exact ret_arr2 rfl rfl rfl rfl rfl rfl (by intro r hr; cases hr) rfl rfl rfl
      | (exfalso; simp_all; done)
      | trace_state
  | true =>
    have e1 : nbR t ds stop now = nbRow now t.net.lines.length (deps t ds stop) := by unfold nbR; rw [hp]; rfl
    rw [e1]
    have hp' := hp
    unfold nbOk at hp'
    simp only [Bool.and_eq_true] at hp'
    rw [hp'.1, hp'.2.1] at hc0
    rw [hp'.2.2] at hc1
    have hok' := hp'.1
    unfold delaysOk at hok'
    simp only [Bool.and_eq_true] at hok'
    have hok := hok'.1
    have hnl : t.net.lines.length ≤ 1048576 := hf.1.2.2.1
    have hll : (t.net.lines.map Line.enc).length = t.net.lines.length := List.length_map _
    have htl : (t.trips.map Trip.enc).length = t.trips.length := List.length_map _
    have hnt : t.trips.length ≤ 1048576 := hf.2.1
    repeat' first | refine go_seq ?_ | refine go_region ?_ | refine go_miss rfl rfl rfl ?_ | refine go_undef rfl rfl rfl ?_ | ((first | refine go_op rfl ?_ | refine go_nil ?_ | refine go_hit rfl rfl rfl ?_ | refine go_splitT rfl rfl rfl (fun h => ?_) (fun h => ?_) | refine go_splitF rfl rfl rfl (fun h => ?_) (fun h => ?_) | refine go_pickT rfl ?_ | refine go_pickF rfl ?_ | refine go_pick rfl (fun h => ?_) (fun h => ?_) | refine go_call [] (hc0) rfl rfl rfl rfl ?_ | refine go_call [] (hc1) rfl rfl rfl rfl ?_) <;> conv => whnf) | ((first | refine go_loadB ?_ | refine ⟨by kernel_rfl, ?_⟩ | refine go_ret ?_) <;> conv => whnf) | refine go_block ?_ | ((first | refine go_skip ?_ | refine go_exit ?_) <;> conv => whnf) | refine go_true rfl ?_ | refine go_false rfl ?_ | refine go_cond rfl (fun h => ?_) (fun h => ?_) | refine ⟨rfl, ?_⟩ | ((first | refine ⟨trivial, ?_⟩ | refine ⟨le_of_ble rfl, ?_⟩) <;> conv => whnf) | fail
    refine go_loop (α := Nat) (fun k => k ≤ t.net.lines.length) (fun k => t.net.lines.length - k)
      (fun k => st Try.f32.ntmps [(1, .imm (.list (ds.map TripDelay.enc))), (2, .imm (.int .i64 stop)), (3, .imm (.int .i64 now)), (4, .box 1000 0), (10, .own 1001 0 ((nbRow now k (deps t ds stop)).map intRow).length), (11, .imm (.int .i64 (k : Nat)))]
        [(1000, .box 38 (t.enc.map .imm)), (1001, .arr 3 1 ((nbRow now k (deps t ds stop)).map intRow))] []) 0 (Nat.zero_le _) ?_ ?_
    · exact ref_st (fun y => if y = 1000 then nid 1 4 else nid 2 16) rfl ⟨rfl, rfl, rfl, ⟨rfl, rfl⟩, ⟨rfl, rfl⟩, rfl, trivial⟩ ⟨⟨rfl, wavs_imm _⟩, rfl, trivial⟩ (by simp [nid]) rfl (by simp)
    intro k hk
    by_cases hlt : k < t.net.lines.length
    · have hb : ((nbRow now k (deps t ds stop)).map intRow).length + 1 ≤ 1073741824 := by rw [nbRow_len]; omega
      repeat' first | refine go_seq ?_ | refine go_region ?_ | refine go_miss rfl rfl rfl ?_ | refine go_undef rfl rfl rfl ?_ | ((first | refine go_op rfl ?_ | refine go_nil ?_ | refine go_hit rfl rfl rfl ?_ | refine go_splitT rfl rfl rfl (fun h => ?_) (fun h => ?_) | refine go_splitF rfl rfl rfl (fun h => ?_) (fun h => ?_) | refine go_pickT rfl ?_ | refine go_pickF rfl ?_ | refine go_pick rfl (fun h => ?_) (fun h => ?_)) <;> conv => whnf) | ((first | refine go_loadB ?_ | refine ⟨by kernel_rfl, ?_⟩ | refine go_ret ?_) <;> conv => whnf) | refine go_block ?_ | ((first | refine go_skip ?_ | refine go_exit ?_) <;> conv => whnf) | refine go_true rfl ?_ | refine go_false rfl ?_ | refine go_cond rfl (fun h => ?_) (fun h => ?_) | refine ⟨rfl, ?_⟩ | ((first | refine ⟨trivial, ?_⟩ | refine ⟨le_of_ble rfl, ?_⟩) <;> conv => whnf) | fail
      all_goals try first
        | (exfalso; have h' := of_decide_eq_false h; omega)
        | (exfalso; have h' := of_decide_eq_true h; omega)
        | (exfalso; rename_i hq; have h' := of_decide_eq_true hq; omega)
        | (exfalso; rename_i hq; have h' := of_decide_eq_false hq; omega)
        | (exfalso; rename_i hq _; have h' := of_decide_eq_true hq; omega)
        | (exfalso; rename_i hq _; have h' := of_decide_eq_false hq; omega)
      refine go_loop (α := Nat) (fun i => i ≤ t.trips.length) (fun i => t.trips.length - i)
        (fun i => st Try.f32.ntmps [(1, .imm (.list (ds.map TripDelay.enc))), (2, .imm (.int .i64 stop)), (3, .imm (.int .i64 now)), (4, .box 1000 0), (10, .own 1001 0 ((nbRow now k (deps t ds stop)).map intRow).length), (11, .imm (.int .i64 (k : Nat))), (12, .imm (.int .i64 (nbFold t ds stop now k i))), (13, .imm (.int .i64 (i : Nat)))]
          [(1000, .box 38 (t.enc.map .imm)), (1001, .arr 3 1 ((nbRow now k (deps t ds stop)).map intRow))] []) 0 (Nat.zero_le _) ?_ ?_
      · exact ref_st id rfl ⟨rfl, rfl, rfl, ⟨rfl, rfl⟩, ⟨rfl, rfl⟩, rfl, rfl, rfl, trivial⟩ ⟨⟨rfl, wavs_imm _⟩, rfl, trivial⟩ (by simp) rfl (by simp)
      intro i hi
      cases hy : t.trips[i]? with
      | some x =>
        have hlt2 := lt_of_at hy
        have hr2 := row_at Trip.enc hy
        obtain ⟨l, hg⟩ := good_of hok hy
        have hnx := nbFold_next ds stop now k hy
        have hc2 := c89 t ds hg hf stop
        have hc3 := c85 ds x.id hl
        generalize hbst : nbFold t ds stop now k i = best at *
        cases hd : depOf t ds stop x with
        | none =>
          rw [hd] at hnx hc2
          change _ = best at hnx
          change CallOk _ _ _ { res := [.imm (.int .i64 (-1))] } at hc2
          repeat' first | refine go_seq ?_ | refine go_region ?_ | refine go_miss rfl rfl rfl ?_ | refine go_undef rfl rfl rfl ?_ | ((first | refine go_op rfl ?_ | refine go_nil ?_ | refine go_hit rfl rfl rfl ?_ | refine go_splitT rfl rfl rfl (fun h => ?_) (fun h => ?_) | refine go_splitF rfl rfl rfl (fun h => ?_) (fun h => ?_) | refine go_pickT rfl ?_ | refine go_pickF rfl ?_ | refine go_pick rfl (fun h => ?_) (fun h => ?_) | refine go_call [] (hc2) rfl rfl rfl rfl ?_ | refine go_call [] (hc3) rfl rfl rfl rfl ?_ | refine go_idx rfl rfl rfl rfl (by omega) hr2 rfl ?_) <;> conv => whnf) | ((first | refine go_loadB ?_ | refine ⟨by kernel_rfl, ?_⟩ | refine go_ret ?_) <;> conv => whnf) | refine go_block ?_ | ((first | refine go_skip ?_ | refine go_exit ?_) <;> conv => whnf) | refine go_true rfl ?_ | refine go_false rfl ?_ | refine go_cond rfl (fun h => ?_) (fun h => ?_) | refine ⟨rfl, ?_⟩ | ((first | refine ⟨trivial, ?_⟩ | refine ⟨le_of_ble rfl, ?_⟩) <;> conv => whnf) | fail
          all_goals first
            | (refine go_next (i + 1) (by omega) (by omega) (ref_st id rfl ⟨rfl, rfl, rfl, ⟨rfl, rfl⟩, ⟨rfl, rfl⟩, rfl, ?_, next_i (by omega), trivial⟩ ⟨⟨rfl, wavs_imm _⟩, rfl, trivial⟩ (by simp) rfl (by simp))
               show AV.imm (D.int _ _) = AV.imm (D.int _ _)
               rw [hnx]; try rfl
               done)
            | (exfalso; have h' := of_decide_eq_false h; omega)
            | (exfalso; have h' := of_decide_eq_true h; omega)
            | (exfalso; rename_i hq; have h' := of_decide_eq_true hq; omega)
            | (exfalso; rename_i hq; have h' := of_decide_eq_false hq; omega)
            | (exfalso; rename_i hq _; have h' := of_decide_eq_true hq; omega)
            | (exfalso; rename_i hq _; have h' := of_decide_eq_false hq; omega)
            | (exfalso; rename_i hq; simp at hq; done)
            | (exfalso; rename_i hq _; simp at hq; done)
            | (exfalso; rename_i hq _ _; simp at hq; done)
            | trace_state
        | some d =>
          have hde : d.time = stopAt x l (plAt l stop).toNat ∧ d.delay = delOf ds x.id ∧ d.trip = x ∧ 0 ≤ d.time := by
            have hd' := hd
            unfold depOf at hd'
            rw [hg.on.ln] at hd'
            simp only at hd'
            split at hd'
            · rename_i hgo
              injection hd' with hd'
              subst hd'
              refine ⟨rfl, rfl, rfl, ?_⟩
              simp only [goes, Bool.and_eq_true, decide_eq_true_eq] at hgo
              have := hg.rs
              have := hg.r5
              show 0 ≤ stopAt x l (plAt l stop).toNat
              rw [hg.at _ (by omega)]
              have := hg.bd (plAt l stop).toNat (by omega)
              have := (inR_iff _ _ _).1 hg.st
              omega
            · cases hd'
          obtain ⟨_, hd2, hd3, hd4⟩ := hde
          rw [hd] at hnx hc2
          change CallOk _ _ _ { res := [.imm (.int .i64 d.time)] } at hc2
          change _ = nbAdd now k best d at hnx
          rw [← hd2] at hc3
          unfold nbAdd nbStep nbC at hnx
          rw [hd3] at hnx
          repeat' first | refine go_seq ?_ | refine go_region ?_ | refine go_miss rfl rfl rfl ?_ | refine go_undef rfl rfl rfl ?_ | ((first | refine go_op rfl ?_ | refine go_nil ?_ | refine go_hit rfl rfl rfl ?_ | refine go_splitT rfl rfl rfl (fun h => ?_) (fun h => ?_) | refine go_splitF rfl rfl rfl (fun h => ?_) (fun h => ?_) | refine go_pickT rfl ?_ | refine go_pickF rfl ?_ | refine go_pick rfl (fun h => ?_) (fun h => ?_) | refine go_call [] (hc2) rfl rfl rfl rfl ?_ | refine go_call [] (hc3) rfl rfl rfl rfl ?_ | refine go_idx rfl rfl rfl rfl (by omega) hr2 rfl ?_) <;> conv => whnf) | ((first | refine go_loadB ?_ | refine ⟨by kernel_rfl, ?_⟩ | refine go_ret ?_) <;> conv => whnf) | refine go_block ?_ | ((first | refine go_skip ?_ | refine go_exit ?_) <;> conv => whnf) | refine go_true rfl ?_ | refine go_false rfl ?_ | refine go_cond rfl (fun h => ?_) (fun h => ?_) | refine ⟨rfl, ?_⟩ | ((first | refine ⟨trivial, ?_⟩ | refine ⟨le_of_ble rfl, ?_⟩) <;> conv => whnf) | fail
          all_goals first
            | (refine go_next (i + 1) (by omega) (by omega) (ref_st id rfl ⟨rfl, rfl, rfl, ⟨rfl, rfl⟩, ⟨rfl, rfl⟩, rfl, ?_, next_i (by omega), trivial⟩ ⟨⟨rfl, wavs_imm _⟩, rfl, trivial⟩ (by simp) rfl (by simp))
               show AV.imm (D.int _ _) = AV.imm (D.int _ _)
               rw [hnx]
               simp only [decide_eq_true_eq, decide_eq_false_iff_not] at *
               congr 2
               first
                 | (rw [if_pos (by assumption), if_pos (by simp only [Bool.and_eq_true, Bool.or_eq_true, decide_eq_true_eq]; omega)]; done)
                 | (rw [if_pos (by assumption), if_neg (by simp only [Bool.and_eq_true, Bool.or_eq_true, decide_eq_true_eq]; omega)]; done)
                 | (rw [if_neg (by assumption)]; done)
               done)
            | (exfalso; have h' := of_decide_eq_false h; omega)
            | (exfalso; have h' := of_decide_eq_true h; omega)
            | (exfalso; rename_i hq; have h' := of_decide_eq_true hq; omega)
            | (exfalso; rename_i hq; have h' := of_decide_eq_false hq; omega)
            | (exfalso; rename_i hq _; have h' := of_decide_eq_true hq; omega)
            | (exfalso; rename_i hq _; have h' := of_decide_eq_false hq; omega)
            | trace_state
      | none =>
        have hge2 := le_of_at hy
        have hfe : nbFold t ds stop now k i = nbBest now k (deps t ds stop) := by unfold nbFold; rw [deps_all ds stop hge2]
        rw [hfe]
        have hone := int_one [nbBest now k (deps t ds stop)]
        have hrow : (nbRow now (k + 1) (deps t ds stop)).map intRow = (nbRow now k (deps t ds stop)).map intRow ++ [nbBest now k (deps t ds stop)].map intRow := by
          unfold nbRow
          rw [List.range_succ, List.map_append, List.map_append]
          rfl
        repeat' first | refine go_seq ?_ | refine go_region ?_ | refine go_miss rfl rfl rfl ?_ | refine go_undef rfl rfl rfl ?_ | ((first | refine go_op rfl ?_ | refine go_nil ?_ | refine go_hit rfl rfl rfl ?_ | refine go_splitT rfl rfl rfl (fun h => ?_) (fun h => ?_) | refine go_splitF rfl rfl rfl (fun h => ?_) (fun h => ?_) | refine go_pickT rfl ?_ | refine go_pickF rfl ?_ | refine go_pick rfl (fun h => ?_) (fun h => ?_) | refine go_append (rows2 := [nbBest now k (deps t ds stop)].map intRow) rfl rfl rfl rfl rfl rfl rfl rfl rfl rfl rfl rfl hone rfl rfl rfl hb ?_) <;> conv => whnf) | ((first | refine go_loadB ?_ | refine ⟨by kernel_rfl, ?_⟩ | refine go_ret ?_) <;> conv => whnf) | refine go_block ?_ | ((first | refine go_skip ?_ | refine go_exit ?_) <;> conv => whnf) | refine go_true rfl ?_ | refine go_false rfl ?_ | refine go_cond rfl (fun h => ?_) (fun h => ?_) | refine ⟨rfl, ?_⟩ | ((first | refine ⟨trivial, ?_⟩ | refine ⟨le_of_ble rfl, ?_⟩) <;> conv => whnf) | fail
        all_goals first
          | (refine go_next (k + 1) (by omega) (by omega) (ref_st (fun y => if y = 1001 then nid 3 87 else y) rfl ⟨rfl, rfl, rfl, ⟨rfl, rfl⟩, ⟨?_, rfl⟩, next_i (by omega), trivial⟩ ⟨⟨rfl, wavs_imm _⟩, ?_, trivial⟩ (by simp [nid]) rfl (by simp))
             · show AV.own _ _ _ = AV.own _ _ _
               rw [hrow, List.length_append]; try rfl
             · show some _ = some _
               rw [hrow]; try rfl
             done)
          | (exfalso; have h' := of_decide_eq_false h; omega)
          | (exfalso; have h' := of_decide_eq_true h; omega)
          | (exfalso; rename_i hq; have h' := of_decide_eq_true hq; omega)
          | (exfalso; rename_i hq; have h' := of_decide_eq_false hq; omega)
          | (exfalso; rename_i hq _; have h' := of_decide_eq_true hq; omega)
          | (exfalso; rename_i hq _; have h' := of_decide_eq_false hq; omega)
          | trace_state
    · have hke : k = t.net.lines.length := by omega
      rw [hke]
      repeat' first | refine go_seq ?_ | refine go_region ?_ | refine go_miss rfl rfl rfl ?_ | refine go_undef rfl rfl rfl ?_ | ((first | refine go_op rfl ?_ | refine go_nil ?_ | refine go_hit rfl rfl rfl ?_ | refine go_splitT rfl rfl rfl (fun h => ?_) (fun h => ?_) | refine go_splitF rfl rfl rfl (fun h => ?_) (fun h => ?_) | refine go_pickT rfl ?_ | refine go_pickF rfl ?_ | refine go_pick rfl (fun h => ?_) (fun h => ?_)) <;> conv => whnf) | ((first | refine go_loadB ?_ | refine ⟨by kernel_rfl, ?_⟩ | refine go_ret ?_) <;> conv => whnf) | refine go_block ?_ | ((first | refine go_skip ?_ | refine go_exit ?_) <;> conv => whnf) | refine go_true rfl ?_ | refine go_false rfl ?_ | refine go_cond rfl (fun h => ?_) (fun h => ?_) | refine ⟨rfl, ?_⟩ | ((first | refine ⟨trivial, ?_⟩ | refine ⟨le_of_ble rfl, ?_⟩) <;> conv => whnf) | fail
      all_goals first
        | exact ret_arr2 rfl rfl rfl rfl rfl (by rw [List.drop_zero, List.take_length]) (int_gr _) rfl rfl rfl
        | (exfalso; have h' := of_decide_eq_false h; omega)
        | (exfalso; have h' := of_decide_eq_true h; omega)
        | (exfalso; rename_i hq; have h' := of_decide_eq_true hq; omega)
        | (exfalso; rename_i hq; have h' := of_decide_eq_false hq; omega)
        | (exfalso; rename_i hq _; have h' := of_decide_eq_true hq; omega)
        | (exfalso; rename_i hq _; have h' := of_decide_eq_false hq; omega)
        | trace_state

theorem c6 (t : Timetable) (hok_t : t.ok) (ds : List TripDelay) (_ : ∀ v ∈ ds, v.ok) (hl_ds : ds.length ≤ 9223372036854775807) (stop : Int) (_ : i64 stop) (now : Int) (_ : i64 now) : CallOk Try.prog 6 [.imm (.agg t.enc), .imm (.list (ds.map TripDelay.enc)), .imm (.int .i64 stop), .imm (.int .i64 now)] { res := [.imm (.bool true)] } := by
  refine callOk_of tyOk Try.func6 rfl rfl (le_of_ble rfl) (le_of_ble rfl) (mutOk_imm rfl _) ?_
  have hsz1 := c13 t hok_t (1048576) (by omega) (by omega)
  have hle1 := szTimetable_sz.le (1048576) t (by omega)
  by_cases h01 : 0 ≤ szTimetable 1048576 t
  case neg =>
    repeat' first | refine go_seq ?_ | refine go_region ?_ | refine go_miss rfl rfl rfl ?_ | refine go_undef rfl rfl rfl ?_ | refine go_draw drawsOk ?_ | ((first | refine go_op rfl ?_ | refine go_nil ?_ | refine go_hit rfl rfl rfl ?_ | refine go_splitT rfl rfl rfl (fun h => ?_) (fun h => ?_) | refine go_splitF rfl rfl rfl (fun h => ?_) (fun h => ?_) | refine go_storeBox rfl rfl rfl rfl rfl rfl ?_ | refine go_dop rfl ?_ | refine go_dhit rfl rfl ?_ | refine go_dmiss rfl rfl ?_ | refine go_dundef rfl rfl ?_ | refine go_dend (by kernel_rfl) ?_ | refine go_pickT rfl ?_ | refine go_pickF rfl ?_ | refine go_pick rfl (fun h => ?_) (fun h => ?_) | refine go_call [] (hsz1) rfl rfl rfl rfl ?_) <;> conv => whnf) | ((first | refine go_dsplit2 rfl (fun h => ?_) (fun h => ?_) | refine go_loadB ?_ | refine ⟨by kernel_rfl, ?_⟩ | refine go_ret ?_) <;> conv => whnf) | ((first | refine go_skip ?_) <;> conv => whnf) | refine go_true rfl ?_ | refine go_false rfl ?_ | refine go_cond rfl (fun h => ?_) (fun h => ?_) | refine ⟨rfl, ?_⟩ | ((first | refine ⟨trivial, ?_⟩ | refine ⟨le_of_ble rfl, ?_⟩) <;> conv => whnf) | fail
    all_goals first
      | exact ret_imm rfl rfl rfl rfl rfl rfl
      | (exfalso; have h' := of_decide_eq_false h; omega)
      | (exfalso; have h' := of_decide_eq_true h; omega)
      | (exfalso; rename_i hq; have h' := of_decide_eq_true hq; omega)
      | (exfalso; rename_i hq; have h' := of_decide_eq_false hq; omega)
      | (exfalso; rename_i hq _; have h' := of_decide_eq_true hq; omega)
      | (exfalso; rename_i hq _; have h' := of_decide_eq_false hq; omega)
      | trace_state
  have hf_t := szTimetable_fit (by omega) h01
  have hsz2 := c14 ds hl_ds (szTimetable 1048576 t) (by omega) (by omega)
  have hle2 := szTripDelayS_sz.le (szTimetable 1048576 t) ds (by omega)
  by_cases h02 : 0 ≤ szTripDelayS (szTimetable 1048576 t) ds
  case neg =>
    repeat' first | refine go_seq ?_ | refine go_region ?_ | refine go_miss rfl rfl rfl ?_ | refine go_undef rfl rfl rfl ?_ | refine go_draw drawsOk ?_ | ((first | refine go_op rfl ?_ | refine go_nil ?_ | refine go_hit rfl rfl rfl ?_ | refine go_splitT rfl rfl rfl (fun h => ?_) (fun h => ?_) | refine go_splitF rfl rfl rfl (fun h => ?_) (fun h => ?_) | refine go_storeBox rfl rfl rfl rfl rfl rfl ?_ | refine go_dop rfl ?_ | refine go_dhit rfl rfl ?_ | refine go_dmiss rfl rfl ?_ | refine go_dundef rfl rfl ?_ | refine go_dend (by kernel_rfl) ?_ | refine go_pickT rfl ?_ | refine go_pickF rfl ?_ | refine go_pick rfl (fun h => ?_) (fun h => ?_) | refine go_call [] (hsz1) rfl rfl rfl rfl ?_ | refine go_call [] (hsz2) rfl rfl rfl rfl ?_) <;> conv => whnf) | ((first | refine go_dsplit2 rfl (fun h => ?_) (fun h => ?_) | refine go_loadB ?_ | refine ⟨by kernel_rfl, ?_⟩ | refine go_ret ?_) <;> conv => whnf) | ((first | refine go_skip ?_) <;> conv => whnf) | refine go_true rfl ?_ | refine go_false rfl ?_ | refine go_cond rfl (fun h => ?_) (fun h => ?_) | refine ⟨rfl, ?_⟩ | ((first | refine ⟨trivial, ?_⟩ | refine ⟨le_of_ble rfl, ?_⟩) <;> conv => whnf) | fail
    all_goals first
      | exact ret_imm rfl rfl rfl rfl rfl rfl
      | (exfalso; have h' := of_decide_eq_false h; omega)
      | (exfalso; have h' := of_decide_eq_true h; omega)
      | (exfalso; rename_i hq; have h' := of_decide_eq_true hq; omega)
      | (exfalso; rename_i hq; have h' := of_decide_eq_false hq; omega)
      | (exfalso; rename_i hq _; have h' := of_decide_eq_true hq; omega)
      | (exfalso; rename_i hq _; have h' := of_decide_eq_false hq; omega)
      | trace_state
  have hlds : ds.length ≤ 1048576 := by have := less_pos (k := ds.length) h02; omega
  have hrl : (nbR t ds stop now).length ≤ 1048576 := nbR_len t hf_t ds stop now
  have hspec : CallOk Try.prog 32 [.imm (.agg t.enc), .imm (.list (((ds.map TripDelay.enc).drop 0).take (ds.map TripDelay.enc).length)), .imm (.int .i64 stop), .imm (.int .i64 now)] { res := [.arr 3 1 ((nbR t ds stop now).map intRow), .imm (.bool (nbOk t ds stop now))] } := by rw [tripDelay_view]; exact c32 t hf_t ds hlds stop now
  have himpl : CallOk Try.prog 33 [.imm (.agg t.enc), .imm (.list (((ds.map TripDelay.enc).drop 0).take (ds.map TripDelay.enc).length)), .imm (.int .i64 stop), .imm (.int .i64 now)] { res := [.arr 3 1 ((nbR t ds stop now).map intRow), .imm (.bool (nbOk t ds stop now))] } := by rw [tripDelay_view]; exact c33 t hf_t ds hlds stop now
  have hct1 := cntTimetable_le hf_t
  have hm1 := k25 t hf_t 1 (by omega) (by omega)
  have heq_ds : CallOk Try.prog 20 [.imm (.list (((ds.map TripDelay.enc).drop 0).take (ds.map TripDelay.enc).length)), .imm (.list (((ds.map TripDelay.enc).drop 0).take (ds.map TripDelay.enc).length))] { res := [.imm (.bool true)] } := by rw [tripDelay_view]; exact c20s ds hlds
  have hm2 := c30 ds (1 + (cntTimetable t : Nat)) (by omega) (by omega) hlds
  have hq2 := kAt_eq (k := (1 + (cntTimetable t : Nat))) (by omega) (2 * ds.length) (by omega)
  have heqR : CallOk Try.prog 24 [.imm (.list ((((nbR t ds stop now).map intRow).drop 0).take ((nbR t ds stop now).map intRow).length)), .imm (.list ((((nbR t ds stop now).map intRow).drop 0).take ((nbR t ds stop now).map intRow).length))] { res := [.imm (.bool true)] } := by rw [int_view]; exact c24s _ hrl
  have hmR := c26 (nbR t ds stop now) 1 (by omega) (by omega) hrl
  have hhR : CallOk Try.prog 27 [.imm (.list ((((marksIntX 1 (nbR t ds stop now).length).map intRow).drop 0).take ((nbR t ds stop now).map intRow).length)), .imm (.int .i64 1)] { res := [.imm (.int .i64 (kAt 1 (1 * (nbR t ds stop now).length)))] } := by
    have := c27 1 (nbR t ds stop now).length (by omega) (by omega) hrl
    rwa [show ((((marksIntX 1 (nbR t ds stop now).length).map intRow).drop 0).take ((nbR t ds stop now).map intRow).length) = (marksIntX 1 (nbR t ds stop now).length).map intRow from by rw [List.drop_zero, List.take_of_length_le (by simp [marksIntX])]]
  have hqR := kAt_eq (k := 1) (by omega) (1 * (nbR t ds stop now).length) (by omega)
  repeat' first | refine go_seq ?_ | refine go_region ?_ | refine go_miss rfl rfl rfl ?_ | refine go_undef rfl rfl rfl ?_ | refine go_draw drawsOk ?_ | ((first | refine go_op rfl ?_ | refine go_nil ?_ | refine go_hit rfl rfl rfl ?_ | refine go_splitT rfl rfl rfl (fun h => ?_) (fun h => ?_) | refine go_splitF rfl rfl rfl (fun h => ?_) (fun h => ?_) | refine go_storeBox rfl rfl rfl rfl rfl rfl ?_ | refine go_dop rfl ?_ | refine go_dhit rfl rfl ?_ | refine go_dmiss rfl rfl ?_ | refine go_dundef rfl rfl ?_ | refine go_dend (by kernel_rfl) ?_ | refine go_pickT rfl ?_ | refine go_pickF rfl ?_ | refine go_pick rfl (fun h => ?_) (fun h => ?_) | refine go_call [] (hsz1) rfl rfl rfl rfl ?_ | refine go_call [] (hsz2) rfl rfl rfl rfl ?_ | refine go_call [] (g16 t hf_t) rfl rfl rfl rfl ?_ | refine go_call [] (c19s t hf_t) rfl rfl rfl rfl ?_ | refine go_call [] (c17a ds hlds) rfl rfl rfl rfl ?_ | refine go_call [] (heq_ds) rfl rfl rfl rfl ?_ | refine go_call [] (hspec) rfl rfl rfl rfl ?_ | refine go_call [] (himpl) rfl rfl rfl rfl ?_ | refine go_call [] (heqR) rfl rfl rfl rfl ?_ | refine go_call [3] (hm1) rfl rfl rfl rfl ?_ | refine go_call [2, 0] hm2 (argsIn_lent rfl rfl rfl) rfl rfl rfl ?_ | refine go_call [2, 0] hmR (argsIn_lent rfl rfl rfl) rfl rfl rfl ?_ | refine go_call [] (hhR) rfl rfl rfl rfl ?_) <;> conv => whnf) | ((first | refine go_dsplit2 rfl (fun h => ?_) (fun h => ?_) | refine go_loadB ?_ | refine ⟨by kernel_rfl, ?_⟩ | refine go_ret ?_) <;> conv => whnf) | ((first | refine go_skip ?_) <;> conv => whnf) | refine go_true rfl ?_ | refine go_false rfl ?_ | refine go_cond rfl (fun h => ?_) (fun h => ?_) | refine ⟨rfl, ?_⟩ | ((first | refine ⟨trivial, ?_⟩ | refine ⟨le_of_ble rfl, ?_⟩) <;> conv => whnf) | fail
  all_goals first
    | exact ret_imm rfl rfl rfl rfl rfl rfl
    | (exfalso; simp at h; done)
    | (exfalso; simp at h; omega)
    | (exfalso; have h' := of_decide_eq_false h; omega)
    | (exfalso; have h' := of_decide_eq_true h; omega)
    | (exfalso; rename_i hq; have h' := of_decide_eq_true hq; omega)
    | (exfalso; rename_i hq; have h' := of_decide_eq_false hq; omega)
    | (exfalso; rename_i hq _; have h' := of_decide_eq_true hq; omega)
    | (exfalso; rename_i hq _; have h' := of_decide_eq_false hq; omega)
    | trace_state
end Go.Proofs.Ytiedooadnafghaa

