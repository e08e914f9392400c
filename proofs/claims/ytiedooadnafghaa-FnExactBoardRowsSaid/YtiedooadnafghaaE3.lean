/- The walks of predicted arrivals, and the law of PredictArrivals, walked. -/
import Derived.Test.YtiedooadnafghaaT4
import Derived.Test.YtiedooadnafghaaE1
namespace Go.Proofs.Ytiedooadnafghaa
open Go Go.Am
set_option maxRecDepth 100000
set_option maxHeartbeats 4000000
attribute [local irreducible] amOps amC opCall opIndexAddr opPick retQ opMake opStore amDraw opAppend opLoad opNilCmp opIndex opSlice

theorem idxF_spec {α : Type} {p : α → Bool} {xs : List α} (h : 0 ≤ idxF p xs) : ∃ (i : Nat) (x : α), idxF p xs = i ∧ xs[i]? = some x ∧ p x = true := by
  unfold idxF at h ⊢
  split at h
  · rename_i ha
    rw [if_pos ha]
    have hlt : xs.findIdx p < xs.length := List.findIdx_lt_length_of_exists (List.any_eq_true.1 ha)
    exact ⟨_, _, rfl, List.getElem?_eq_getElem hlt, List.findIdx_getElem⟩
  · omega

/-- What is so of a trip of a valid timetable and its line. -/
structure Good (t : Timetable) (i : Nat) (x : Trip) (l : Line) : Prop where
  on : OnLine t i x l
  st : timeOk x.start = true
  rs : l.runs.length + 1 = l.stops.length
  r5 : l.runs.length ≤ 5
  bd : ∀ k : Nat, k ≤ 1000 → 0 ≤ totW (l.runs.take k) ∧ totW (l.runs.take k) ≤ 60 * k
theorem good_of {t : Timetable} (h : ttOk t = true) {i : Nat} {x : Trip} (hx : t.trips[i]? = some x) : ∃ l, Good t i x l := by
  have h1 := tripAt_of h hx
  unfold tripAtS at h1
  simp only [Bool.and_eq_true] at h1
  obtain ⟨h0, l, h2, h3, _, _⟩ := line_at h1.2.1
  have hn : netOk t.net = true := by unfold ttOk at h; simp only [Bool.and_eq_true] at h; exact h.1
  unfold netOk at hn
  simp only [Bool.and_eq_true] at hn
  have hl := List.all_eq_true.1 hn.2 l (List.mem_of_getElem? h3)
  have hl' := hl
  unfold lineOk at hl'
  simp only [Bool.and_eq_true, decide_eq_true_eq] at hl'
  have hs := (inR_iff _ _ _).1 hl'.1.1.1
  exact ⟨l, ⟨⟨hx, h3, h0⟩, h1.2.2.1, by omega, by omega, fun k hk => tot_bd (runs_bd hl) k hk⟩⟩
theorem Good.at {t : Timetable} {i : Nat} {x : Trip} {l : Line} (h : Good t i x l) (k : Nat) (hk : k ≤ 1000) : stopAt x l k = x.start + totW (l.runs.take k) := by
  have h1 := (inR_iff _ _ _).1 h.st
  have h2 := h.bd k hk
  unfold stopAt
  exact wrap_small (by omega) (by omega)

def mx0 (d : Int) : Int := if d > 0 then d else 0
def paP (l : Line) (done : Int) (k : Nat) : Bool := decide (done < totW (l.runs.take k))
def paV (x : Trip) (l : Line) (d : Int) (k : Nat) : Int := IntKind.i64.wrap (stopAt x l k + mx0 d)
def paOut (x : Trip) (l : Line) (d done : Int) (n : Nat) : List Int := ((List.range n).filter (paP l done)).map (paV x l d)
theorem paOut_next (x : Trip) (l : Line) (d done : Int) (n : Nat) : paOut x l d done (n + 1) = if paP l done n = true then paOut x l d done n ++ [paV x l d n] else paOut x l d done n := by
  unfold paOut
  rw [List.range_succ, List.filter_append, List.map_append]
  by_cases h : paP l done n = true <;> simp [h]
theorem paOut_len (x : Trip) (l : Line) (d done : Int) (n : Nat) : (paOut x l d done n).length ≤ n := by
  unfold paOut
  rw [List.length_map]
  exact Nat.le_trans (List.length_filter_le _ _) (by simp)

structure Match where
  vehicle : Int
  id : Int
  delay : Int
def Match.enc (v : Match) : List D := [.int .i64 v.vehicle, .int .i64 v.id, .int .i64 v.delay]
def Match.ok (v : Match) : Prop := i64 v.vehicle ∧ i64 v.id ∧ i64 v.delay

def paPre (t : Timetable) (m : Match) : Bool := ttOk t && (inR m.vehicle 1 99 && (inR m.delay (-1799) 1799 && hasTrip t m.id))
def paFind (t : Timetable) (m : Match) : Option (Trip × Line) :=
  if paPre t m then (match t.trips[(idxF (pId m.id) t.trips).toNat]? with | some x => (match t.net.lines[x.line.toNat]? with | some l => some (x, l) | none => none) | none => none) else none
def paOk (t : Timetable) (m : Match) (done : Int) : Bool := match paFind t m with | some y => inR done 0 (totW y.2.runs) | none => false
def paR (t : Timetable) (m : Match) (done : Int) : List Int := if paOk t m done then (match paFind t m with | some y => paOut y.1 y.2 m.delay done (y.2.runs.length + 1) | none => []) else []
theorem c77 (a b : Int) : CallOk Try.prog 77 [.imm (.int .i64 a), .imm (.int .i64 b)] { res := [.imm (.int .i64 (if a > b then a else b))] } := by
  refine callOk_of tyOk Try.func77 rfl rfl (le_of_ble rfl) (le_of_ble rfl) (mutOk_imm rfl _) ?_
  repeat' first | refine go_seq ?_ | refine go_region ?_ | ((first | refine go_op rfl ?_ | refine go_nil ?_) <;> conv => whnf) | ((first | refine ⟨by kernel_rfl, ?_⟩ | refine go_ret ?_) <;> conv => whnf) | ((first | refine go_skip ?_) <;> conv => whnf) | refine go_true rfl ?_ | refine go_false rfl ?_ | refine go_cond rfl (fun h => ?_) (fun h => ?_) | refine ⟨rfl, ?_⟩ | ((first | refine ⟨trivial, ?_⟩ | refine ⟨le_of_ble rfl, ?_⟩) <;> conv => whnf) | fail
  all_goals first
    | (refine ret_imm rfl rfl rfl rfl ?_ rfl; rw [if_pos (of_decide_eq_true h)]; done)
    | (refine ret_imm rfl rfl rfl rfl ?_ rfl; rw [if_neg (of_decide_eq_false h)]; done)
theorem c22 (v : Match) : CallOk Try.prog 22 [.imm (.agg v.enc)] { res := [.imm (.agg v.enc)] } := by
  refine callOk_of tyOk Try.func22 rfl rfl (le_of_ble rfl) (le_of_ble rfl) (mutOk_imm rfl _) ?_
  repeat' first | refine go_seq ?_ | refine go_region ?_ | ((first | refine go_op rfl ?_ | refine go_nil ?_ | refine go_storeBox rfl rfl rfl rfl rfl rfl ?_) <;> conv => whnf) | ((first | refine go_loadB ?_ | refine ⟨by kernel_rfl, ?_⟩ | refine go_ret ?_) <;> conv => whnf) | ((first | refine go_skip ?_) <;> conv => whnf) | refine ⟨rfl, ?_⟩ | ((first | refine ⟨trivial, ?_⟩ | refine ⟨le_of_ble rfl, ?_⟩) <;> conv => whnf) | fail
  all_goals exact ret_imm rfl rfl rfl rfl rfl rfl

theorem c23 (t : Timetable) (hf : t.fit) (m : Match) (done : Int) : CallOk Try.prog 23 [.imm (.agg t.enc), .imm (.agg m.enc), .imm (.int .i64 done)] { res := [.arr 3 1 ((paR t m done).map intRow), .imm (.bool (paOk t m done))] } := by
  refine callOk_of tyOk Try.func23 rfl rfl (le_of_ble rfl) (le_of_ble rfl) (mutOk_imm rfl _) ?_
  have hc0 := c65 t hf
  have hc1 := c79 t hf m.id
  have hc2 := c78 m.vehicle 1 99
  have hc3 := c78 m.delay (-1799) 1799
  cases hp : paPre t m with
  | false =>
    have hfd : paFind t m = none := by unfold paFind; rw [hp]; rfl
    have e0 : paOk t m done = false := by unfold paOk; rw [hfd]
    have e1 : paR t m done = [] := by unfold paR; rw [e0]; rfl
    rw [e0, e1]
    unfold paPre hasTrip at hp
    repeat' first | refine go_seq ?_ | refine go_region ?_ | refine go_miss rfl rfl rfl ?_ | refine go_undef rfl rfl rfl ?_ | refine go_draw drawsOk ?_ | ((first | refine go_op rfl ?_ | refine go_nil ?_ | refine go_hit rfl rfl rfl ?_ | refine go_splitT rfl rfl rfl (fun h => ?_) (fun h => ?_) | refine go_splitF rfl rfl rfl (fun h => ?_) (fun h => ?_) | refine go_storeBox rfl rfl rfl rfl rfl rfl ?_ | refine go_dop rfl ?_ | refine go_dhit rfl rfl ?_ | refine go_dmiss rfl rfl ?_ | refine go_dundef rfl rfl ?_ | refine go_dend (by kernel_rfl) ?_ | refine go_pickT rfl ?_ | refine go_pickF rfl ?_ | refine go_pick rfl (fun h => ?_) (fun h => ?_) | refine go_call [] (hc0) rfl rfl rfl rfl ?_ | refine go_call [] (hc1) rfl rfl rfl rfl ?_ | refine go_call [] (hc2) rfl rfl rfl rfl ?_ | refine go_call [] (hc3) rfl rfl rfl rfl ?_) <;> conv => whnf) | ((first | refine go_dsplit2 rfl (fun h => ?_) (fun h => ?_) | refine go_loadB ?_ | refine ⟨by kernel_rfl, ?_⟩ | refine go_ret ?_) <;> conv => whnf) | refine go_block ?_ | ((first | refine go_skip ?_ | refine go_exit ?_) <;> conv => whnf) | refine go_true rfl ?_ | refine go_false rfl ?_ | refine go_cond rfl (fun h => ?_) (fun h => ?_) | refine ⟨rfl, ?_⟩ | ((first | refine ⟨trivial, ?_⟩ | refine ⟨le_of_ble rfl, ?_⟩) <;> conv => whnf) | fail
    all_goals first
      | exact ret_arr2 rfl rfl rfl rfl rfl rfl (by intro r hr; cases hr) rfl rfl rfl
      | (exfalso; simp_all; done)
      | (exfalso; simp_all; omega)
      | trace_state
  | true =>
    have hp' := hp
    unfold paPre at hp'
    simp only [Bool.and_eq_true] at hp'
    obtain ⟨p1, p2, p3, p4⟩ := hp'
    rw [p1] at hc0
    rw [p2] at hc2
    rw [p3] at hc3
    obtain ⟨j, x, hj, hx, _⟩ := idxF_spec (show 0 ≤ idxF (pId m.id) t.trips by simpa [hasTrip] using p4)
    obtain ⟨l, hg⟩ := good_of p1 hx
    rw [hj] at hc1
    have hlf := hf.1.2.2.2 l (List.mem_of_getElem? hg.on.ln)
    have hfd : paFind t m = some (x, l) := by unfold paFind; rw [hp, if_pos rfl, hj, Int.toNat_natCast, hx]; simp only; rw [hg.on.ln]
    have hrx := row_at Trip.enc hx
    have hc4 := c81 t x l hg.on.lo hg.on.ln
    have hc5 := c80 l.runs hlf.2.2
    have hc6 := c78 done 0 (totW l.runs)
    have hc7 := c82 t x l hg.on.lo hg.on.ln hg.st hlf.2.2
    have hlt0 : ¬ ((j : Int) < 0) := by omega
    cases hd : inR done 0 (totW l.runs) with
    | false =>
      have e0 : paOk t m done = false := by unfold paOk; rw [hfd]; exact hd
      have e1 : paR t m done = [] := by unfold paR; rw [e0]; rfl
      rw [e0, e1]
      rw [hd] at hc6
      repeat' first | refine go_seq ?_ | refine go_region ?_ | refine go_miss rfl rfl rfl ?_ | refine go_undef rfl rfl rfl ?_ | refine go_draw drawsOk ?_ | ((first | refine go_op rfl ?_ | refine go_nil ?_ | refine go_hit rfl rfl rfl ?_ | refine go_splitT rfl rfl rfl (fun h => ?_) (fun h => ?_) | refine go_splitF rfl rfl rfl (fun h => ?_) (fun h => ?_) | refine go_storeBox rfl rfl rfl rfl rfl rfl ?_ | refine go_dop rfl ?_ | refine go_dhit rfl rfl ?_ | refine go_dmiss rfl rfl ?_ | refine go_dundef rfl rfl ?_ | refine go_dend (by kernel_rfl) ?_ | refine go_pickT rfl ?_ | refine go_pickF rfl ?_ | refine go_pick rfl (fun h => ?_) (fun h => ?_) | refine go_call [] (hc0) rfl rfl rfl rfl ?_ | refine go_call [] (hc1) rfl rfl rfl rfl ?_ | refine go_call [] (hc2) rfl rfl rfl rfl ?_ | refine go_call [] (hc3) rfl rfl rfl rfl ?_ | refine go_call [] (hc4) rfl rfl rfl rfl ?_ | refine go_call [] (hc5) rfl rfl rfl rfl ?_ | refine go_call [] (hc6) rfl rfl rfl rfl ?_ | refine go_idx rfl rfl rfl rfl (by omega) hrx rfl ?_) <;> conv => whnf) | ((first | refine go_dsplit2 rfl (fun h => ?_) (fun h => ?_) | refine go_loadB ?_ | refine ⟨by kernel_rfl, ?_⟩ | refine go_ret ?_) <;> conv => whnf) | refine go_block ?_ | ((first | refine go_skip ?_ | refine go_exit ?_) <;> conv => whnf) | refine go_true rfl ?_ | refine go_false rfl ?_ | refine go_cond rfl (fun h => ?_) (fun h => ?_) | refine ⟨rfl, ?_⟩ | ((first | refine ⟨trivial, ?_⟩ | refine ⟨le_of_ble rfl, ?_⟩) <;> conv => whnf) | fail
      all_goals first
        | exact ret_arr2 rfl rfl rfl rfl rfl rfl (by intro r hr; cases hr) rfl rfl rfl
        | (exfalso; have h' := of_decide_eq_false h; omega)
        | (exfalso; have h' := of_decide_eq_true h; omega)
        | (exfalso; rename_i hq; have h' := of_decide_eq_true hq; omega)
        | (exfalso; rename_i hq; have h' := of_decide_eq_false hq; omega)
        | (exfalso; rename_i hq _; have h' := of_decide_eq_true hq; omega)
        | (exfalso; rename_i hq _; have h' := of_decide_eq_false hq; omega)
        | trace_state
    | true =>
      have e0 : paOk t m done = true := by unfold paOk; rw [hfd]; exact hd
      have e1 : paR t m done = paOut x l m.delay done (l.runs.length + 1) := by unfold paR; rw [e0, hfd]; rfl
      rw [e0, e1]
      rw [hd] at hc6
      have hlen := stopsT_len x l (l.runs.length + 1)
      repeat' first | refine go_seq ?_ | refine go_region ?_ | refine go_miss rfl rfl rfl ?_ | refine go_undef rfl rfl rfl ?_ | refine go_draw drawsOk ?_ | ((first | refine go_op rfl ?_ | refine go_nil ?_ | refine go_hit rfl rfl rfl ?_ | refine go_splitT rfl rfl rfl (fun h => ?_) (fun h => ?_) | refine go_splitF rfl rfl rfl (fun h => ?_) (fun h => ?_) | refine go_storeBox rfl rfl rfl rfl rfl rfl ?_ | refine go_dop rfl ?_ | refine go_dhit rfl rfl ?_ | refine go_dmiss rfl rfl ?_ | refine go_dundef rfl rfl ?_ | refine go_dend (by kernel_rfl) ?_ | refine go_pickT rfl ?_ | refine go_pickF rfl ?_ | refine go_pick rfl (fun h => ?_) (fun h => ?_) | refine go_call [] (hc0) rfl rfl rfl rfl ?_ | refine go_call [] (hc1) rfl rfl rfl rfl ?_ | refine go_call [] (hc2) rfl rfl rfl rfl ?_ | refine go_call [] (hc3) rfl rfl rfl rfl ?_ | refine go_call [] (hc4) rfl rfl rfl rfl ?_ | refine go_call [] (hc5) rfl rfl rfl rfl ?_ | refine go_call [] (hc6) rfl rfl rfl rfl ?_ | refine go_call [] (hc7) rfl rfl rfl rfl ?_ | refine go_idx rfl rfl rfl rfl (by omega) hrx rfl ?_) <;> conv => whnf) | ((first | refine go_dsplit2 rfl (fun h => ?_) (fun h => ?_) | refine go_loadB ?_ | refine ⟨by kernel_rfl, ?_⟩ | refine go_ret ?_) <;> conv => whnf) | refine go_block ?_ | ((first | refine go_skip ?_ | refine go_exit ?_) <;> conv => whnf) | refine go_true rfl ?_ | refine go_false rfl ?_ | refine go_cond rfl (fun h => ?_) (fun h => ?_) | refine ⟨rfl, ?_⟩ | ((first | refine ⟨trivial, ?_⟩ | refine ⟨le_of_ble rfl, ?_⟩) <;> conv => whnf) | fail
      all_goals try first
        | (exfalso; have h' := of_decide_eq_false h; omega)
        | (exfalso; have h' := of_decide_eq_true h; omega)
        | (exfalso; rename_i hq; have h' := of_decide_eq_true hq; omega)
        | (exfalso; rename_i hq; have h' := of_decide_eq_false hq; omega)
        | (exfalso; rename_i hq _; have h' := of_decide_eq_true hq; omega)
        | (exfalso; rename_i hq _; have h' := of_decide_eq_false hq; omega)
      refine go_loop (α := Nat) (fun i => i ≤ l.runs.length + 1) (fun i => l.runs.length + 1 - i)
        (fun i => st Try.f23.ntmps [(2, .imm (.int .i64 done)), (4, .box 1000 0), (9, .box 1001 0), (10, .own 1002 0 ((paOut x l m.delay done i).map intRow).length), (55, .imm (.list ((stopsT x l (l.runs.length + 1)).map intRow))), (56, .imm (.int .i64 ((stopsT x l (l.runs.length + 1)).map intRow).length)), (57, .imm (.int .i64 (i : Nat)))]
          [(1000, .box 50 (m.enc.map .imm)), (1001, .box 117 (x.enc.map .imm)), (1002, .arr 3 1 ((paOut x l m.delay done i).map intRow))] []) 0 (Nat.zero_le _) ?_ ?_
      · exact ref_st (fun y => if y = 1000 then nid 1 4 else if y = 1001 then nid 5 9 else nid 6 10) rfl ⟨rfl, ⟨rfl, rfl⟩, ⟨rfl, rfl⟩, ⟨rfl, rfl⟩, rfl, rfl, rfl, trivial⟩ ⟨⟨rfl, wavs_imm _⟩, ⟨rfl, wavs_imm _⟩, rfl, trivial⟩ (by simp [nid]) rfl (by simp)
      intro i hi
      have hb5 := hg.r5
      by_cases hlt : i < l.runs.length + 1
      · have hr : ((stopsT x l (l.runs.length + 1)).map intRow)[((i : Nat) : Int).toNat]? = some (intRow (stopAt x l i)) := stopsT_at hlt
        have hat := hg.at i (by omega)
        have hbd := hg.bd i (by omega)
        have hst := (inR_iff _ _ _).1 hg.st
        have hsub : IntKind.i64.wrap (stopAt x l i - x.start) = totW (l.runs.take i) := by rw [hat, wrap_small (by omega) (by omega)]; omega
        have hol := paOut_len x l m.delay done i
        have hb : ((paOut x l m.delay done i).map intRow).length + 1 ≤ 1073741824 := by rw [List.length_map]; omega
        have hnx := paOut_next x l m.delay done i
        have hone := int_one [paV x l m.delay i]
        repeat' first | refine go_seq ?_ | refine go_region ?_ | refine go_miss rfl rfl rfl ?_ | refine go_undef rfl rfl rfl ?_ | refine go_draw drawsOk ?_ | ((first | refine go_op rfl ?_ | refine go_nil ?_ | refine go_hit rfl rfl rfl ?_ | refine go_splitT rfl rfl rfl (fun h => ?_) (fun h => ?_) | refine go_splitF rfl rfl rfl (fun h => ?_) (fun h => ?_) | refine go_storeBox rfl rfl rfl rfl rfl rfl ?_ | refine go_dop rfl ?_ | refine go_dhit rfl rfl ?_ | refine go_dmiss rfl rfl ?_ | refine go_dundef rfl rfl ?_ | refine go_dend (by kernel_rfl) ?_ | refine go_pickT rfl ?_ | refine go_pickF rfl ?_ | refine go_pick rfl (fun h => ?_) (fun h => ?_) | refine go_idx rfl rfl rfl rfl (by omega) hr rfl ?_ | refine go_append (rows2 := [paV x l m.delay i].map intRow) rfl rfl rfl rfl rfl rfl rfl rfl rfl rfl rfl rfl hone rfl rfl rfl hb ?_) <;> conv => whnf) | ((first | refine go_dsplit2 rfl (fun h => ?_) (fun h => ?_) | refine go_loadB ?_ | refine ⟨by kernel_rfl, ?_⟩ | refine go_ret ?_) <;> conv => whnf) | refine go_block ?_ | ((first | refine go_skip ?_ | refine go_exit ?_) <;> conv => whnf) | refine go_true rfl ?_ | refine go_false rfl ?_ | refine go_cond rfl (fun h => ?_) (fun h => ?_) | refine ⟨rfl, ?_⟩ | ((first | refine ⟨trivial, ?_⟩ | refine ⟨le_of_ble rfl, ?_⟩) <;> conv => whnf) | fail
        all_goals try first
          | (exfalso; have h' := of_decide_eq_false h; omega)
          | (exfalso; have h' := of_decide_eq_true h; omega)
          | (exfalso; rename_i hq; have h' := of_decide_eq_true hq; omega)
          | (exfalso; rename_i hq; have h' := of_decide_eq_false hq; omega)
          | (exfalso; rename_i hq _; have h' := of_decide_eq_true hq; omega)
          | (exfalso; rename_i hq _; have h' := of_decide_eq_false hq; omega)
        · have hq : paP l done i = true := by unfold paP; rw [← hsub]; exact h
          rw [if_pos hq] at hnx
          refine go_next (i + 1) (by omega) (by omega) (ref_st (fun y => if y = 1002 then nid 5 74 else y) rfl ⟨rfl, ⟨rfl, rfl⟩, ⟨rfl, rfl⟩, ⟨?_, rfl⟩, rfl, rfl, next_i (by omega), trivial⟩ ⟨⟨rfl, wavs_imm _⟩, ⟨rfl, wavs_imm _⟩, ?_, trivial⟩ (by simp [nid]) rfl (by simp))
          · show AV.own _ _ _ = AV.own _ _ _
            rw [hnx, List.map_append, List.length_append]; try rfl
          · show some _ = some _
            rw [hnx, List.map_append]; try rfl
        · have hq : ¬ paP l done i = true := by unfold paP; rw [← hsub, h]; simp
          rw [if_neg hq] at hnx
          refine go_next (i + 1) (by omega) (by omega) (ref_st id rfl ⟨rfl, ⟨rfl, rfl⟩, ⟨rfl, rfl⟩, ⟨?_, rfl⟩, rfl, rfl, next_i (by omega), trivial⟩ ⟨⟨rfl, wavs_imm _⟩, ⟨rfl, wavs_imm _⟩, ?_, trivial⟩ (by simp) rfl (by simp))
          · show AV.own _ _ _ = AV.own _ _ _
            rw [hnx]; try rfl
          · show some _ = some _
            rw [hnx]; try rfl
      · have hie : i = l.runs.length + 1 := by omega
        rw [hie]
        repeat' first | refine go_seq ?_ | refine go_region ?_ | refine go_miss rfl rfl rfl ?_ | refine go_undef rfl rfl rfl ?_ | refine go_draw drawsOk ?_ | ((first | refine go_op rfl ?_ | refine go_nil ?_ | refine go_hit rfl rfl rfl ?_ | refine go_splitT rfl rfl rfl (fun h => ?_) (fun h => ?_) | refine go_splitF rfl rfl rfl (fun h => ?_) (fun h => ?_) | refine go_storeBox rfl rfl rfl rfl rfl rfl ?_ | refine go_dop rfl ?_ | refine go_dhit rfl rfl ?_ | refine go_dmiss rfl rfl ?_ | refine go_dundef rfl rfl ?_ | refine go_dend (by kernel_rfl) ?_ | refine go_pickT rfl ?_ | refine go_pickF rfl ?_ | refine go_pick rfl (fun h => ?_) (fun h => ?_)) <;> conv => whnf) | ((first | refine go_dsplit2 rfl (fun h => ?_) (fun h => ?_) | refine go_loadB ?_ | refine ⟨by kernel_rfl, ?_⟩ | refine go_ret ?_) <;> conv => whnf) | refine go_block ?_ | ((first | refine go_skip ?_ | refine go_exit ?_) <;> conv => whnf) | refine go_true rfl ?_ | refine go_false rfl ?_ | refine go_cond rfl (fun h => ?_) (fun h => ?_) | refine ⟨rfl, ?_⟩ | ((first | refine ⟨trivial, ?_⟩ | refine ⟨le_of_ble rfl, ?_⟩) <;> conv => whnf) | fail
        all_goals try first
          | (exfalso; have h' := of_decide_eq_false h; omega)
          | (exfalso; have h' := of_decide_eq_true h; omega)
          | (exfalso; rename_i hq; have h' := of_decide_eq_true hq; omega)
          | (exfalso; rename_i hq; have h' := of_decide_eq_false hq; omega)
          | (exfalso; rename_i hq _; have h' := of_decide_eq_true hq; omega)
          | (exfalso; rename_i hq _; have h' := of_decide_eq_false hq; omega)
        · exact ret_arr2 rfl rfl rfl rfl rfl (by rw [List.drop_zero, List.take_length]) (int_gr _) rfl rfl rfl

theorem c21 (t : Timetable) (hf : t.fit) (m : Match) (done : Int) : CallOk Try.prog 21 [.imm (.agg t.enc), .imm (.agg m.enc), .imm (.int .i64 done)] { res := [.arr 3 1 ((paR t m done).map intRow), .imm (.bool (paOk t m done))] } := by
  refine callOk_of tyOk Try.func21 rfl rfl (le_of_ble rfl) (le_of_ble rfl) (mutOk_imm rfl _) ?_
  have hc0 := c70 t hf
  have hc1 := c71 t hf m.id
  have hc2 := c72 m.vehicle 1 99
  have hc3 := c72 m.delay (-1799) 1799
  cases hp : paPre t m with
  | false =>
    have hfd : paFind t m = none := by unfold paFind; rw [hp]; rfl
    have e0 : paOk t m done = false := by unfold paOk; rw [hfd]
    have e1 : paR t m done = [] := by unfold paR; rw [e0]; rfl
    rw [e0, e1]
    unfold paPre hasTrip at hp
    have hall : ttOk t = true → inR m.vehicle 1 99 = true → inR m.delay (-1799) 1799 = true → ¬ idxF (pId m.id) t.trips < 0 → False := by
      intro a b c d
      rw [a, b, c] at hp
      simp at hp
      omega
    repeat' first | refine go_seq ?_ | refine go_region ?_ | refine go_miss rfl rfl rfl ?_ | refine go_undef rfl rfl rfl ?_ | refine go_draw drawsOk ?_ | ((first | refine go_op rfl ?_ | refine go_nil ?_ | refine go_hit rfl rfl rfl ?_ | refine go_splitT rfl rfl rfl (fun h => ?_) (fun h => ?_) | refine go_splitF rfl rfl rfl (fun h => ?_) (fun h => ?_) | refine go_storeBox rfl rfl rfl rfl rfl rfl ?_ | refine go_dop rfl ?_ | refine go_dhit rfl rfl ?_ | refine go_dmiss rfl rfl ?_ | refine go_dundef rfl rfl ?_ | refine go_dend (by kernel_rfl) ?_ | refine go_pickT rfl ?_ | refine go_pickF rfl ?_ | refine go_pick rfl (fun h => ?_) (fun h => ?_) | refine go_call [] (hc0) rfl rfl rfl rfl ?_ | refine go_call [] (hc1) rfl rfl rfl rfl ?_ | refine go_call [] (hc2) rfl rfl rfl rfl ?_ | refine go_call [] (hc3) rfl rfl rfl rfl ?_) <;> conv => whnf) | ((first | refine go_dsplit2 rfl (fun h => ?_) (fun h => ?_) | refine go_loadB ?_ | refine ⟨by kernel_rfl, ?_⟩ | refine go_ret ?_) <;> conv => whnf) | refine go_block ?_ | ((first | refine go_skip ?_ | refine go_exit ?_) <;> conv => whnf) | refine go_true rfl ?_ | refine go_false rfl ?_ | refine go_cond rfl (fun h => ?_) (fun h => ?_) | refine ⟨rfl, ?_⟩ | ((first | refine ⟨trivial, ?_⟩ | refine ⟨le_of_ble rfl, ?_⟩) <;> conv => whnf) | fail
    all_goals first
      | exact ret_arr2 rfl rfl rfl rfl rfl rfl (by intro r hr; cases hr) rfl rfl rfl
      | (exfalso; rename_i q1 q2 q3; exact hall (by simpa using q1) (by simpa using q3) (by simpa using h) (by simpa using q2))
      | trace_state
  | true =>
    have hp' := hp
    unfold paPre at hp'
    simp only [Bool.and_eq_true] at hp'
    obtain ⟨p1, p2, p3, p4⟩ := hp'
    rw [p1] at hc0
    rw [p2] at hc2
    rw [p3] at hc3
    obtain ⟨j, x, hj, hx, _⟩ := idxF_spec (show 0 ≤ idxF (pId m.id) t.trips by simpa [hasTrip] using p4)
    obtain ⟨l, hg⟩ := good_of p1 hx
    rw [hj] at hc1
    have hlf := hf.1.2.2.2 l (List.mem_of_getElem? hg.on.ln)
    have hfd : paFind t m = some (x, l) := by unfold paFind; rw [hp, if_pos rfl, hj, Int.toNat_natCast, hx]; simp only; rw [hg.on.ln]
    have hc4 := c73 hg.on
    have hc5 := c74 l hg.rs hlf.2.2
    have hc6 := c72 done 0 (totW l.runs)
    have hc9 := c77 m.delay 0
    have hsl : (l.stops.map intRow).length = l.runs.length + 1 := by rw [List.length_map]; exact hg.rs.symm
    cases hd : inR done 0 (totW l.runs) with
    | false =>
      have e0 : paOk t m done = false := by unfold paOk; rw [hfd]; exact hd
      have e1 : paR t m done = [] := by unfold paR; rw [e0]; rfl
      rw [e0, e1]
      rw [hd] at hc6
      repeat' first | refine go_seq ?_ | refine go_region ?_ | refine go_miss rfl rfl rfl ?_ | refine go_undef rfl rfl rfl ?_ | refine go_draw drawsOk ?_ | ((first | refine go_op rfl ?_ | refine go_nil ?_ | refine go_hit rfl rfl rfl ?_ | refine go_splitT rfl rfl rfl (fun h => ?_) (fun h => ?_) | refine go_splitF rfl rfl rfl (fun h => ?_) (fun h => ?_) | refine go_storeBox rfl rfl rfl rfl rfl rfl ?_ | refine go_dop rfl ?_ | refine go_dhit rfl rfl ?_ | refine go_dmiss rfl rfl ?_ | refine go_dundef rfl rfl ?_ | refine go_dend (by kernel_rfl) ?_ | refine go_pickT rfl ?_ | refine go_pickF rfl ?_ | refine go_pick rfl (fun h => ?_) (fun h => ?_) | refine go_call [] (hc0) rfl rfl rfl rfl ?_ | refine go_call [] (hc1) rfl rfl rfl rfl ?_ | refine go_call [] (hc2) rfl rfl rfl rfl ?_ | refine go_call [] (hc3) rfl rfl rfl rfl ?_ | refine go_call [] (hc4) rfl rfl rfl rfl ?_ | refine go_call [] (hc5) rfl rfl rfl rfl ?_ | refine go_call [] (hc6) rfl rfl rfl rfl ?_) <;> conv => whnf) | ((first | refine go_dsplit2 rfl (fun h => ?_) (fun h => ?_) | refine go_loadB ?_ | refine ⟨by kernel_rfl, ?_⟩ | refine go_ret ?_) <;> conv => whnf) | refine go_block ?_ | ((first | refine go_skip ?_ | refine go_exit ?_) <;> conv => whnf) | refine go_true rfl ?_ | refine go_false rfl ?_ | refine go_cond rfl (fun h => ?_) (fun h => ?_) | refine ⟨rfl, ?_⟩ | ((first | refine ⟨trivial, ?_⟩ | refine ⟨le_of_ble rfl, ?_⟩) <;> conv => whnf) | fail
      all_goals first
        | exact ret_arr2 rfl rfl rfl rfl rfl rfl (by intro r hr; cases hr) rfl rfl rfl
        | (exfalso; have h' := of_decide_eq_false h; omega)
        | (exfalso; have h' := of_decide_eq_true h; omega)
        | (exfalso; rename_i hq; have h' := of_decide_eq_true hq; omega)
        | (exfalso; rename_i hq; have h' := of_decide_eq_false hq; omega)
        | (exfalso; rename_i hq _; have h' := of_decide_eq_true hq; omega)
        | (exfalso; rename_i hq _; have h' := of_decide_eq_false hq; omega)
        | trace_state
    | true =>
      have e0 : paOk t m done = true := by unfold paOk; rw [hfd]; exact hd
      have e1 : paR t m done = paOut x l m.delay done (l.runs.length + 1) := by unfold paR; rw [e0, hfd]; rfl
      rw [e0, e1]
      rw [hd] at hc6
      repeat' first | refine go_seq ?_ | refine go_region ?_ | refine go_miss rfl rfl rfl ?_ | refine go_undef rfl rfl rfl ?_ | refine go_draw drawsOk ?_ | ((first | refine go_op rfl ?_ | refine go_nil ?_ | refine go_hit rfl rfl rfl ?_ | refine go_splitT rfl rfl rfl (fun h => ?_) (fun h => ?_) | refine go_splitF rfl rfl rfl (fun h => ?_) (fun h => ?_) | refine go_storeBox rfl rfl rfl rfl rfl rfl ?_ | refine go_dop rfl ?_ | refine go_dhit rfl rfl ?_ | refine go_dmiss rfl rfl ?_ | refine go_dundef rfl rfl ?_ | refine go_dend (by kernel_rfl) ?_ | refine go_pickT rfl ?_ | refine go_pickF rfl ?_ | refine go_pick rfl (fun h => ?_) (fun h => ?_) | refine go_call [] (hc0) rfl rfl rfl rfl ?_ | refine go_call [] (hc1) rfl rfl rfl rfl ?_ | refine go_call [] (hc2) rfl rfl rfl rfl ?_ | refine go_call [] (hc3) rfl rfl rfl rfl ?_ | refine go_call [] (hc4) rfl rfl rfl rfl ?_ | refine go_call [] (hc5) rfl rfl rfl rfl ?_ | refine go_call [] (hc6) rfl rfl rfl rfl ?_) <;> conv => whnf) | ((first | refine go_dsplit2 rfl (fun h => ?_) (fun h => ?_) | refine go_loadB ?_ | refine ⟨by kernel_rfl, ?_⟩ | refine go_ret ?_) <;> conv => whnf) | refine go_block ?_ | ((first | refine go_skip ?_ | refine go_exit ?_) <;> conv => whnf) | refine go_true rfl ?_ | refine go_false rfl ?_ | refine go_cond rfl (fun h => ?_) (fun h => ?_) | refine ⟨rfl, ?_⟩ | ((first | refine ⟨trivial, ?_⟩ | refine ⟨le_of_ble rfl, ?_⟩) <;> conv => whnf) | fail
      all_goals try first
        | (exfalso; have h' := of_decide_eq_false h; omega)
        | (exfalso; have h' := of_decide_eq_true h; omega)
        | (exfalso; rename_i hq; have h' := of_decide_eq_true hq; omega)
        | (exfalso; rename_i hq; have h' := of_decide_eq_false hq; omega)
        | (exfalso; rename_i hq _; have h' := of_decide_eq_true hq; omega)
        | (exfalso; rename_i hq _; have h' := of_decide_eq_false hq; omega)
      refine go_loop (α := Nat) (fun i => i ≤ l.runs.length + 1) (fun i => l.runs.length + 1 - i)
        (fun i => st Try.f21.ntmps [(2, .imm (.int .i64 done)), (3, .box 1003 0), (4, .box 1000 0), (8, .own 1002 0 ((paOut x l m.delay done i).map intRow).length), (9, .imm (.int .i64 (j : Nat))), (10, .box 1001 0), (11, .imm (.int .i64 (i : Nat)))]
          [(1003, .box 38 (t.enc.map .imm)), (1000, .box 50 (m.enc.map .imm)), (1001, .box 108 (l.enc.map .imm)), (1002, .arr 3 1 ((paOut x l m.delay done i).map intRow))] []) 0 (Nat.zero_le _) ?_ ?_
      · exact ref_st (fun y => if y = 1003 then nid 1 3 else if y = 1000 then nid 1 4 else if y = 1001 then nid 5 10 else nid 2 12) rfl ⟨rfl, ⟨rfl, rfl⟩, ⟨rfl, rfl⟩, ⟨rfl, rfl⟩, rfl, ⟨rfl, rfl⟩, rfl, trivial⟩ ⟨⟨rfl, wavs_imm _⟩, ⟨rfl, wavs_imm _⟩, ⟨rfl, wavs_imm _⟩, rfl, trivial⟩ (by simp [nid]) rfl (by simp)
      intro i hi
      have hb5 := hg.r5
      by_cases hlt : i < l.runs.length + 1
      · have hc7 := c75 l i (by omega) hlf.2.2
        have hc8 := c76 hg.on i (by omega) hlf.2.2
        have hol := paOut_len x l m.delay done i
        have hb : ((paOut x l m.delay done i).map intRow).length + 1 ≤ 1073741824 := by rw [List.length_map]; omega
        have hnx := paOut_next x l m.delay done i
        have hone := int_one [paV x l m.delay i]
        repeat' first | refine go_seq ?_ | refine go_region ?_ | refine go_miss rfl rfl rfl ?_ | refine go_undef rfl rfl rfl ?_ | refine go_draw drawsOk ?_ | ((first | refine go_op rfl ?_ | refine go_nil ?_ | refine go_hit rfl rfl rfl ?_ | refine go_splitT rfl rfl rfl (fun h => ?_) (fun h => ?_) | refine go_splitF rfl rfl rfl (fun h => ?_) (fun h => ?_) | refine go_storeBox rfl rfl rfl rfl rfl rfl ?_ | refine go_dop rfl ?_ | refine go_dhit rfl rfl ?_ | refine go_dmiss rfl rfl ?_ | refine go_dundef rfl rfl ?_ | refine go_dend (by kernel_rfl) ?_ | refine go_pickT rfl ?_ | refine go_pickF rfl ?_ | refine go_pick rfl (fun h => ?_) (fun h => ?_) | refine go_call [] (hc7) rfl rfl rfl rfl ?_ | refine go_call [] (hc8) rfl rfl rfl rfl ?_ | refine go_call [] (hc9) rfl rfl rfl rfl ?_ | refine go_append (rows2 := [paV x l m.delay i].map intRow) rfl rfl rfl rfl rfl rfl rfl rfl rfl rfl rfl rfl hone rfl rfl rfl hb ?_) <;> conv => whnf) | ((first | refine go_dsplit2 rfl (fun h => ?_) (fun h => ?_) | refine go_loadB ?_ | refine ⟨by kernel_rfl, ?_⟩ | refine go_ret ?_) <;> conv => whnf) | refine go_block ?_ | ((first | refine go_skip ?_ | refine go_exit ?_) <;> conv => whnf) | refine go_true rfl ?_ | refine go_false rfl ?_ | refine go_cond rfl (fun h => ?_) (fun h => ?_) | refine ⟨rfl, ?_⟩ | ((first | refine ⟨trivial, ?_⟩ | refine ⟨le_of_ble rfl, ?_⟩) <;> conv => whnf) | fail
        all_goals try first
          | (exfalso; have h' := of_decide_eq_false h; omega)
          | (exfalso; have h' := of_decide_eq_true h; omega)
          | (exfalso; rename_i hq; have h' := of_decide_eq_true hq; omega)
          | (exfalso; rename_i hq; have h' := of_decide_eq_false hq; omega)
          | (exfalso; rename_i hq _; have h' := of_decide_eq_true hq; omega)
          | (exfalso; rename_i hq _; have h' := of_decide_eq_false hq; omega)
        · have hq : paP l done i = true := h
          rw [if_pos hq] at hnx
          refine go_next (i + 1) (by omega) (by omega) (ref_st (fun y => if y = 1002 then nid 4 71 else y) rfl ⟨rfl, ⟨rfl, rfl⟩, ⟨rfl, rfl⟩, ⟨?_, rfl⟩, rfl, ⟨rfl, rfl⟩, next_i (by omega), trivial⟩ ⟨⟨rfl, wavs_imm _⟩, ⟨rfl, wavs_imm _⟩, ⟨rfl, wavs_imm _⟩, ?_, trivial⟩ (by simp [nid]) rfl (by simp))
          · show AV.own _ _ _ = AV.own _ _ _
            rw [hnx, List.map_append, List.length_append]; try rfl
          · show some _ = some _
            rw [hnx, List.map_append]; try rfl
        · have hq : ¬ paP l done i = true := by unfold paP; rw [h]; simp
          rw [if_neg hq] at hnx
          refine go_next (i + 1) (by omega) (by omega) (ref_st id rfl ⟨rfl, ⟨rfl, rfl⟩, ⟨rfl, rfl⟩, ⟨?_, rfl⟩, rfl, ⟨rfl, rfl⟩, next_i (by omega), trivial⟩ ⟨⟨rfl, wavs_imm _⟩, ⟨rfl, wavs_imm _⟩, ⟨rfl, wavs_imm _⟩, ?_, trivial⟩ (by simp) rfl (by simp))
          · show AV.own _ _ _ = AV.own _ _ _
            rw [hnx]; try rfl
          · show some _ = some _
            rw [hnx]; try rfl
      · have hie : i = l.runs.length + 1 := by omega
        rw [hie]
        repeat' first | refine go_seq ?_ | refine go_region ?_ | refine go_miss rfl rfl rfl ?_ | refine go_undef rfl rfl rfl ?_ | refine go_draw drawsOk ?_ | ((first | refine go_op rfl ?_ | refine go_nil ?_ | refine go_hit rfl rfl rfl ?_ | refine go_splitT rfl rfl rfl (fun h => ?_) (fun h => ?_) | refine go_splitF rfl rfl rfl (fun h => ?_) (fun h => ?_) | refine go_storeBox rfl rfl rfl rfl rfl rfl ?_ | refine go_dop rfl ?_ | refine go_dhit rfl rfl ?_ | refine go_dmiss rfl rfl ?_ | refine go_dundef rfl rfl ?_ | refine go_dend (by kernel_rfl) ?_ | refine go_pickT rfl ?_ | refine go_pickF rfl ?_ | refine go_pick rfl (fun h => ?_) (fun h => ?_)) <;> conv => whnf) | ((first | refine go_dsplit2 rfl (fun h => ?_) (fun h => ?_) | refine go_loadB ?_ | refine ⟨by kernel_rfl, ?_⟩ | refine go_ret ?_) <;> conv => whnf) | refine go_block ?_ | ((first | refine go_skip ?_ | refine go_exit ?_) <;> conv => whnf) | refine go_true rfl ?_ | refine go_false rfl ?_ | refine go_cond rfl (fun h => ?_) (fun h => ?_) | refine ⟨rfl, ?_⟩ | ((first | refine ⟨trivial, ?_⟩ | refine ⟨le_of_ble rfl, ?_⟩) <;> conv => whnf) | fail
        all_goals try first
          | (exfalso; have h' := of_decide_eq_false h; omega)
          | (exfalso; have h' := of_decide_eq_true h; omega)
          | (exfalso; rename_i hq; have h' := of_decide_eq_true hq; omega)
          | (exfalso; rename_i hq; have h' := of_decide_eq_false hq; omega)
          | (exfalso; rename_i hq _; have h' := of_decide_eq_true hq; omega)
          | (exfalso; rename_i hq _; have h' := of_decide_eq_false hq; omega)
        · exact ret_arr2 rfl rfl rfl rfl rfl (by rw [List.drop_zero, List.take_length]) (int_gr _) rfl rfl rfl
theorem paR_small (t : Timetable) (m : Match) (done : Int) : (paR t m done).length ≤ 6 := by
  unfold paR
  split
  · split
    · rename_i y hy
      have h1 := paOut_len y.1 y.2 m.delay done (y.2.runs.length + 1)
      have h2 : y.2.runs.length ≤ 5 := by
        unfold paFind at hy
        split at hy
        · rename_i hp
          unfold paPre at hp
          simp only [Bool.and_eq_true] at hp
          split at hy
          · rename_i x hx
            obtain ⟨l, hg⟩ := good_of hp.1 hx
            rw [hg.on.ln] at hy
            injection hy with hy
            rw [← hy]
            exact hg.r5
          · cases hy
        · cases hy
      omega
    · simp
  · simp

theorem c4 (t : Timetable) (hok_t : t.ok) (m : Match) (_ : m.ok) (done : Int) (_ : i64 done) : CallOk Try.prog 4 [.imm (.agg t.enc), .imm (.agg m.enc), .imm (.int .i64 done)] { res := [.imm (.bool true)] } := by
  refine callOk_of tyOk Try.func4 rfl rfl (le_of_ble rfl) (le_of_ble rfl) (mutOk_imm rfl _) ?_
  have hsz1 := c13 t hok_t (1048576) (by omega) (by omega)
  have hle1 := szTimetable_sz.le (1048576) t (by omega)
  by_cases h01 : 0 ≤ szTimetable 1048576 t
  case neg =>
    repeat' first | refine go_seq ?_ | refine go_region ?_ | refine go_miss rfl rfl rfl ?_ | refine go_undef rfl rfl rfl ?_ | refine go_draw drawsOk ?_ | ((first | refine go_op rfl ?_ | refine go_nil ?_ | refine go_hit rfl rfl rfl ?_ | refine go_splitT rfl rfl rfl (fun h => ?_) (fun h => ?_) | refine go_splitF rfl rfl rfl (fun h => ?_) (fun h => ?_) | refine go_storeBox rfl rfl rfl rfl rfl rfl ?_ | refine go_dop rfl ?_ | refine go_dhit rfl rfl ?_ | refine go_dmiss rfl rfl ?_ | refine go_dundef rfl rfl ?_ | refine go_dend (by kernel_rfl) ?_ | refine go_pickT rfl ?_ | refine go_pickF rfl ?_ | refine go_pick rfl (fun h => ?_) (fun h => ?_) | refine go_call [] (hsz1) rfl rfl rfl rfl ?_) <;> conv => whnf) | ((first | refine go_dsplit2 rfl (fun h => ?_) (fun h => ?_) | refine go_loadB ?_ | refine ⟨by kernel_rfl, ?_⟩ | refine go_ret ?_) <;> conv => whnf) | ((first | refine go_skip ?_) <;> conv => whnf) | refine go_true rfl ?_ | refine go_false rfl ?_ | refine go_cond rfl (fun h => ?_) (fun h => ?_) | refine ⟨rfl, ?_⟩ | ((first | refine ⟨trivial, ?_⟩ | refine ⟨le_of_ble rfl, ?_⟩) <;> conv => whnf) | fail
    all_goals first
      | exact ret_imm rfl rfl rfl rfl rfl rfl
      | (exfalso; have h' := of_decide_eq_false h; omega)
      | (exfalso; have h' := of_decide_eq_true h; omega)
      | (exfalso; rename_i hq; have h' := of_decide_eq_true hq; omega)
      | (exfalso; rename_i hq; have h' := of_decide_eq_false hq; omega)
      | (exfalso; rename_i hq _; have h' := of_decide_eq_true hq; omega)
      | (exfalso; rename_i hq _; have h' := of_decide_eq_false hq; omega)
      | trace_state
  have hf_t := szTimetable_fit (by omega) h01
  have hrl : (paR t m done).length ≤ 1048576 := by have := paR_small t m done; omega
  have hspec : CallOk Try.prog 21 [.imm (.agg t.enc), .imm (.agg m.enc), .imm (.int .i64 done)] { res := [.arr 3 1 ((paR t m done).map intRow), .imm (.bool (paOk t m done))] } := by exact c21 t hf_t m done
  have himpl : CallOk Try.prog 23 [.imm (.agg t.enc), .imm (.agg m.enc), .imm (.int .i64 done)] { res := [.arr 3 1 ((paR t m done).map intRow), .imm (.bool (paOk t m done))] } := by exact c23 t hf_t m done
  have hct1 := cntTimetable_le hf_t
  have hm1 := k25 t hf_t 1 (by omega) (by omega)
  have heqR : CallOk Try.prog 24 [.imm (.list ((((paR t m done).map intRow).drop 0).take ((paR t m done).map intRow).length)), .imm (.list ((((paR t m done).map intRow).drop 0).take ((paR t m done).map intRow).length))] { res := [.imm (.bool true)] } := by rw [int_view]; exact c24s _ hrl
  have hmR := c26 (paR t m done) 1 (by omega) (by omega) hrl
  have hhR : CallOk Try.prog 27 [.imm (.list ((((marksIntX 1 (paR t m done).length).map intRow).drop 0).take ((paR t m done).map intRow).length)), .imm (.int .i64 1)] { res := [.imm (.int .i64 (kAt 1 (1 * (paR t m done).length)))] } := by
    have := c27 1 (paR t m done).length (by omega) (by omega) hrl
    rwa [show ((((marksIntX 1 (paR t m done).length).map intRow).drop 0).take ((paR t m done).map intRow).length) = (marksIntX 1 (paR t m done).length).map intRow from by rw [List.drop_zero, List.take_of_length_le (by simp [marksIntX])]]
  have hqR := kAt_eq (k := 1) (by omega) (1 * (paR t m done).length) (by omega)
  repeat' first | refine go_seq ?_ | refine go_region ?_ | refine go_miss rfl rfl rfl ?_ | refine go_undef rfl rfl rfl ?_ | refine go_draw drawsOk ?_ | ((first | refine go_op rfl ?_ | refine go_nil ?_ | refine go_hit rfl rfl rfl ?_ | refine go_splitT rfl rfl rfl (fun h => ?_) (fun h => ?_) | refine go_splitF rfl rfl rfl (fun h => ?_) (fun h => ?_) | refine go_storeBox rfl rfl rfl rfl rfl rfl ?_ | refine go_dop rfl ?_ | refine go_dhit rfl rfl ?_ | refine go_dmiss rfl rfl ?_ | refine go_dundef rfl rfl ?_ | refine go_dend (by kernel_rfl) ?_ | refine go_pickT rfl ?_ | refine go_pickF rfl ?_ | refine go_pick rfl (fun h => ?_) (fun h => ?_) | refine go_call [] (hsz1) rfl rfl rfl rfl ?_ | refine go_call [] (g16 t hf_t) rfl rfl rfl rfl ?_ | refine go_call [] (c19s t hf_t) rfl rfl rfl rfl ?_ | refine go_call [] (c22 m) rfl rfl rfl rfl ?_ | refine go_call [] (hspec) rfl rfl rfl rfl ?_ | refine go_call [] (himpl) rfl rfl rfl rfl ?_ | refine go_call [] (heqR) rfl rfl rfl rfl ?_ | refine go_call [3] (hm1) rfl rfl rfl rfl ?_ | refine go_call [2, 0] hmR (argsIn_lent rfl rfl rfl) rfl rfl rfl ?_ | refine go_call [] (hhR) rfl rfl rfl rfl ?_) <;> conv => whnf) | ((first | refine go_dsplit2 rfl (fun h => ?_) (fun h => ?_) | refine go_loadB ?_ | refine ⟨by kernel_rfl, ?_⟩ | refine go_ret ?_) <;> conv => whnf) | ((first | refine go_skip ?_) <;> conv => whnf) | refine go_true rfl ?_ | refine go_false rfl ?_ | refine go_cond rfl (fun h => ?_) (fun h => ?_) | refine ⟨rfl, ?_⟩ | ((first | refine ⟨trivial, ?_⟩ | refine ⟨le_of_ble rfl, ?_⟩) <;> conv => whnf) | fail
  all_goals first
    | exact ret_imm rfl rfl rfl rfl rfl rfl
    | (exfalso; simp at h; done)
    | (exfalso; simp at h; omega)
    | (exfalso; have h' := of_decide_eq_false h; omega)
    | (exfalso; have h' := of_decide_eq_true h; omega)
    | (exfalso; rename_i hq; have h' := of_decide_eq_true hq; omega)
    | (exfalso; rename_i hq; have h' := of_decide_eq_false hq; omega)
    | (exfalso; rename_i hq _; have h' := of_decide_eq_true hq; omega)
    | (exfalso; rename_i hq _; have h' := of_decide_eq_false hq; omega)
    | trace_state
end Go.Proofs.Ytiedooadnafghaa

