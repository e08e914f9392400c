/- Trips that overtake each other: the program's list, told by its blocks. -/
import Derived.Test.YtingoclokmcmhaaO2
import Derived.Test.YtingoclokmcmhaaEA
namespace Go.Proofs.Ytingoclokmcmhaa
open Go Go.Am
set_option maxRecDepth 100000
set_option maxHeartbeats 8000000
attribute [local irreducible] amOps amC opCall opIndexAddr opPick retQ opMake opStore amDraw opAppend opLoad opNilCmp opIndex opSlice xQ

def kwO (d : Dep) : Int := IntKind.i64.wrap (d.time + d.delay)
def pairOv (a b : Dep) : Bool := decide (a.time < b.time) && decide (kwO b < kwO a)
def ovQ (a : Dep) (l : List Dep) : List (List Int) := (l.filter (pairOv a)).map fun b => [a.trip.id, b.trip.id]
def ovP (all l : List Dep) : List (List Int) := l.flatMap fun a => ovQ a all
def ovOk (t : Timetable) (ds : List TripDelay) (stop : Int) : Bool := delaysOk t ds && inR stop 0 ((t.net.stops.length : Int) - 1)
def ovR (t : Timetable) (ds : List TripDelay) (stop : Int) : List (List Int) := if ovOk t ds stop then ovP (deps t ds stop) (deps t ds stop) else []

theorem ovQ_next {a b : Dep} {l : List Dep} {j : Nat} (h : l[j]? = some b) : ovQ a (l.take (j + 1)) = ovQ a (l.take j) ++ (if pairOv a b then [[a.trip.id, b.trip.id]] else []) := by
  unfold ovQ
  rw [List.take_add_one, h]
  simp only [Option.toList_some, List.filter_append, List.map_append]
  congr 1
  cases hp : pairOv a b <;> simp [hp]
theorem ovP_next {all l : List Dep} {a : Dep} {i : Nat} (h : l[i]? = some a) : ovP all (l.take (i + 1)) = ovP all (l.take i) ++ ovQ a all := by
  unfold ovP
  rw [List.take_add_one, h]
  simp
theorem ovQ_len (a : Dep) (l : List Dep) : (ovQ a l).length ≤ l.length := by
  unfold ovQ
  rw [List.length_map]
  exact List.length_filter_le _ _
theorem ovP_len (all : List Dep) : ∀ l : List Dep, (ovP all l).length ≤ all.length * l.length
  | [] => by simp [ovP]
  | a :: l => by
    have h1 := ovP_len all l
    have h2 := ovQ_len a all
    have e : ovP all (a :: l) = ovQ a all ++ ovP all l := rfl
    rw [e, List.length_append, List.length_cons, Nat.mul_add]
    omega
theorem ovP_rows (all l : List Dep) : ∀ r ∈ ovP all l, r.length = 2 := by
  intro r hr
  obtain ⟨a, _, ha⟩ := List.mem_flatMap.1 hr
  obtain ⟨b, _, rfl⟩ := List.mem_map.1 ha
  rfl
theorem cntSS_two : ∀ rows : List (List Int), (∀ r ∈ rows, r.length = 2) → cntSS rows = 2 * rows.length
  | [], _ => rfl
  | r :: rs, h => by
    have h1 := cntSS_two rs fun x hx => h x (by simp [hx])
    have h2 := h r (by simp)
    have e : cntSS (r :: rs) = r.length + cntSS rs := by simp [cntSS]
    rw [e, h1, h2, List.length_cons]; omega
theorem ov_trips {t : Timetable} {ds : List TripDelay} {stop : Int} (h : ovOk t ds stop = true) : ttOk t = true ∧ (deps t ds stop).length ≤ 12 := by
  unfold ovOk delaysOk at h
  simp only [Bool.and_eq_true] at h
  have h1 := h.1.1
  refine ⟨h1, ?_⟩
  unfold ttOk tripsOk at h1
  simp only [Bool.and_eq_true, decide_eq_true_eq] at h1
  have : (deps t ds stop).length ≤ t.trips.length := List.length_filterMap_le _ _
  omega
theorem ovR_fit (t : Timetable) (ds : List TripDelay) (stop : Int) : (ovR t ds stop).length ≤ 144 ∧ ∀ r ∈ ovR t ds stop, r.length = 2 := by
  unfold ovR
  split
  · rename_i h
    have h1 := ovP_len (deps t ds stop) (deps t ds stop)
    have h2 := (ov_trips h).2
    have : (deps t ds stop).length * (deps t ds stop).length ≤ 12 * 12 := Nat.mul_le_mul h2 h2
    exact ⟨by omega, ovP_rows _ _⟩
  · exact ⟨by simp, fun r hr => by cases hr⟩

theorem outS_gr (xs : List (Value × List (List D))) : (outS xs).all (fun r => r.all D.gr) = true := by
  simp only [outS, List.all_map, List.all_eq_true]
  intro x _
  rfl
theorem outS_app (xs : List (Value × List (List D))) (v : Value) (r : List (List D)) : outS (xs ++ [(v, r)]) = outS xs ++ [[.other v]] := by simp [outS]
theorem join_add {ti : Nat} {xs : List (Value × List (List D))} {v : Value} {r : List (List D)} : ∀ w F1 F2, ExtAt (InnI ti 1 xs) w F1 → ExtAt (FlatI ti 1 r v) w F2 → (∀ b, ¬ (F1 b ∧ F2 b)) → ExtAt (InnI ti 1 (xs ++ [(v, r)])) w fun b => F1 b ∨ F2 b :=
  fun _ _ _ h1 h2 hd => (InnI.add h1.now h2.now fun b hb => hd b ⟨hb.2, hb.1⟩).ext

theorem x9 (t : Timetable) (hf : t.fit) (ds : List TripDelay) (hl : ds.length ≤ 1048576) (stop : Int) :
    XOk Try.prog 9 (XI.imm (.agg t.enc)) [.list (ds.map TripDelay.enc), .int .i64 stop] (XR.ext (LstI (ovR t ds stop))) [.bool (ovOk t ds stop)] := by
  refine xOk_of tyOk Try.func9 rfl rfl (le_of_ble rfl) ?_
  intro v0
  have hc0 := c25 t hf ds hl stop 0
  have e0 : nbOk t ds stop 0 = ovOk t ds stop := by
    unfold nbOk ovOk
    rw [show timeOk 0 = true from rfl, Bool.and_true]
  rw [e0] at hc0
  cases hok : ovOk t ds stop with
  | false =>
    have e1 : ovR t ds stop = [] := by unfold ovR; rw [hok]; rfl
    rw [e1]
    rw [hok] at hc0
    repeat' first | refine go_seq ?_ | refine go_region ?_ | refine go_miss rfl rfl rfl ?_ | refine go_undef rfl rfl rfl ?_ | refine go_draw drawsOk ?_ | ((first | refine go_op rfl ?_ | refine go_nil ?_ | refine go_hit rfl rfl rfl ?_ | refine go_splitT rfl rfl rfl (fun h => ?_) (fun h => ?_) | refine go_splitF rfl rfl rfl (fun h => ?_) (fun h => ?_) | refine go_storeBox rfl rfl rfl rfl rfl rfl ?_ | refine go_dop rfl ?_ | refine go_dhit rfl rfl ?_ | refine go_dmiss rfl rfl ?_ | refine go_dundef rfl rfl ?_ | refine go_dend (by kernel_rfl) ?_ | refine go_pickT rfl ?_ | refine go_pickF rfl ?_ | refine go_pick rfl (fun h => ?_) (fun h => ?_) | refine go_call [] (hc0) rfl rfl rfl rfl ?_) <;> conv => whnf) | ((first | refine Or.inl ?_ | refine go_dsplit2 rfl (fun h => ?_) (fun h => ?_) | refine go_loadB ?_ | refine ⟨by kernel_rfl, ?_⟩ | refine go_ret ?_) <;> conv => whnf) | refine go_block ?_ | ((first | refine go_skip ?_ | refine go_exit ?_) <;> conv => whnf) | refine go_true rfl ?_ | refine go_false rfl ?_ | refine go_cond rfl (fun h => ?_) (fun h => ?_) | refine ⟨rfl, ?_⟩ | ((first | refine ⟨trivial, ?_⟩ | refine ⟨le_of_ble rfl, ?_⟩) <;> conv => whnf) | fail
    all_goals first
      | (refine ret_x (av := .own _ 0 0) [_] [] rfl rfl (by intro e; cases e) rfl rfl (close_nil (outer := outS) rfl rfl) (close_no v0) (by simp)
         done)
      | (exfalso; simp at h; done)
      | trace_state
  | true =>
    have e1 : ovR t ds stop = ovP (deps t ds stop) (deps t ds stop) := by unfold ovR; rw [hok]; rfl
    rw [e1]
    obtain ⟨htt, hdl⟩ := ov_trips hok
    rw [hok] at hc0
    have hc1 := c26 t hf htt ds hl stop
    generalize deps t ds stop = L at *
    have hLl : (L.map Dep.enc).length = L.length := List.length_map _
    repeat' first | refine go_seq ?_ | refine go_region ?_ | refine go_miss rfl rfl rfl ?_ | refine go_undef rfl rfl rfl ?_ | refine go_draw drawsOk ?_ | ((first | refine go_op rfl ?_ | refine go_nil ?_ | refine go_hit rfl rfl rfl ?_ | refine go_splitT rfl rfl rfl (fun h => ?_) (fun h => ?_) | refine go_splitF rfl rfl rfl (fun h => ?_) (fun h => ?_) | refine go_storeBox rfl rfl rfl rfl rfl rfl ?_ | refine go_dop rfl ?_ | refine go_dhit rfl rfl ?_ | refine go_dmiss rfl rfl ?_ | refine go_dundef rfl rfl ?_ | refine go_dend (by kernel_rfl) ?_ | refine go_pickT rfl ?_ | refine go_pickF rfl ?_ | refine go_pick rfl (fun h => ?_) (fun h => ?_) | refine go_call [] (hc0) rfl rfl rfl rfl ?_ | refine go_call [] (hc1) rfl rfl rfl rfl ?_) <;> conv => whnf) | ((first | refine Or.inl ?_ | refine go_dsplit2 rfl (fun h => ?_) (fun h => ?_) | refine go_loadB ?_ | refine ⟨by kernel_rfl, ?_⟩ | refine go_ret ?_) <;> conv => whnf) | refine go_block ?_ | ((first | refine go_skip ?_ | refine go_exit ?_) <;> conv => whnf) | refine go_true rfl ?_ | refine go_false rfl ?_ | refine go_cond rfl (fun h => ?_) (fun h => ?_) | refine ⟨rfl, ?_⟩ | ((first | refine ⟨trivial, ?_⟩ | refine ⟨le_of_ble rfl, ?_⟩) <;> conv => whnf) | fail
    all_goals try (exfalso; simp at h; done)
    refine go_loop (α := Nat × List (Value × List (List D))) (fun p => p.1 ≤ L.length ∧ p.2.map (·.2) = (ovP L (L.take p.1)).map fun r => r.map intRow) (fun p => L.length - p.1)
      (fun p => st Try.f9.ntmps [(8, .imm (.list (L.map Dep.enc))), (9, .own 1000 0 (outS p.2).length), (23, .imm (.list (L.map Dep.enc))), (24, .imm (.int .i64 (L.map Dep.enc).length)), (25, .imm (.int .i64 (p.1 : Nat)))]
        [(1000, .arr 57 1 (outS p.2)), (1001, .ext (InnI 3 1 p.2)), (1005, .gone)] [1005]) (0, []) ⟨Nat.zero_le _, rfl⟩ ?_ ?_
    · exact Ref.trans (ref_newX (id := 3000) (I := InnI 3 1 []) rfl (fun w => (InnI.nil _ _ w _).ext)) (ref_st (fun y => if y = 1000 then nid 4 9 else if y = 1001 then 3000 else 0) rfl ⟨rfl, ⟨rfl, rfl⟩, rfl, rfl, rfl, trivial⟩ ⟨rfl, rfl, rfl, trivial⟩ (by simp [nid]) rfl (by simp [lookM]))
    rintro ⟨i, xs⟩ ⟨hi, hxs⟩
    simp only at hi hxs
    have hxl : (outS xs).length = (ovP L (L.take i)).length := by have := congrArg List.length hxs; simpa [outS] using this
    have hpl := ovP_len L (L.take i)
    have hml : L.length * (L.take i).length ≤ 12 * 12 := Nat.mul_le_mul hdl (by rw [List.length_take]; omega)
    cases hx : L[i]? with
    | none =>
      have hge := le_of_at hx
      rw [List.take_of_length_le hge] at hxs
      repeat' first | refine go_seq ?_ | refine go_region ?_ | refine go_miss rfl rfl rfl ?_ | refine go_undef rfl rfl rfl ?_ | refine go_draw drawsOk ?_ | ((first | refine go_op rfl ?_ | refine go_nil ?_ | refine go_hit rfl rfl rfl ?_ | refine go_splitT rfl rfl rfl (fun h => ?_) (fun h => ?_) | refine go_splitF rfl rfl rfl (fun h => ?_) (fun h => ?_) | refine go_storeBox rfl rfl rfl rfl rfl rfl ?_ | refine go_dop rfl ?_ | refine go_dhit rfl rfl ?_ | refine go_dmiss rfl rfl ?_ | refine go_dundef rfl rfl ?_ | refine go_dend (by kernel_rfl) ?_ | refine go_pickT rfl ?_ | refine go_pickF rfl ?_ | refine go_pick rfl (fun h => ?_) (fun h => ?_)) <;> conv => whnf) | ((first | refine Or.inl ?_ | refine go_dsplit2 rfl (fun h => ?_) (fun h => ?_) | refine go_loadB ?_ | refine ⟨by kernel_rfl, ?_⟩ | refine go_ret ?_) <;> conv => whnf) | refine go_block ?_ | ((first | refine go_skip ?_ | refine go_exit ?_) <;> conv => whnf) | refine go_true rfl ?_ | refine go_false rfl ?_ | refine go_cond rfl (fun h => ?_) (fun h => ?_) | refine ⟨rfl, ?_⟩ | ((first | refine ⟨trivial, ?_⟩ | refine ⟨le_of_ble rfl, ?_⟩) <;> conv => whnf) | fail
      all_goals first
        | (refine ret_x (av := .own 1000 0 (outS xs).length) [1000, 1001] [] rfl rfl (by intro e; cases e) rfl rfl (close_own (outer := outS) (xs := xs) rfl rfl (outS_gr xs) rfl hxs) (close_no v0) (by simp)
           done)
        | (exfalso; have h' := of_decide_eq_false h; omega)
        | (exfalso; have h' := of_decide_eq_true h; omega)
        | (exfalso; rename_i hq; have h' := of_decide_eq_true hq; omega)
        | (exfalso; rename_i hq; have h' := of_decide_eq_false hq; omega)
        | (exfalso; rename_i hq _; have h' := of_decide_eq_true hq; omega)
        | (exfalso; rename_i hq _; have h' := of_decide_eq_false hq; omega)
        | (exfalso; simp at h; omega)
        | trace_state
    | some a =>
      have hlt := lt_of_at hx
      have hra := row_at Dep.enc hx
      have hnP := ovP_next (all := L) hx
      repeat' first | refine go_seq ?_ | refine go_region ?_ | refine go_miss rfl rfl rfl ?_ | refine go_undef rfl rfl rfl ?_ | refine go_draw drawsOk ?_ | ((first | refine go_op rfl ?_ | refine go_nil ?_ | refine go_hit rfl rfl rfl ?_ | refine go_splitT rfl rfl rfl (fun h => ?_) (fun h => ?_) | refine go_splitF rfl rfl rfl (fun h => ?_) (fun h => ?_) | refine go_storeBox rfl rfl rfl rfl rfl rfl ?_ | refine go_dop rfl ?_ | refine go_dhit rfl rfl ?_ | refine go_dmiss rfl rfl ?_ | refine go_dundef rfl rfl ?_ | refine go_dend (by kernel_rfl) ?_ | refine go_pickT rfl ?_ | refine go_pickF rfl ?_ | refine go_pick rfl (fun h => ?_) (fun h => ?_) | refine go_idx rfl rfl rfl rfl (by omega) hra rfl ?_) <;> conv => whnf) | ((first | refine Or.inl ?_ | refine go_dsplit2 rfl (fun h => ?_) (fun h => ?_) | refine go_loadB ?_ | refine ⟨by kernel_rfl, ?_⟩ | refine go_ret ?_) <;> conv => whnf) | refine go_block ?_ | ((first | refine go_skip ?_ | refine go_exit ?_) <;> conv => whnf) | refine go_true rfl ?_ | refine go_false rfl ?_ | refine go_cond rfl (fun h => ?_) (fun h => ?_) | refine ⟨rfl, ?_⟩ | ((first | refine ⟨trivial, ?_⟩ | refine ⟨le_of_ble rfl, ?_⟩) <;> conv => whnf) | fail
      all_goals try first
        | (exfalso; have h' := of_decide_eq_false h; omega)
        | (exfalso; have h' := of_decide_eq_true h; omega)
        | (exfalso; rename_i hq; have h' := of_decide_eq_true hq; omega)
        | (exfalso; rename_i hq; have h' := of_decide_eq_false hq; omega)
        | (exfalso; rename_i hq _; have h' := of_decide_eq_true hq; omega)
        | (exfalso; rename_i hq _; have h' := of_decide_eq_false hq; omega)
        | (exfalso; simp at h; omega)
      clear hx
      refine go_loop (α := Nat × List (Value × List (List D))) (fun p => p.1 ≤ L.length ∧ p.2.map (·.2) = (ovP L (L.take i) ++ ovQ a (L.take p.1)).map fun r => r.map intRow) (fun p => L.length - p.1)
        (fun p => st Try.f9.ntmps [(8, .imm (.list (L.map Dep.enc))), (9, .own 1000 0 (outS p.2).length), (11, .box 1002 0), (23, .imm (.list (L.map Dep.enc))), (24, .imm (.int .i64 (L.map Dep.enc).length)), (25, .imm (.int .i64 (i : Nat))), (29, .imm (.list (L.map Dep.enc))), (30, .imm (.int .i64 (L.map Dep.enc).length)), (31, .imm (.int .i64 (p.1 : Nat)))]
          [(1000, .arr 57 1 (outS p.2)), (1001, .ext (InnI 3 1 p.2)), (1002, .box 68 (a.enc.map .imm)), (1005, .gone)] [1005]) (0, xs) ⟨Nat.zero_le _, by simpa [ovQ] using hxs⟩ ?_ ?_
      · exact ref_st (fun y => if y = 1002 then nid 3 11 else y) rfl ⟨rfl, ⟨rfl, rfl⟩, ⟨rfl, rfl⟩, rfl, rfl, rfl, rfl, rfl, rfl, trivial⟩ ⟨rfl, rfl, ⟨rfl, wavs_imm _⟩, rfl, trivial⟩ (by simp [nid]) rfl (by simp [lookM])
      clear hxs hxl
      rintro ⟨j, ys⟩ ⟨hj, hys⟩
      simp only at hj hys
      have hyl : (outS ys).length = (ovP L (L.take i)).length + (ovQ a (L.take j)).length := by have := congrArg List.length hys; simpa [outS] using this
      have hql := ovQ_len a (L.take j)
      rw [List.length_take] at hql
      cases hy : L[j]? with
      | none =>
        have hge := le_of_at hy
        rw [List.take_of_length_le (l := L) (i := j) hge, ← hnP] at hys
        repeat' first | refine go_seq ?_ | refine go_region ?_ | refine go_miss rfl rfl rfl ?_ | refine go_undef rfl rfl rfl ?_ | refine go_draw drawsOk ?_ | ((first | refine go_op rfl ?_ | refine go_nil ?_ | refine go_hit rfl rfl rfl ?_ | refine go_splitT rfl rfl rfl (fun h => ?_) (fun h => ?_) | refine go_splitF rfl rfl rfl (fun h => ?_) (fun h => ?_) | refine go_storeBox rfl rfl rfl rfl rfl rfl ?_ | refine go_dop rfl ?_ | refine go_dhit rfl rfl ?_ | refine go_dmiss rfl rfl ?_ | refine go_dundef rfl rfl ?_ | refine go_dend (by kernel_rfl) ?_ | refine go_pickT rfl ?_ | refine go_pickF rfl ?_ | refine go_pick rfl (fun h => ?_) (fun h => ?_)) <;> conv => whnf) | ((first | refine Or.inl ?_ | refine go_dsplit2 rfl (fun h => ?_) (fun h => ?_) | refine go_loadB ?_ | refine ⟨by kernel_rfl, ?_⟩ | refine go_ret ?_) <;> conv => whnf) | refine go_block ?_ | ((first | refine go_skip ?_ | refine go_exit ?_) <;> conv => whnf) | refine go_true rfl ?_ | refine go_false rfl ?_ | refine go_cond rfl (fun h => ?_) (fun h => ?_) | refine ⟨rfl, ?_⟩ | ((first | refine ⟨trivial, ?_⟩ | refine ⟨le_of_ble rfl, ?_⟩) <;> conv => whnf) | fail
        all_goals first
          | exact go_next (i + 1, ys) ⟨by show i + 1 ≤ _; omega, hys⟩ (by show L.length - (i + 1) < L.length - i; omega) (ref_st id rfl ⟨rfl, ⟨rfl, rfl⟩, rfl, rfl, next_i (i := i) (by omega), trivial⟩ ⟨rfl, rfl, rfl, trivial⟩ (by simp) rfl (by simp [lookM]))
          | (exfalso; have h' := of_decide_eq_false h; omega)
          | (exfalso; have h' := of_decide_eq_true h; omega)
          | (exfalso; rename_i hq; have h' := of_decide_eq_true hq; omega)
          | (exfalso; rename_i hq; have h' := of_decide_eq_false hq; omega)
          | (exfalso; rename_i hq _; have h' := of_decide_eq_true hq; omega)
          | (exfalso; rename_i hq _; have h' := of_decide_eq_false hq; omega)
          | (exfalso; simp at h; omega)
          | trace_state
      | some b =>
        have hlt2 := lt_of_at hy
        have hrb := row_at Dep.enc hy
        have hnQ := ovQ_next (a := a) hy
        have hbd : (outS ys).length + 1 ≤ 1073741824 := by omega
        cases hp : pairOv a b with
        | true =>
          rw [hp, if_pos rfl] at hnQ
          have hp' := hp
          unfold pairOv kwO at hp'
          simp only [Bool.and_eq_true, decide_eq_true_eq] at hp'
          repeat' first | (refine go_exact tyOk (s := 60) (id := nid 5 60) (id' := 4000) (ty := 3) (sz := 1) (rows := [a.trip.id, b.trip.id].map intRow) rfl rfl rfl rfl rfl ?_; intro oad cap; conv => whnf) | refine go_seq ?_ | refine go_region ?_ | refine go_miss rfl rfl rfl ?_ | refine go_undef rfl rfl rfl ?_ | refine go_draw drawsOk ?_ | ((first | refine go_op rfl ?_ | refine go_nil ?_ | refine go_hit rfl rfl rfl ?_ | refine go_splitT rfl rfl rfl (fun h => ?_) (fun h => ?_) | refine go_splitF rfl rfl rfl (fun h => ?_) (fun h => ?_) | refine go_storeBox rfl rfl rfl rfl rfl rfl ?_ | refine go_dop rfl ?_ | refine go_dhit rfl rfl ?_ | refine go_dmiss rfl rfl ?_ | refine go_dundef rfl rfl ?_ | refine go_dend (by kernel_rfl) ?_ | refine go_pickT rfl ?_ | refine go_pickF rfl ?_ | refine go_pick rfl (fun h => ?_) (fun h => ?_) | refine go_idx rfl rfl rfl rfl (by omega) hrb rfl ?_ | refine go_append (rows2 := [[.other (.slice oad 2 cap)]]) rfl rfl rfl rfl rfl rfl rfl rfl rfl rfl rfl rfl rfl rfl rfl rfl hbd ?_) <;> conv => whnf) | ((first | refine Or.inl ?_ | refine go_dsplit2 rfl (fun h => ?_) (fun h => ?_) | refine go_loadB ?_ | refine ⟨by kernel_rfl, ?_⟩ | refine go_ret ?_) <;> conv => whnf) | refine go_block ?_ | ((first | refine go_skip ?_ | refine go_exit ?_) <;> conv => whnf) | refine go_true rfl ?_ | refine go_false rfl ?_ | refine go_cond rfl (fun h => ?_) (fun h => ?_) | refine ⟨rfl, ?_⟩ | ((first | refine ⟨trivial, ?_⟩ | refine ⟨le_of_ble rfl, ?_⟩) <;> conv => whnf) | fail
          all_goals try first
            | (exfalso; have h' := of_decide_eq_false h; omega)
            | (exfalso; have h' := of_decide_eq_true h; omega)
            | (exfalso; rename_i hq; have h' := of_decide_eq_true hq; omega)
            | (exfalso; rename_i hq; have h' := of_decide_eq_false hq; omega)
            | (exfalso; rename_i hq _; have h' := of_decide_eq_true hq; omega)
            | (exfalso; rename_i hq _; have h' := of_decide_eq_false hq; omega)
            | (exfalso; simp_all; done)
            | (exfalso; simp_all; omega)
          refine go_next (j + 1, ys ++ [(Value.slice oad 2 cap, [a.trip.id, b.trip.id].map intRow)]) ⟨by show j + 1 ≤ _; omega, ?_⟩ (by show L.length - (j + 1) < L.length - j; omega) (Ref.trans (ref_joinX (id1 := 1001) (id2 := 4000) (id3 := 3000) rfl rfl rfl rfl join_add) (ref_st (fun y => if y = 1000 then nid 5 62 else if y = 1001 then 3000 else y) rfl ⟨rfl, ⟨?_, rfl⟩, ⟨rfl, rfl⟩, rfl, rfl, rfl, rfl, rfl, next_i (i := j) (by omega), trivial⟩ ⟨?_, rfl, ⟨rfl, wavs_imm _⟩, rfl, trivial⟩ (by simp [nid]) rfl (by simp [lookM])))
          · show (ys ++ _).map (·.2) = _
            rw [List.map_append, hys, hnQ, ← List.append_assoc, List.map_append (l₁ := ovP L (L.take i) ++ ovQ a (L.take j))]
            rfl
          · show AV.own _ _ _ = AV.own _ _ _
            rw [outS_app, List.length_append]; try rfl
          · rw [outS_app]; rfl
        | false =>
          rw [hp, if_neg (by simp), List.append_nil] at hnQ
          rw [← hnQ] at hys
          have hp' := hp
          unfold pairOv kwO at hp'
          simp only [Bool.and_eq_false_iff, decide_eq_false_iff_not] at hp'
          repeat' first | (refine go_exact tyOk (s := 60) (id := nid 5 60) (id' := 4000) (ty := 3) (sz := 1) (rows := [a.trip.id, b.trip.id].map intRow) rfl rfl rfl rfl rfl ?_; intro oad cap; conv => whnf) | refine go_seq ?_ | refine go_region ?_ | refine go_miss rfl rfl rfl ?_ | refine go_undef rfl rfl rfl ?_ | refine go_draw drawsOk ?_ | ((first | refine go_op rfl ?_ | refine go_nil ?_ | refine go_hit rfl rfl rfl ?_ | refine go_splitT rfl rfl rfl (fun h => ?_) (fun h => ?_) | refine go_splitF rfl rfl rfl (fun h => ?_) (fun h => ?_) | refine go_storeBox rfl rfl rfl rfl rfl rfl ?_ | refine go_dop rfl ?_ | refine go_dhit rfl rfl ?_ | refine go_dmiss rfl rfl ?_ | refine go_dundef rfl rfl ?_ | refine go_dend (by kernel_rfl) ?_ | refine go_pickT rfl ?_ | refine go_pickF rfl ?_ | refine go_pick rfl (fun h => ?_) (fun h => ?_) | refine go_idx rfl rfl rfl rfl (by omega) hrb rfl ?_ | refine go_append (rows2 := [[.other (.slice oad 2 cap)]]) rfl rfl rfl rfl rfl rfl rfl rfl rfl rfl rfl rfl rfl rfl rfl rfl hbd ?_) <;> conv => whnf) | ((first | refine Or.inl ?_ | refine go_dsplit2 rfl (fun h => ?_) (fun h => ?_) | refine go_loadB ?_ | refine ⟨by kernel_rfl, ?_⟩ | refine go_ret ?_) <;> conv => whnf) | refine go_block ?_ | ((first | refine go_skip ?_ | refine go_exit ?_) <;> conv => whnf) | refine go_true rfl ?_ | refine go_false rfl ?_ | refine go_cond rfl (fun h => ?_) (fun h => ?_) | refine ⟨rfl, ?_⟩ | ((first | refine ⟨trivial, ?_⟩ | refine ⟨le_of_ble rfl, ?_⟩) <;> conv => whnf) | fail
          all_goals first
            | exact go_next (j + 1, ys) ⟨by show j + 1 ≤ _; omega, hys⟩ (by show L.length - (j + 1) < L.length - j; omega) (ref_st id rfl ⟨rfl, ⟨rfl, rfl⟩, ⟨rfl, rfl⟩, rfl, rfl, rfl, rfl, rfl, next_i (i := j) (by omega), trivial⟩ ⟨rfl, rfl, ⟨rfl, wavs_imm _⟩, rfl, trivial⟩ (by simp) rfl (by simp [lookM]))
            | (exfalso; have h' := of_decide_eq_false h; omega)
            | (exfalso; have h' := of_decide_eq_true h; omega)
            | (exfalso; rename_i hq; have h' := of_decide_eq_true hq; omega)
            | (exfalso; rename_i hq; have h' := of_decide_eq_false hq; omega)
            | (exfalso; rename_i hq _; have h' := of_decide_eq_true hq; omega)
            | (exfalso; rename_i hq _; have h' := of_decide_eq_false hq; omega)
            | (exfalso; simp_all; done)
            | (exfalso; simp_all; omega)
            | trace_state
end Go.Proofs.Ytingoclokmcmhaa

