/- The walk of a change of one delay as the reference does it, and the law of DelayTrip, walked. -/
import Derived.Test.YtiedooadnafghaaE1
namespace Go.Proofs.Ytiedooadnafghaa
open Go Go.Am
set_option maxRecDepth 100000
set_option maxHeartbeats 4000000
attribute [local irreducible] amOps amC opCall opIndexAddr opPick retQ opMake opStore amDraw opAppend opLoad opNilCmp opIndex opSlice

theorem sp_len {id : Int} {x : TripDelay} : ∀ (ds : List TripDelay) (s : List TripDelay × Bool), (ds.foldl (spStep id x) s).1.length ≤ s.1.length + 2 * ds.length
  | [], s => by simp
  | d :: r, s => by
    rw [List.foldl_cons]
    have h := sp_len (id := id) (x := x) r (spStep id x s d)
    have h2 : (spStep id x s d).1.length ≤ s.1.length + 2 := by
      unfold spStep
      split <;> (simp only [List.length_append]; split <;> simp)
    simp only [List.length_cons]
    omega
theorem dtOut_sp {t : Timetable} {ds : List TripDelay} (h : delaysIn t ds = true) (id mi : Int) :
    spEnd (dtOwn ds id mi) (ds.foldl (spStep id (dtOwn ds id mi)) ([], decide ((dtOwn ds id mi).minutes = 0))) = dtOut ds id mi := by
  have hs := delays_sorted h
  unfold dtOut dtMid
  by_cases hz : (dtOwn ds id mi).minutes = 0
  · rw [if_pos hz, decide_eq_true hz, sp_put, sp_eq0 ds hs]
    simp [spEnd]
  · rw [if_neg hz, decide_eq_false hz, sp_eq ds [] hs]
    simp
theorem dt_ok2 {t : Timetable} {ds : List TripDelay} (h : delaysOk t ds = true) (out : List TripDelay) : delaysOk t out = delaysIn t out := by
  unfold delaysOk at h ⊢
  simp only [Bool.and_eq_true] at h
  rw [h.1]; rfl

def spAt (ds : List TripDelay) (id mi : Int) (i : Nat) : List TripDelay × Bool := (ds.take i).foldl (spStep id (dtOwn ds id mi)) ([], decide ((dtOwn ds id mi).minutes = 0))
theorem spAt_next {ds : List TripDelay} {i : Nat} {v : TripDelay} (id mi : Int) (h : ds[i]? = some v) : spAt ds id mi (i + 1) = spStep id (dtOwn ds id mi) (spAt ds id mi i) v := foldl_next h
theorem spAt_len (ds : List TripDelay) (id mi : Int) (i : Nat) : (spAt ds id mi i).1.length ≤ 2 * i := by
  have := sp_len (id := id) (x := dtOwn ds id mi) (ds.take i) ([], decide ((dtOwn ds id mi).minutes = 0))
  rw [List.length_take] at this
  simp at this
  unfold spAt
  omega

theorem c28 (t : Timetable) (hf : t.fit) (ds : List TripDelay) (hl : ds.length ≤ 1048576) (id mi : Int) : CallOk Try.prog 28 [.imm (.agg t.enc), .imm (.list (ds.map TripDelay.enc)), .imm (.int .i64 id), .imm (.int .i64 mi)] { res := [.arr 99 2 ((dtR t ds id mi).map TripDelay.enc), .imm (.bool (dtOk t ds id mi))] } := by
  refine callOk_of tyOk Try.func28 rfl rfl (le_of_ble rfl) (le_of_ble rfl) (mutOk_imm rfl _) ?_
  have hc0 := c61 t hf ds (by omega)
  have hc1 := c71 t hf id
  have hc2 := c72 mi (-600) 600
  have hc3 := c85 ds id (by omega)
  cases hp : dtPre t ds id mi with
  | false =>
    have e0 : dtOk t ds id mi = false := by unfold dtOk; rw [hp]; rfl
    have e1 : dtR t ds id mi = [] := by unfold dtR; rw [e0]; rfl
    rw [e0, e1]
    unfold dtPre at hp
    repeat' first
      | refine go_seq ?_
      | refine go_region ?_
      | (refine go_op rfl ?_; conv => whnf)
      | (refine go_nil ?_; conv => whnf)
      | (refine go_hit rfl rfl rfl ?_; conv => whnf)
      | (refine go_miss rfl rfl rfl ?_)
      | (refine go_undef rfl rfl rfl ?_)
      | (refine go_splitT rfl rfl rfl (fun h => ?_) (fun h => ?_) <;> conv => whnf)
      | (refine go_splitF rfl rfl rfl (fun h => ?_) (fun h => ?_) <;> conv => whnf)
      | (refine go_storeBox rfl rfl rfl rfl rfl rfl ?_; conv => whnf)
      | (refine go_dop rfl ?_; conv => whnf)
      | (refine go_dhit rfl rfl ?_; conv => whnf)
      | (refine go_dmiss rfl rfl ?_; conv => whnf)
      | (refine go_dundef rfl rfl ?_; conv => whnf)
      | (refine go_dend (by kernel_rfl) ?_; conv => whnf)
      | refine go_draw drawsOk ?_
      | (refine go_pickT rfl ?_; conv => whnf)
      | (refine go_pickF rfl ?_; conv => whnf)
      | (refine go_pick rfl (fun h => ?_) (fun h => ?_) <;> conv => whnf)
      | (refine go_call [] (hc0) rfl rfl rfl rfl ?_; conv => whnf)
      | (refine go_call [] (hc1) rfl rfl rfl rfl ?_; conv => whnf)
      | (refine go_call [] (hc2) rfl rfl rfl rfl ?_; conv => whnf)
      | (refine go_dsplit2 rfl (fun h => ?_) (fun h => ?_) <;> conv => whnf)
      | (refine go_loadB ?_; conv => whnf)
      | (refine ⟨by kernel_rfl, ?_⟩; conv => whnf)
      | (refine go_ret ?_; conv => whnf)
      | refine go_block ?_
      | (refine go_skip ?_; conv => whnf)
      | (refine go_exit ?_; conv => whnf)
      | refine go_true rfl ?_
      | refine go_false rfl ?_
      | refine go_cond rfl (fun h => ?_) (fun h => ?_)
      | refine ⟨rfl, ?_⟩
      | (refine ⟨trivial, ?_⟩; conv => whnf)
      | (refine ⟨le_of_ble rfl, ?_⟩; conv => whnf)
      | fail
    all_goals first
      | exact ret_arr2 rfl rfl rfl rfl rfl rfl (by intro r hr; cases hr) rfl rfl rfl
      | (exfalso; simp_all [hasTrip]; done)
      | (exfalso; simp_all [hasTrip]; omega)
      | trace_state
  | true =>
    have hp' := hp
    unfold dtPre at hp'
    simp only [Bool.and_eq_true] at hp'
    obtain ⟨p1, p2, p3⟩ := hp'
    rw [p1] at hc0
    rw [p3] at hc2
    have p2' : 0 ≤ idxF (pId id) t.trips := by simpa [hasTrip] using p2
    have hlm : (ds.map TripDelay.enc).length = ds.length := List.length_map _
    have hdl : ds.length ≤ 999 := delays_len p1
    have p1' := p1
    unfold delaysOk at p1'
    simp only [Bool.and_eq_true] at p1'
    have hsp := dtOut_sp p1'.2 id mi
    repeat' first
      | refine go_seq ?_
      | refine go_region ?_
      | (refine go_op rfl ?_; conv => whnf)
      | (refine go_nil ?_; conv => whnf)
      | (refine go_hit rfl rfl rfl ?_; conv => whnf)
      | (refine go_miss rfl rfl rfl ?_)
      | (refine go_undef rfl rfl rfl ?_)
      | (refine go_splitT rfl rfl rfl (fun h => ?_) (fun h => ?_) <;> conv => whnf)
      | (refine go_splitF rfl rfl rfl (fun h => ?_) (fun h => ?_) <;> conv => whnf)
      | (refine go_storeBox rfl rfl rfl rfl rfl rfl ?_; conv => whnf)
      | (refine go_dop rfl ?_; conv => whnf)
      | (refine go_dhit rfl rfl ?_; conv => whnf)
      | (refine go_dmiss rfl rfl ?_; conv => whnf)
      | (refine go_dundef rfl rfl ?_; conv => whnf)
      | (refine go_dend (by kernel_rfl) ?_; conv => whnf)
      | refine go_draw drawsOk ?_
      | (refine go_pickT rfl ?_; conv => whnf)
      | (refine go_pickF rfl ?_; conv => whnf)
      | (refine go_pick rfl (fun h => ?_) (fun h => ?_) <;> conv => whnf)
      | (refine go_call [] (hc0) rfl rfl rfl rfl ?_; conv => whnf)
      | (refine go_call [] (hc1) rfl rfl rfl rfl ?_; conv => whnf)
      | (refine go_call [] (hc2) rfl rfl rfl rfl ?_; conv => whnf)
      | (refine go_call [] (hc3) rfl rfl rfl rfl ?_; conv => whnf)
      | (refine go_dsplit2 rfl (fun h => ?_) (fun h => ?_) <;> conv => whnf)
      | (refine go_loadB ?_; conv => whnf)
      | (refine ⟨by kernel_rfl, ?_⟩; conv => whnf)
      | (refine go_ret ?_; conv => whnf)
      | refine go_block ?_
      | (refine go_skip ?_; conv => whnf)
      | (refine go_exit ?_; conv => whnf)
      | refine go_true rfl ?_
      | refine go_false rfl ?_
      | refine go_cond rfl (fun h => ?_) (fun h => ?_)
      | refine ⟨rfl, ?_⟩
      | (refine ⟨trivial, ?_⟩; conv => whnf)
      | (refine ⟨le_of_ble rfl, ?_⟩; conv => whnf)
      | fail
    all_goals try (exfalso; simp at h; omega)
    refine go_loop (α := Nat) (fun i => i ≤ ds.length) (fun i => ds.length - i)
      (fun i => st Try.f28.ntmps [(1, .imm (.list (ds.map TripDelay.enc))), (2, .imm (.int .i64 id)), (4, .box 1000 0), (10, .box 1002 0), (11, .own 1001 0 ((spAt ds id mi i).1.map TripDelay.enc).length), (12, .imm (.bool (spAt ds id mi i).2)), (13, .imm (.int .i64 (i : Nat)))]
        [(1000, .box 38 (t.enc.map .imm)), (1001, .arr 99 2 ((spAt ds id mi i).1.map TripDelay.enc)), (1002, .box 99 ((dtOwn ds id mi).enc.map .imm))] []) 0 (Nat.zero_le _) ?_ ?_
    · exact ref_st (fun x => if x = 1000 then nid 1 4 else if x = 1001 then nid 4 37 else nid 3 10) rfl ⟨rfl, rfl, ⟨rfl, rfl⟩, ⟨rfl, rfl⟩, ⟨rfl, rfl⟩, rfl, rfl, trivial⟩ ⟨⟨rfl, wavs_imm _⟩, rfl, ⟨rfl, wavs_imm _⟩, trivial⟩ (by simp [nid]) rfl (by simp)
    intro i hi
    have hol := spAt_len ds id mi i
    have hst : spEnd (dtOwn ds id mi) (spAt ds id mi ds.length) = dtOut ds id mi := by unfold spAt; rw [List.take_length]; exact hsp
    cases hx : ds[i]? with
    | some v =>
      have hlt := lt_of_at hx
      have hr := row_at TripDelay.enc hx
      have hnx := spAt_next id mi hx
      generalize hs : spAt ds id mi i = s at *
      obtain ⟨o, p⟩ := s
      simp only at hol
      have hb : (o.map TripDelay.enc).length + 1 ≤ 1073741824 := by rw [List.length_map]; omega
      have hb3 : (o.map TripDelay.enc).length + 1 + 1 ≤ 1073741824 := by rw [List.length_map]; omega
      cases p with
      | true =>
        by_cases hv : v.id = id
        · skip
          have e : spAt ds id mi (i + 1) = (o, true) := by rw [hnx]; unfold spStep; simp [show isId id v = true from decide_eq_true hv]
          repeat' first
            | refine go_seq ?_
            | refine go_region ?_
            | (refine go_op rfl ?_; conv => whnf)
            | (refine go_nil ?_; conv => whnf)
            | (refine go_hit rfl rfl rfl ?_; conv => whnf)
            | (refine go_miss rfl rfl rfl ?_)
            | (refine go_undef rfl rfl rfl ?_)
            | (refine go_splitT rfl rfl rfl (fun h => ?_) (fun h => ?_) <;> conv => whnf)
            | (refine go_splitF rfl rfl rfl (fun h => ?_) (fun h => ?_) <;> conv => whnf)
            | (refine go_storeBox rfl rfl rfl rfl rfl rfl ?_; conv => whnf)
            | (refine go_dop rfl ?_; conv => whnf)
            | (refine go_dhit rfl rfl ?_; conv => whnf)
            | (refine go_dmiss rfl rfl ?_; conv => whnf)
            | (refine go_dundef rfl rfl ?_; conv => whnf)
            | (refine go_dend (by kernel_rfl) ?_; conv => whnf)
            | refine go_draw drawsOk ?_
            | (refine go_pickT rfl ?_; conv => whnf)
            | (refine go_pickF rfl ?_; conv => whnf)
            | (refine go_pick rfl (fun h => ?_) (fun h => ?_) <;> conv => whnf)
            | (refine go_idx rfl rfl rfl rfl (by omega) hr rfl ?_; conv => whnf)
            | (refine go_dsplit2 rfl (fun h => ?_) (fun h => ?_) <;> conv => whnf)
            | (refine go_loadB ?_; conv => whnf)
            | (refine ⟨by kernel_rfl, ?_⟩; conv => whnf)
            | (refine go_ret ?_; conv => whnf)
            | refine go_block ?_
            | (refine go_skip ?_; conv => whnf)
            | (refine go_exit ?_; conv => whnf)
            | refine go_true rfl ?_
            | refine go_false rfl ?_
            | refine go_cond rfl (fun h => ?_) (fun h => ?_)
            | refine ⟨rfl, ?_⟩
            | (refine ⟨trivial, ?_⟩; conv => whnf)
            | (refine ⟨le_of_ble rfl, ?_⟩; conv => whnf)
            | fail
          all_goals first
            | (refine go_next (i + 1) (by omega) (by omega) (ref_st _root_.id rfl ⟨rfl, rfl, ⟨rfl, rfl⟩, ⟨rfl, rfl⟩, ⟨?_, rfl⟩, ?_, next_i (by omega), trivial⟩ ⟨⟨rfl, wavs_imm _⟩, ?_, ⟨rfl, wavs_imm _⟩, trivial⟩ (by simp [nid]) rfl (by simp))
               · show AV.own _ _ _ = AV.own _ _ _
                 rw [e]; try rfl
               · show AV.imm (D.bool _) = _
                 rw [e]; try rfl
               · show some _ = some _
                 rw [e]; try rfl
               done)
            | (exfalso; have h' := of_decide_eq_false h; omega)
            | (exfalso; have h' := of_decide_eq_true h; omega)
            | (exfalso; rename_i hq; have h' := of_decide_eq_true hq; omega)
            | (exfalso; rename_i hq; have h' := of_decide_eq_false hq; omega)
            | (exfalso; rename_i hq _; have h' := of_decide_eq_true hq; omega)
            | (exfalso; rename_i hq _; have h' := of_decide_eq_false hq; omega)
            | (exfalso; simp at h; done)
            | (exfalso; simp at h; omega)
            | (exfalso; rename_i hq; simp at hq; done)
            | (exfalso; rename_i hq; simp at hq; omega)
            | (exfalso; rename_i hq _; simp at hq; omega)
            | (exfalso; rename_i hq _ _; simp at hq; omega)
            | trace_state
        · skip
          have e : spAt ds id mi (i + 1) = (o ++ [v], true) := by rw [hnx]; unfold spStep; simp [show isId id v = false from decide_eq_false hv]
          repeat' first
            | refine go_seq ?_
            | refine go_region ?_
            | (refine go_op rfl ?_; conv => whnf)
            | (refine go_nil ?_; conv => whnf)
            | (refine go_hit rfl rfl rfl ?_; conv => whnf)
            | (refine go_miss rfl rfl rfl ?_)
            | (refine go_undef rfl rfl rfl ?_)
            | (refine go_splitT rfl rfl rfl (fun h => ?_) (fun h => ?_) <;> conv => whnf)
            | (refine go_splitF rfl rfl rfl (fun h => ?_) (fun h => ?_) <;> conv => whnf)
            | (refine go_storeBox rfl rfl rfl rfl rfl rfl ?_; conv => whnf)
            | (refine go_dop rfl ?_; conv => whnf)
            | (refine go_dhit rfl rfl ?_; conv => whnf)
            | (refine go_dmiss rfl rfl ?_; conv => whnf)
            | (refine go_dundef rfl rfl ?_; conv => whnf)
            | (refine go_dend (by kernel_rfl) ?_; conv => whnf)
            | refine go_draw drawsOk ?_
            | (refine go_pickT rfl ?_; conv => whnf)
            | (refine go_pickF rfl ?_; conv => whnf)
            | (refine go_pick rfl (fun h => ?_) (fun h => ?_) <;> conv => whnf)
            | (refine go_idx rfl rfl rfl rfl (by omega) hr rfl ?_; conv => whnf)
            | (refine go_append (rows2 := [v].map TripDelay.enc) rfl rfl rfl rfl rfl rfl rfl rfl rfl rfl rfl rfl (tripDelay_one [v]) rfl rfl rfl hb ?_; conv => whnf)
            | (refine go_dsplit2 rfl (fun h => ?_) (fun h => ?_) <;> conv => whnf)
            | (refine go_loadB ?_; conv => whnf)
            | (refine ⟨by kernel_rfl, ?_⟩; conv => whnf)
            | (refine go_ret ?_; conv => whnf)
            | refine go_block ?_
            | (refine go_skip ?_; conv => whnf)
            | (refine go_exit ?_; conv => whnf)
            | refine go_true rfl ?_
            | refine go_false rfl ?_
            | refine go_cond rfl (fun h => ?_) (fun h => ?_)
            | refine ⟨rfl, ?_⟩
            | (refine ⟨trivial, ?_⟩; conv => whnf)
            | (refine ⟨le_of_ble rfl, ?_⟩; conv => whnf)
            | fail
          all_goals first
            | (refine go_next (i + 1) (by omega) (by omega) (ref_st (fun x => if x = 1001 then nid 5 75 else x) rfl ⟨rfl, rfl, ⟨rfl, rfl⟩, ⟨rfl, rfl⟩, ⟨?_, rfl⟩, ?_, next_i (by omega), trivial⟩ ⟨⟨rfl, wavs_imm _⟩, ?_, ⟨rfl, wavs_imm _⟩, trivial⟩ (by simp [nid]) rfl (by simp))
               · show AV.own _ _ _ = AV.own _ _ _
                 rw [e]
                 rw [List.map_append, List.length_append]; rfl
               · show AV.imm (D.bool _) = _
                 rw [e]; try rfl
               · show some _ = some _
                 rw [e]
                 rw [List.map_append]; rfl
               done)
            | (exfalso; have h' := of_decide_eq_false h; omega)
            | (exfalso; have h' := of_decide_eq_true h; omega)
            | (exfalso; rename_i hq; have h' := of_decide_eq_true hq; omega)
            | (exfalso; rename_i hq; have h' := of_decide_eq_false hq; omega)
            | (exfalso; rename_i hq _; have h' := of_decide_eq_true hq; omega)
            | (exfalso; rename_i hq _; have h' := of_decide_eq_false hq; omega)
            | (exfalso; simp at h; done)
            | (exfalso; simp at h; omega)
            | (exfalso; rename_i hq; simp at hq; done)
            | (exfalso; rename_i hq; simp at hq; omega)
            | (exfalso; rename_i hq _; simp at hq; omega)
            | (exfalso; rename_i hq _ _; simp at hq; omega)
            | trace_state
      | false =>
        rcases Int.lt_trichotomy v.id id with hv | hv | hv
        · skip
          have h1 : ¬ v.id = id := by omega
          have h2 : ¬ id < v.id := by omega
          have e : spAt ds id mi (i + 1) = (o ++ [v], false) := by rw [hnx]; unfold spStep; simp [show isId id v = false from decide_eq_false h1, show pAft id v = false from decide_eq_false h2]
          repeat' first
            | refine go_seq ?_
            | refine go_region ?_
            | (refine go_op rfl ?_; conv => whnf)
            | (refine go_nil ?_; conv => whnf)
            | (refine go_hit rfl rfl rfl ?_; conv => whnf)
            | (refine go_miss rfl rfl rfl ?_)
            | (refine go_undef rfl rfl rfl ?_)
            | (refine go_splitT rfl rfl rfl (fun h => ?_) (fun h => ?_) <;> conv => whnf)
            | (refine go_splitF rfl rfl rfl (fun h => ?_) (fun h => ?_) <;> conv => whnf)
            | (refine go_storeBox rfl rfl rfl rfl rfl rfl ?_; conv => whnf)
            | (refine go_dop rfl ?_; conv => whnf)
            | (refine go_dhit rfl rfl ?_; conv => whnf)
            | (refine go_dmiss rfl rfl ?_; conv => whnf)
            | (refine go_dundef rfl rfl ?_; conv => whnf)
            | (refine go_dend (by kernel_rfl) ?_; conv => whnf)
            | refine go_draw drawsOk ?_
            | (refine go_pickT rfl ?_; conv => whnf)
            | (refine go_pickF rfl ?_; conv => whnf)
            | (refine go_pick rfl (fun h => ?_) (fun h => ?_) <;> conv => whnf)
            | (refine go_idx rfl rfl rfl rfl (by omega) hr rfl ?_; conv => whnf)
            | (refine go_append (rows2 := [v].map TripDelay.enc) rfl rfl rfl rfl rfl rfl rfl rfl rfl rfl rfl rfl (tripDelay_one [v]) rfl rfl rfl hb ?_; conv => whnf)
            | (refine go_dsplit2 rfl (fun h => ?_) (fun h => ?_) <;> conv => whnf)
            | (refine go_loadB ?_; conv => whnf)
            | (refine ⟨by kernel_rfl, ?_⟩; conv => whnf)
            | (refine go_ret ?_; conv => whnf)
            | refine go_block ?_
            | (refine go_skip ?_; conv => whnf)
            | (refine go_exit ?_; conv => whnf)
            | refine go_true rfl ?_
            | refine go_false rfl ?_
            | refine go_cond rfl (fun h => ?_) (fun h => ?_)
            | refine ⟨rfl, ?_⟩
            | (refine ⟨trivial, ?_⟩; conv => whnf)
            | (refine ⟨le_of_ble rfl, ?_⟩; conv => whnf)
            | fail
          all_goals first
            | (refine go_next (i + 1) (by omega) (by omega) (ref_st (fun x => if x = 1001 then nid 5 75 else x) rfl ⟨rfl, rfl, ⟨rfl, rfl⟩, ⟨rfl, rfl⟩, ⟨?_, rfl⟩, ?_, next_i (by omega), trivial⟩ ⟨⟨rfl, wavs_imm _⟩, ?_, ⟨rfl, wavs_imm _⟩, trivial⟩ (by simp [nid]) rfl (by simp))
               · show AV.own _ _ _ = AV.own _ _ _
                 rw [e]
                 rw [List.map_append, List.length_append]; rfl
               · show AV.imm (D.bool _) = _
                 rw [e]; try rfl
               · show some _ = some _
                 rw [e]
                 rw [List.map_append]; rfl
               done)
            | (exfalso; have h' := of_decide_eq_false h; omega)
            | (exfalso; have h' := of_decide_eq_true h; omega)
            | (exfalso; rename_i hq; have h' := of_decide_eq_true hq; omega)
            | (exfalso; rename_i hq; have h' := of_decide_eq_false hq; omega)
            | (exfalso; rename_i hq _; have h' := of_decide_eq_true hq; omega)
            | (exfalso; rename_i hq _; have h' := of_decide_eq_false hq; omega)
            | (exfalso; simp at h; done)
            | (exfalso; simp at h; omega)
            | (exfalso; rename_i hq; simp at hq; done)
            | (exfalso; rename_i hq; simp at hq; omega)
            | (exfalso; rename_i hq _; simp at hq; omega)
            | (exfalso; rename_i hq _ _; simp at hq; omega)
            | trace_state
        · skip
          have h2 : ¬ id < v.id := by omega
          have e : spAt ds id mi (i + 1) = (o, false) := by rw [hnx]; unfold spStep; simp [show isId id v = true from decide_eq_true hv, show pAft id v = false from decide_eq_false h2]
          repeat' first
            | refine go_seq ?_
            | refine go_region ?_
            | (refine go_op rfl ?_; conv => whnf)
            | (refine go_nil ?_; conv => whnf)
            | (refine go_hit rfl rfl rfl ?_; conv => whnf)
            | (refine go_miss rfl rfl rfl ?_)
            | (refine go_undef rfl rfl rfl ?_)
            | (refine go_splitT rfl rfl rfl (fun h => ?_) (fun h => ?_) <;> conv => whnf)
            | (refine go_splitF rfl rfl rfl (fun h => ?_) (fun h => ?_) <;> conv => whnf)
            | (refine go_storeBox rfl rfl rfl rfl rfl rfl ?_; conv => whnf)
            | (refine go_dop rfl ?_; conv => whnf)
            | (refine go_dhit rfl rfl ?_; conv => whnf)
            | (refine go_dmiss rfl rfl ?_; conv => whnf)
            | (refine go_dundef rfl rfl ?_; conv => whnf)
            | (refine go_dend (by kernel_rfl) ?_; conv => whnf)
            | refine go_draw drawsOk ?_
            | (refine go_pickT rfl ?_; conv => whnf)
            | (refine go_pickF rfl ?_; conv => whnf)
            | (refine go_pick rfl (fun h => ?_) (fun h => ?_) <;> conv => whnf)
            | (refine go_idx rfl rfl rfl rfl (by omega) hr rfl ?_; conv => whnf)
            | (refine go_dsplit2 rfl (fun h => ?_) (fun h => ?_) <;> conv => whnf)
            | (refine go_loadB ?_; conv => whnf)
            | (refine ⟨by kernel_rfl, ?_⟩; conv => whnf)
            | (refine go_ret ?_; conv => whnf)
            | refine go_block ?_
            | (refine go_skip ?_; conv => whnf)
            | (refine go_exit ?_; conv => whnf)
            | refine go_true rfl ?_
            | refine go_false rfl ?_
            | refine go_cond rfl (fun h => ?_) (fun h => ?_)
            | refine ⟨rfl, ?_⟩
            | (refine ⟨trivial, ?_⟩; conv => whnf)
            | (refine ⟨le_of_ble rfl, ?_⟩; conv => whnf)
            | fail
          all_goals first
            | (refine go_next (i + 1) (by omega) (by omega) (ref_st _root_.id rfl ⟨rfl, rfl, ⟨rfl, rfl⟩, ⟨rfl, rfl⟩, ⟨?_, rfl⟩, ?_, next_i (by omega), trivial⟩ ⟨⟨rfl, wavs_imm _⟩, ?_, ⟨rfl, wavs_imm _⟩, trivial⟩ (by simp [nid]) rfl (by simp))
               · show AV.own _ _ _ = AV.own _ _ _
                 rw [e]; try rfl
               · show AV.imm (D.bool _) = _
                 rw [e]; try rfl
               · show some _ = some _
                 rw [e]; try rfl
               done)
            | (exfalso; have h' := of_decide_eq_false h; omega)
            | (exfalso; have h' := of_decide_eq_true h; omega)
            | (exfalso; rename_i hq; have h' := of_decide_eq_true hq; omega)
            | (exfalso; rename_i hq; have h' := of_decide_eq_false hq; omega)
            | (exfalso; rename_i hq _; have h' := of_decide_eq_true hq; omega)
            | (exfalso; rename_i hq _; have h' := of_decide_eq_false hq; omega)
            | (exfalso; simp at h; done)
            | (exfalso; simp at h; omega)
            | (exfalso; rename_i hq; simp at hq; done)
            | (exfalso; rename_i hq; simp at hq; omega)
            | (exfalso; rename_i hq _; simp at hq; omega)
            | (exfalso; rename_i hq _ _; simp at hq; omega)
            | trace_state
        · skip
          have h1 : ¬ v.id = id := by omega
          have e : spAt ds id mi (i + 1) = (o ++ [dtOwn ds id mi] ++ [v], true) := by rw [hnx]; unfold spStep; simp [show isId id v = false from decide_eq_false h1, show pAft id v = true from decide_eq_true hv]
          repeat' first
            | refine go_seq ?_
            | refine go_region ?_
            | (refine go_op rfl ?_; conv => whnf)
            | (refine go_nil ?_; conv => whnf)
            | (refine go_hit rfl rfl rfl ?_; conv => whnf)
            | (refine go_miss rfl rfl rfl ?_)
            | (refine go_undef rfl rfl rfl ?_)
            | (refine go_splitT rfl rfl rfl (fun h => ?_) (fun h => ?_) <;> conv => whnf)
            | (refine go_splitF rfl rfl rfl (fun h => ?_) (fun h => ?_) <;> conv => whnf)
            | (refine go_storeBox rfl rfl rfl rfl rfl rfl ?_; conv => whnf)
            | (refine go_dop rfl ?_; conv => whnf)
            | (refine go_dhit rfl rfl ?_; conv => whnf)
            | (refine go_dmiss rfl rfl ?_; conv => whnf)
            | (refine go_dundef rfl rfl ?_; conv => whnf)
            | (refine go_dend (by kernel_rfl) ?_; conv => whnf)
            | refine go_draw drawsOk ?_
            | (refine go_pickT rfl ?_; conv => whnf)
            | (refine go_pickF rfl ?_; conv => whnf)
            | (refine go_pick rfl (fun h => ?_) (fun h => ?_) <;> conv => whnf)
            | (refine go_idx rfl rfl rfl rfl (by omega) hr rfl ?_; conv => whnf)
            | (refine go_append (rows2 := [dtOwn ds id mi].map TripDelay.enc) rfl rfl rfl rfl rfl rfl rfl rfl rfl rfl rfl rfl (tripDelay_one [dtOwn ds id mi]) rfl rfl rfl hb ?_; conv => whnf)
            | (refine go_append (rows2 := [v].map TripDelay.enc) rfl rfl rfl rfl rfl rfl rfl rfl rfl rfl rfl rfl (tripDelay_one [v]) rfl (by simp) rfl hb3 ?_; conv => whnf)
            | (refine go_dsplit2 rfl (fun h => ?_) (fun h => ?_) <;> conv => whnf)
            | (refine go_loadB ?_; conv => whnf)
            | (refine ⟨by kernel_rfl, ?_⟩; conv => whnf)
            | (refine go_ret ?_; conv => whnf)
            | refine go_block ?_
            | (refine go_skip ?_; conv => whnf)
            | (refine go_exit ?_; conv => whnf)
            | refine go_true rfl ?_
            | refine go_false rfl ?_
            | refine go_cond rfl (fun h => ?_) (fun h => ?_)
            | refine ⟨rfl, ?_⟩
            | (refine ⟨trivial, ?_⟩; conv => whnf)
            | (refine ⟨le_of_ble rfl, ?_⟩; conv => whnf)
            | fail
          all_goals first
            | (refine go_next (i + 1) (by omega) (by omega) (ref_st (fun x => if x = 1001 then nid 7 75 else x) rfl ⟨rfl, rfl, ⟨rfl, rfl⟩, ⟨rfl, rfl⟩, ⟨?_, rfl⟩, ?_, next_i (by omega), trivial⟩ ⟨⟨rfl, wavs_imm _⟩, ?_, ⟨rfl, wavs_imm _⟩, trivial⟩ (by simp [nid]) rfl (by simp))
               · show AV.own _ _ _ = AV.own _ _ _
                 rw [e]
                 rw [List.map_append, List.map_append, List.length_append, List.length_append]; rfl
               · show AV.imm (D.bool _) = _
                 rw [e]; try rfl
               · show some _ = some _
                 rw [e]
                 rw [List.map_append, List.map_append]; rfl
               done)
            | (exfalso; have h' := of_decide_eq_false h; omega)
            | (exfalso; have h' := of_decide_eq_true h; omega)
            | (exfalso; rename_i hq; have h' := of_decide_eq_true hq; omega)
            | (exfalso; rename_i hq; have h' := of_decide_eq_false hq; omega)
            | (exfalso; rename_i hq _; have h' := of_decide_eq_true hq; omega)
            | (exfalso; rename_i hq _; have h' := of_decide_eq_false hq; omega)
            | (exfalso; simp at h; done)
            | (exfalso; simp at h; omega)
            | (exfalso; rename_i hq; simp at hq; done)
            | (exfalso; rename_i hq; simp at hq; omega)
            | (exfalso; rename_i hq _; simp at hq; omega)
            | (exfalso; rename_i hq _ _; simp at hq; omega)
            | trace_state
    | none =>
      have hge := le_of_at hx
      have hie : i = ds.length := by omega
      rw [hie] at hol ⊢
      have hend : ∀ o p, spAt ds id mi ds.length = (o, p) → (if p = true then o else o ++ [dtOwn ds id mi]) = dtOut ds id mi := fun o p e => by rw [← hst, e]; rfl
      have hc4 : CallOk Try.prog 61 [.imm (.agg t.enc), .imm (.list (((dtOut ds id mi).map TripDelay.enc).drop 0 |>.take ((dtOut ds id mi).map TripDelay.enc).length))] { res := [.imm (.bool (delaysIn t (dtOut ds id mi)))] } := by
        rw [tripDelay_view, ← dt_ok2 p1]
        exact c61 t hf (dtOut ds id mi) (by have := dtOut_len ds id mi; omega)
      generalize hs : spAt ds id mi ds.length = s at *
      obtain ⟨o, p⟩ := s
      simp only at hol
      have hb : (o.map TripDelay.enc).length + 1 ≤ 1073741824 := by rw [List.length_map]; omega
      have hend := hend o p rfl
      have hdone : ∀ b, delaysIn t (dtOut ds id mi) = b → (dtOk t ds id mi = b ∧ dtR t ds id mi = if b then dtOut ds id mi else []) := fun b hb => by
        have e0 : dtOk t ds id mi = b := by unfold dtOk; rw [hp, hb]; rfl
        exact ⟨e0, by unfold dtR; rw [e0]⟩
      cases p with
      | true =>
        have hend : o = dtOut ds id mi := hend
        subst hend
        cases hin : delaysIn t (dtOut ds id mi) with
        | true =>
          obtain ⟨e0, e1⟩ := hdone true hin
          rw [e0, e1, if_pos rfl]
          rw [hin] at hc4
          repeat' first
            | refine go_seq ?_
            | refine go_region ?_
            | (refine go_op rfl ?_; conv => whnf)
            | (refine go_nil ?_; conv => whnf)
            | (refine go_hit rfl rfl rfl ?_; conv => whnf)
            | (refine go_miss rfl rfl rfl ?_)
            | (refine go_undef rfl rfl rfl ?_)
            | (refine go_splitT rfl rfl rfl (fun h => ?_) (fun h => ?_) <;> conv => whnf)
            | (refine go_splitF rfl rfl rfl (fun h => ?_) (fun h => ?_) <;> conv => whnf)
            | (refine go_storeBox rfl rfl rfl rfl rfl rfl ?_; conv => whnf)
            | (refine go_dop rfl ?_; conv => whnf)
            | (refine go_dhit rfl rfl ?_; conv => whnf)
            | (refine go_dmiss rfl rfl ?_; conv => whnf)
            | (refine go_dundef rfl rfl ?_; conv => whnf)
            | (refine go_dend (by kernel_rfl) ?_; conv => whnf)
            | refine go_draw drawsOk ?_
            | (refine go_pickT rfl ?_; conv => whnf)
            | (refine go_pickF rfl ?_; conv => whnf)
            | (refine go_pick rfl (fun h => ?_) (fun h => ?_) <;> conv => whnf)
            | (refine go_call [] (hc4) rfl rfl rfl rfl ?_; conv => whnf)
            | (refine go_dsplit2 rfl (fun h => ?_) (fun h => ?_) <;> conv => whnf)
            | (refine go_loadB ?_; conv => whnf)
            | (refine ⟨by kernel_rfl, ?_⟩; conv => whnf)
            | (refine go_ret ?_; conv => whnf)
            | refine go_block ?_
            | (refine go_skip ?_; conv => whnf)
            | (refine go_exit ?_; conv => whnf)
            | refine go_true rfl ?_
            | refine go_false rfl ?_
            | refine go_cond rfl (fun h => ?_) (fun h => ?_)
            | refine ⟨rfl, ?_⟩
            | (refine ⟨trivial, ?_⟩; conv => whnf)
            | (refine ⟨le_of_ble rfl, ?_⟩; conv => whnf)
            | fail
          all_goals first
            | exact ret_arr2 rfl rfl rfl rfl rfl (by rw [List.drop_zero, List.take_length]) (tripDelay_gr _) rfl rfl rfl
            | (exfalso; have h' := of_decide_eq_false h; omega)
            | (exfalso; have h' := of_decide_eq_true h; omega)
            | (exfalso; rename_i hq; have h' := of_decide_eq_true hq; omega)
            | (exfalso; rename_i hq; have h' := of_decide_eq_false hq; omega)
            | (exfalso; rename_i hq _; have h' := of_decide_eq_true hq; omega)
            | (exfalso; rename_i hq _; have h' := of_decide_eq_false hq; omega)
            | trace_state
        | false =>
          obtain ⟨e0, e1⟩ := hdone false hin
          rw [e0, e1, if_neg (by simp)]
          rw [hin] at hc4
          repeat' first
            | refine go_seq ?_
            | refine go_region ?_
            | (refine go_op rfl ?_; conv => whnf)
            | (refine go_nil ?_; conv => whnf)
            | (refine go_hit rfl rfl rfl ?_; conv => whnf)
            | (refine go_miss rfl rfl rfl ?_)
            | (refine go_undef rfl rfl rfl ?_)
            | (refine go_splitT rfl rfl rfl (fun h => ?_) (fun h => ?_) <;> conv => whnf)
            | (refine go_splitF rfl rfl rfl (fun h => ?_) (fun h => ?_) <;> conv => whnf)
            | (refine go_storeBox rfl rfl rfl rfl rfl rfl ?_; conv => whnf)
            | (refine go_dop rfl ?_; conv => whnf)
            | (refine go_dhit rfl rfl ?_; conv => whnf)
            | (refine go_dmiss rfl rfl ?_; conv => whnf)
            | (refine go_dundef rfl rfl ?_; conv => whnf)
            | (refine go_dend (by kernel_rfl) ?_; conv => whnf)
            | refine go_draw drawsOk ?_
            | (refine go_pickT rfl ?_; conv => whnf)
            | (refine go_pickF rfl ?_; conv => whnf)
            | (refine go_pick rfl (fun h => ?_) (fun h => ?_) <;> conv => whnf)
            | (refine go_call [] (hc4) rfl rfl rfl rfl ?_; conv => whnf)
            | (refine go_dsplit2 rfl (fun h => ?_) (fun h => ?_) <;> conv => whnf)
            | (refine go_loadB ?_; conv => whnf)
            | (refine ⟨by kernel_rfl, ?_⟩; conv => whnf)
            | (refine go_ret ?_; conv => whnf)
            | refine go_block ?_
            | (refine go_skip ?_; conv => whnf)
            | (refine go_exit ?_; conv => whnf)
            | refine go_true rfl ?_
            | refine go_false rfl ?_
            | refine go_cond rfl (fun h => ?_) (fun h => ?_)
            | refine ⟨rfl, ?_⟩
            | (refine ⟨trivial, ?_⟩; conv => whnf)
            | (refine ⟨le_of_ble rfl, ?_⟩; conv => whnf)
            | fail
          all_goals first
            | exact ret_arr2 rfl rfl rfl rfl rfl rfl (by intro r hr; cases hr) rfl rfl rfl
            | (exfalso; have h' := of_decide_eq_false h; omega)
            | (exfalso; have h' := of_decide_eq_true h; omega)
            | (exfalso; rename_i hq; have h' := of_decide_eq_true hq; omega)
            | (exfalso; rename_i hq; have h' := of_decide_eq_false hq; omega)
            | (exfalso; rename_i hq _; have h' := of_decide_eq_true hq; omega)
            | (exfalso; rename_i hq _; have h' := of_decide_eq_false hq; omega)
            | trace_state
      | false =>
        have hend : o ++ [dtOwn ds id mi] = dtOut ds id mi := hend
        have hmap : o.map TripDelay.enc ++ [dtOwn ds id mi].map TripDelay.enc = (dtOut ds id mi).map TripDelay.enc := by rw [← hend, List.map_append]
        have hlen : (o.map TripDelay.enc).length + 1 = ((dtOut ds id mi).map TripDelay.enc).length := by rw [← hend]; simp
        have hc5 : CallOk Try.prog 61 [.imm (.agg t.enc), .imm (.list (((o.map TripDelay.enc ++ [dtOwn ds id mi].map TripDelay.enc).drop 0).take ((o.map TripDelay.enc).length + 1)))] { res := [.imm (.bool (delaysIn t (dtOut ds id mi)))] } := by
          rw [hmap, hlen]; exact hc4
        cases hin : delaysIn t (dtOut ds id mi) with
        | true =>
          obtain ⟨e0, e1⟩ := hdone true hin
          rw [e0, e1, if_pos rfl]
          rw [hin] at hc5
          repeat' first
            | refine go_seq ?_
            | refine go_region ?_
            | (refine go_op rfl ?_; conv => whnf)
            | (refine go_nil ?_; conv => whnf)
            | (refine go_hit rfl rfl rfl ?_; conv => whnf)
            | (refine go_miss rfl rfl rfl ?_)
            | (refine go_undef rfl rfl rfl ?_)
            | (refine go_splitT rfl rfl rfl (fun h => ?_) (fun h => ?_) <;> conv => whnf)
            | (refine go_splitF rfl rfl rfl (fun h => ?_) (fun h => ?_) <;> conv => whnf)
            | (refine go_storeBox rfl rfl rfl rfl rfl rfl ?_; conv => whnf)
            | (refine go_dop rfl ?_; conv => whnf)
            | (refine go_dhit rfl rfl ?_; conv => whnf)
            | (refine go_dmiss rfl rfl ?_; conv => whnf)
            | (refine go_dundef rfl rfl ?_; conv => whnf)
            | (refine go_dend (by kernel_rfl) ?_; conv => whnf)
            | refine go_draw drawsOk ?_
            | (refine go_pickT rfl ?_; conv => whnf)
            | (refine go_pickF rfl ?_; conv => whnf)
            | (refine go_pick rfl (fun h => ?_) (fun h => ?_) <;> conv => whnf)
            | (refine go_call [] (hc5) rfl rfl rfl rfl ?_; conv => whnf)
            | (refine go_append (rows2 := [dtOwn ds id mi].map TripDelay.enc) rfl rfl rfl rfl rfl rfl rfl rfl rfl rfl rfl rfl (tripDelay_one [dtOwn ds id mi]) rfl rfl rfl hb ?_; conv => whnf)
            | (refine go_dsplit2 rfl (fun h => ?_) (fun h => ?_) <;> conv => whnf)
            | (refine go_loadB ?_; conv => whnf)
            | (refine ⟨by kernel_rfl, ?_⟩; conv => whnf)
            | (refine go_ret ?_; conv => whnf)
            | refine go_block ?_
            | (refine go_skip ?_; conv => whnf)
            | (refine go_exit ?_; conv => whnf)
            | refine go_true rfl ?_
            | refine go_false rfl ?_
            | refine go_cond rfl (fun h => ?_) (fun h => ?_)
            | refine ⟨rfl, ?_⟩
            | (refine ⟨trivial, ?_⟩; conv => whnf)
            | (refine ⟨le_of_ble rfl, ?_⟩; conv => whnf)
            | fail
          all_goals first
            | exact ret_arr2 rfl rfl rfl rfl rfl (by rw [hmap]; show (((dtOut ds id mi).map TripDelay.enc).drop 0).take ((o.map TripDelay.enc).length + 1) = _; rw [hlen, List.drop_zero, List.take_length]) (tripDelay_gr _) rfl rfl rfl
            | (exfalso; have h' := of_decide_eq_false h; omega)
            | (exfalso; have h' := of_decide_eq_true h; omega)
            | (exfalso; rename_i hq; have h' := of_decide_eq_true hq; omega)
            | (exfalso; rename_i hq; have h' := of_decide_eq_false hq; omega)
            | (exfalso; rename_i hq _; have h' := of_decide_eq_true hq; omega)
            | (exfalso; rename_i hq _; have h' := of_decide_eq_false hq; omega)
            | trace_state
        | false =>
          obtain ⟨e0, e1⟩ := hdone false hin
          rw [e0, e1, if_neg (by simp)]
          rw [hin] at hc5
          repeat' first
            | refine go_seq ?_
            | refine go_region ?_
            | (refine go_op rfl ?_; conv => whnf)
            | (refine go_nil ?_; conv => whnf)
            | (refine go_hit rfl rfl rfl ?_; conv => whnf)
            | (refine go_miss rfl rfl rfl ?_)
            | (refine go_undef rfl rfl rfl ?_)
            | (refine go_splitT rfl rfl rfl (fun h => ?_) (fun h => ?_) <;> conv => whnf)
            | (refine go_splitF rfl rfl rfl (fun h => ?_) (fun h => ?_) <;> conv => whnf)
            | (refine go_storeBox rfl rfl rfl rfl rfl rfl ?_; conv => whnf)
            | (refine go_dop rfl ?_; conv => whnf)
            | (refine go_dhit rfl rfl ?_; conv => whnf)
            | (refine go_dmiss rfl rfl ?_; conv => whnf)
            | (refine go_dundef rfl rfl ?_; conv => whnf)
            | (refine go_dend (by kernel_rfl) ?_; conv => whnf)
            | refine go_draw drawsOk ?_
            | (refine go_pickT rfl ?_; conv => whnf)
            | (refine go_pickF rfl ?_; conv => whnf)
            | (refine go_pick rfl (fun h => ?_) (fun h => ?_) <;> conv => whnf)
            | (refine go_call [] (hc5) rfl rfl rfl rfl ?_; conv => whnf)
            | (refine go_append (rows2 := [dtOwn ds id mi].map TripDelay.enc) rfl rfl rfl rfl rfl rfl rfl rfl rfl rfl rfl rfl (tripDelay_one [dtOwn ds id mi]) rfl rfl rfl hb ?_; conv => whnf)
            | (refine go_dsplit2 rfl (fun h => ?_) (fun h => ?_) <;> conv => whnf)
            | (refine go_loadB ?_; conv => whnf)
            | (refine ⟨by kernel_rfl, ?_⟩; conv => whnf)
            | (refine go_ret ?_; conv => whnf)
            | refine go_block ?_
            | (refine go_skip ?_; conv => whnf)
            | (refine go_exit ?_; conv => whnf)
            | refine go_true rfl ?_
            | refine go_false rfl ?_
            | refine go_cond rfl (fun h => ?_) (fun h => ?_)
            | refine ⟨rfl, ?_⟩
            | (refine ⟨trivial, ?_⟩; conv => whnf)
            | (refine ⟨le_of_ble rfl, ?_⟩; conv => whnf)
            | fail
          all_goals first
            | exact ret_arr2 rfl rfl rfl rfl rfl rfl (by intro r hr; cases hr) rfl rfl rfl
            | (exfalso; have h' := of_decide_eq_false h; omega)
            | (exfalso; have h' := of_decide_eq_true h; omega)
            | (exfalso; rename_i hq; have h' := of_decide_eq_true hq; omega)
            | (exfalso; rename_i hq; have h' := of_decide_eq_false hq; omega)
            | (exfalso; rename_i hq _; have h' := of_decide_eq_true hq; omega)
            | (exfalso; rename_i hq _; have h' := of_decide_eq_false hq; omega)
            | trace_state

theorem dtR_small (t : Timetable) (ds : List TripDelay) (id mi : Int) : (dtR t ds id mi).length ≤ 1000 := by
  unfold dtR
  split
  · rename_i h
    unfold dtOk dtPre at h
    simp only [Bool.and_eq_true] at h
    have := delays_len h.1.1
    have := dtOut_len ds id mi
    omega
  · simp

theorem c5 (t : Timetable) (hok_t : t.ok) (ds : List TripDelay) (_ : ∀ v ∈ ds, v.ok) (hl_ds : ds.length ≤ 9223372036854775807) (id : Int) (_ : i64 id) (mi : Int) (_ : i64 mi) : CallOk Try.prog 5 [.imm (.agg t.enc), .imm (.list (ds.map TripDelay.enc)), .imm (.int .i64 id), .imm (.int .i64 mi)] { res := [.imm (.bool true)] } := by
  refine callOk_of tyOk Try.func5 rfl rfl (le_of_ble rfl) (le_of_ble rfl) (mutOk_imm rfl _) ?_
  have hsz1 := c13 t hok_t (1048576) (by omega) (by omega)
  have hle1 := szTimetable_sz.le (1048576) t (by omega)
  by_cases h01 : 0 ≤ szTimetable 1048576 t
  case neg =>
    repeat' first
      | refine go_seq ?_
      | refine go_region ?_
      | (refine go_op rfl ?_; conv => whnf)
      | (refine go_nil ?_; conv => whnf)
      | (refine go_hit rfl rfl rfl ?_; conv => whnf)
      | (refine go_miss rfl rfl rfl ?_)
      | (refine go_undef rfl rfl rfl ?_)
      | (refine go_splitT rfl rfl rfl (fun h => ?_) (fun h => ?_) <;> conv => whnf)
      | (refine go_splitF rfl rfl rfl (fun h => ?_) (fun h => ?_) <;> conv => whnf)
      | (refine go_storeBox rfl rfl rfl rfl rfl rfl ?_; conv => whnf)
      | (refine go_dop rfl ?_; conv => whnf)
      | (refine go_dhit rfl rfl ?_; conv => whnf)
      | (refine go_dmiss rfl rfl ?_; conv => whnf)
      | (refine go_dundef rfl rfl ?_; conv => whnf)
      | (refine go_dend (by kernel_rfl) ?_; conv => whnf)
      | refine go_draw drawsOk ?_
      | (refine go_pickT rfl ?_; conv => whnf)
      | (refine go_pickF rfl ?_; conv => whnf)
      | (refine go_pick rfl (fun h => ?_) (fun h => ?_) <;> conv => whnf)
      | (refine go_call [] (hsz1) rfl rfl rfl rfl ?_; conv => whnf)
      | (refine go_dsplit2 rfl (fun h => ?_) (fun h => ?_) <;> conv => whnf)
      | (refine go_loadB ?_; conv => whnf)
      | (refine ⟨by kernel_rfl, ?_⟩; conv => whnf)
      | (refine go_ret ?_; conv => whnf)
      | refine go_block ?_
      | (refine go_skip ?_; conv => whnf)
      | (refine go_exit ?_; conv => whnf)
      | refine go_true rfl ?_
      | refine go_false rfl ?_
      | refine go_cond rfl (fun h => ?_) (fun h => ?_)
      | refine ⟨rfl, ?_⟩
      | (refine ⟨trivial, ?_⟩; conv => whnf)
      | (refine ⟨le_of_ble rfl, ?_⟩; conv => whnf)
      | fail
    all_goals first
      | exact ret_imm rfl rfl rfl rfl rfl rfl
      | (exfalso; have h' := of_decide_eq_false h; omega)
      | (exfalso; have h' := of_decide_eq_true h; omega)
      | (exfalso; rename_i hq; have h' := of_decide_eq_true hq; omega)
      | (exfalso; rename_i hq; have h' := of_decide_eq_false hq; omega)
      | (exfalso; rename_i hq _; have h' := of_decide_eq_true hq; omega)
      | (exfalso; rename_i hq _; have h' := of_decide_eq_false hq; omega)
      | trace_state
  have hf_t := szTimetable_fit (by omega) h01
  have hsz2 := c14 ds hl_ds (szTimetable 1048576 t) (by omega) (by omega)
  have hle2 := szTripDelayS_sz.le (szTimetable 1048576 t) ds (by omega)
  by_cases h02 : 0 ≤ szTripDelayS (szTimetable 1048576 t) ds
  case neg =>
    repeat' first
      | refine go_seq ?_
      | refine go_region ?_
      | (refine go_op rfl ?_; conv => whnf)
      | (refine go_nil ?_; conv => whnf)
      | (refine go_hit rfl rfl rfl ?_; conv => whnf)
      | (refine go_miss rfl rfl rfl ?_)
      | (refine go_undef rfl rfl rfl ?_)
      | (refine go_splitT rfl rfl rfl (fun h => ?_) (fun h => ?_) <;> conv => whnf)
      | (refine go_splitF rfl rfl rfl (fun h => ?_) (fun h => ?_) <;> conv => whnf)
      | (refine go_storeBox rfl rfl rfl rfl rfl rfl ?_; conv => whnf)
      | (refine go_dop rfl ?_; conv => whnf)
      | (refine go_dhit rfl rfl ?_; conv => whnf)
      | (refine go_dmiss rfl rfl ?_; conv => whnf)
      | (refine go_dundef rfl rfl ?_; conv => whnf)
      | (refine go_dend (by kernel_rfl) ?_; conv => whnf)
      | refine go_draw drawsOk ?_
      | (refine go_pickT rfl ?_; conv => whnf)
      | (refine go_pickF rfl ?_; conv => whnf)
      | (refine go_pick rfl (fun h => ?_) (fun h => ?_) <;> conv => whnf)
      | (refine go_call [] (hsz1) rfl rfl rfl rfl ?_; conv => whnf)
      | (refine go_call [] (hsz2) rfl rfl rfl rfl ?_; conv => whnf)
      | (refine go_dsplit2 rfl (fun h => ?_) (fun h => ?_) <;> conv => whnf)
      | (refine go_loadB ?_; conv => whnf)
      | (refine ⟨by kernel_rfl, ?_⟩; conv => whnf)
      | (refine go_ret ?_; conv => whnf)
      | refine go_block ?_
      | (refine go_skip ?_; conv => whnf)
      | (refine go_exit ?_; conv => whnf)
      | refine go_true rfl ?_
      | refine go_false rfl ?_
      | refine go_cond rfl (fun h => ?_) (fun h => ?_)
      | refine ⟨rfl, ?_⟩
      | (refine ⟨trivial, ?_⟩; conv => whnf)
      | (refine ⟨le_of_ble rfl, ?_⟩; conv => whnf)
      | fail
    all_goals first
      | exact ret_imm rfl rfl rfl rfl rfl rfl
      | (exfalso; have h' := of_decide_eq_false h; omega)
      | (exfalso; have h' := of_decide_eq_true h; omega)
      | (exfalso; rename_i hq; have h' := of_decide_eq_true hq; omega)
      | (exfalso; rename_i hq; have h' := of_decide_eq_false hq; omega)
      | (exfalso; rename_i hq _; have h' := of_decide_eq_true hq; omega)
      | (exfalso; rename_i hq _; have h' := of_decide_eq_false hq; omega)
      | trace_state
  have hlds : ds.length ≤ 1048576 := by have := less_pos (k := ds.length) h02; omega
  have hrl : (dtR t ds id mi).length ≤ 1048576 := by have := dtR_small t ds id mi; omega
  have hspec : CallOk Try.prog 28 [.imm (.agg t.enc), .imm (.list (((ds.map TripDelay.enc).drop 0).take (ds.map TripDelay.enc).length)), .imm (.int .i64 id), .imm (.int .i64 mi)] { res := [.arr 99 2 ((dtR t ds id mi).map TripDelay.enc), .imm (.bool (dtOk t ds id mi))] } := by rw [tripDelay_view]; exact c28 t hf_t ds hlds id mi
  have himpl : CallOk Try.prog 29 [.imm (.agg t.enc), .imm (.list (((ds.map TripDelay.enc).drop 0).take (ds.map TripDelay.enc).length)), .imm (.int .i64 id), .imm (.int .i64 mi)] { res := [.arr 99 2 ((dtR t ds id mi).map TripDelay.enc), .imm (.bool (dtOk t ds id mi))] } := by rw [tripDelay_view]; exact c29 t hf_t ds hlds id mi
  have hct1 := cntTimetable_le hf_t
  have hm1 := k25 t hf_t 1 (by omega) (by omega)
  have heq_ds : CallOk Try.prog 20 [.imm (.list (((ds.map TripDelay.enc).drop 0).take (ds.map TripDelay.enc).length)), .imm (.list (((ds.map TripDelay.enc).drop 0).take (ds.map TripDelay.enc).length))] { res := [.imm (.bool true)] } := by rw [tripDelay_view]; exact c20s ds hlds
  have hm2 := c30 ds (1 + (cntTimetable t : Nat)) (by omega) (by omega) hlds
  have hq2 := kAt_eq (k := (1 + (cntTimetable t : Nat))) (by omega) (2 * ds.length) (by omega)
  have heqR : CallOk Try.prog 20 [.imm (.list ((((dtR t ds id mi).map TripDelay.enc).drop 0).take ((dtR t ds id mi).map TripDelay.enc).length)), .imm (.list ((((dtR t ds id mi).map TripDelay.enc).drop 0).take ((dtR t ds id mi).map TripDelay.enc).length))] { res := [.imm (.bool true)] } := by rw [tripDelay_view]; exact c20s _ hrl
  have hmR := c30 (dtR t ds id mi) 1 (by omega) (by omega) hrl
  have hhR : CallOk Try.prog 31 [.imm (.list ((((marksTripDelay 1 (dtR t ds id mi).length).map TripDelay.enc).drop 0).take ((dtR t ds id mi).map TripDelay.enc).length)), .imm (.int .i64 1)] { res := [.imm (.int .i64 (kAt 1 (2 * (dtR t ds id mi).length)))] } := by
    have := c31 1 (dtR t ds id mi).length (by omega) (by omega) hrl
    rwa [show ((((marksTripDelay 1 (dtR t ds id mi).length).map TripDelay.enc).drop 0).take ((dtR t ds id mi).map TripDelay.enc).length) = (marksTripDelay 1 (dtR t ds id mi).length).map TripDelay.enc from by rw [List.drop_zero, List.take_of_length_le (by simp [marksTripDelay])]]
  have hqR := kAt_eq (k := 1) (by omega) (2 * (dtR t ds id mi).length) (by omega)
  repeat' first
    | refine go_seq ?_
    | refine go_region ?_
    | (refine go_op rfl ?_; conv => whnf)
    | (refine go_nil ?_; conv => whnf)
    | (refine go_hit rfl rfl rfl ?_; conv => whnf)
    | (refine go_miss rfl rfl rfl ?_)
    | (refine go_undef rfl rfl rfl ?_)
    | (refine go_splitT rfl rfl rfl (fun h => ?_) (fun h => ?_) <;> conv => whnf)
    | (refine go_splitF rfl rfl rfl (fun h => ?_) (fun h => ?_) <;> conv => whnf)
    | (refine go_storeBox rfl rfl rfl rfl rfl rfl ?_; conv => whnf)
    | (refine go_dop rfl ?_; conv => whnf)
    | (refine go_dhit rfl rfl ?_; conv => whnf)
    | (refine go_dmiss rfl rfl ?_; conv => whnf)
    | (refine go_dundef rfl rfl ?_; conv => whnf)
    | (refine go_dend (by kernel_rfl) ?_; conv => whnf)
    | refine go_draw drawsOk ?_
    | (refine go_pickT rfl ?_; conv => whnf)
    | (refine go_pickF rfl ?_; conv => whnf)
    | (refine go_pick rfl (fun h => ?_) (fun h => ?_) <;> conv => whnf)
    | (refine go_call [] (hsz1) rfl rfl rfl rfl ?_; conv => whnf)
    | (refine go_call [] (hsz2) rfl rfl rfl rfl ?_; conv => whnf)
    | (refine go_call [] (g16 t hf_t) rfl rfl rfl rfl ?_; conv => whnf)
    | (refine go_call [] (c19s t hf_t) rfl rfl rfl rfl ?_; conv => whnf)
    | (refine go_call [] (c17a ds hlds) rfl rfl rfl rfl ?_; conv => whnf)
    | (refine go_call [] (heq_ds) rfl rfl rfl rfl ?_; conv => whnf)
    | (refine go_call [] (hspec) rfl rfl rfl rfl ?_; conv => whnf)
    | (refine go_call [] (himpl) rfl rfl rfl rfl ?_; conv => whnf)
    | (refine go_call [] (heqR) rfl rfl rfl rfl ?_; conv => whnf)
    | (refine go_call [3] (hm1) rfl rfl rfl rfl ?_; conv => whnf)
    | (refine go_call [2, 0] hm2 (argsIn_lent rfl rfl rfl) rfl rfl rfl ?_; conv => whnf)
    | (refine go_call [2, 0] hmR (argsIn_lent rfl rfl rfl) rfl rfl rfl ?_; conv => whnf)
    | (refine go_call [] (hhR) rfl rfl rfl rfl ?_; conv => whnf)
    | (refine go_dsplit2 rfl (fun h => ?_) (fun h => ?_) <;> conv => whnf)
    | (refine go_loadB ?_; conv => whnf)
    | (refine ⟨by kernel_rfl, ?_⟩; conv => whnf)
    | (refine go_ret ?_; conv => whnf)
    | refine go_block ?_
    | (refine go_skip ?_; conv => whnf)
    | (refine go_exit ?_; conv => whnf)
    | refine go_true rfl ?_
    | refine go_false rfl ?_
    | refine go_cond rfl (fun h => ?_) (fun h => ?_)
    | refine ⟨rfl, ?_⟩
    | (refine ⟨trivial, ?_⟩; conv => whnf)
    | (refine ⟨le_of_ble rfl, ?_⟩; conv => whnf)
    | fail
  all_goals first
    | exact ret_imm rfl rfl rfl rfl rfl rfl
    | (exfalso; simp at h; done)
    | (exfalso; simp at h; omega)
    | (exfalso; have h' := of_decide_eq_false h; omega)
    | (exfalso; have h' := of_decide_eq_true h; omega)
    | (exfalso; rename_i hq; have h' := of_decide_eq_true hq; omega)
    | (exfalso; rename_i hq; have h' := of_decide_eq_false hq; omega)
    | (exfalso; rename_i hq _; have h' := of_decide_eq_true hq; omega)
    | (exfalso; rename_i hq _; have h' := of_decide_eq_false hq; omega)
    | trace_state
end Go.Proofs.Ytiedooadnafghaa

