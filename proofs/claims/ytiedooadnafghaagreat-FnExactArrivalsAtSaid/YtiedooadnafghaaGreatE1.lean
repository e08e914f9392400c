/- The walks of a change of one delay, and the law of DelayTrip, walked. -/
import Derived.Test.YtiedooadnafghaaGreatT2
import Derived.Test.YtiedooadnafghaaGreatN8
namespace Go.Proofs.YtiedooadnafghaaGreat
open Go Go.Am
set_option maxRecDepth 100000
set_option maxHeartbeats 4000000
attribute [local irreducible] amOps amC opCall opIndexAddr opPick retQ opMake opStore amDraw opAppend opLoad opNilCmp opIndex opSlice

theorem find_hit {α : Type} {p : α → Bool} : ∀ {xs : List α} {i : Nat} {v : α}, xs[i]? = some v → p v = true → (xs.take i).all (fun x => !p x) = true → xs.find? p = some v
  | [], i, v, h, _, _ => by simp at h
  | x :: r, 0, v, h, hp, _ => by simp at h; subst h; simp [hp]
  | x :: r, i + 1, v, h, hp, ha => by
    simp only [List.take_succ_cons, List.all_cons, Bool.and_eq_true] at ha
    have : p x = false := by simpa using ha.1
    rw [List.find?_cons_of_neg (by simp [this])]
    exact find_hit (by simpa using h) hp ha.2
theorem find_none {α : Type} {p : α → Bool} {xs : List α} (h : xs.all (fun x => !p x) = true) : xs.find? p = none := by
  rw [List.find?_eq_none]
  intro x hx
  simpa using List.all_eq_true.1 h x hx
theorem filter_next {α : Type} {p : α → Bool} {xs : List α} {i : Nat} {v : α} (h : xs[i]? = some v) : (xs.take (i + 1)).filter p = if p v = true then (xs.take i).filter p ++ [v] else (xs.take i).filter p := by
  rw [List.take_add_one, h]
  simp only [Option.toList_some, List.filter_append]
  by_cases hv : p v = true
  · simp [hv]
  · simp [hv]
theorem foldl_next {α β : Type} {f : β → α → β} {b : β} {xs : List α} {i : Nat} {v : α} (h : xs[i]? = some v) : (xs.take (i + 1)).foldl f b = f ((xs.take i).foldl f b) v := by
  rw [List.take_add_one, h]
  simp

def isId (id : Int) (d : TripDelay) : Bool := decide (d.id = id)
/-- The delay of a trip, 0 if there is none. -/
def delOf (ds : List TripDelay) (id : Int) : Int := match ds.find? (isId id) with | some d => d.minutes | none => 0

theorem c34 (ds : List TripDelay) (id : Int) (hl : ds.length ≤ 1048576) : CallOk Tryz.prog 34 [.imm (.list (ds.map TripDelay.enc)), .imm (.int .i64 id)] { res := [.imm (.int .i64 (delOf ds id))] } := by
  refine callOk_of tyOk Tryz.func34 rfl rfl (le_of_ble rfl) (le_of_ble rfl) (mutOk_imm rfl _) ?_
  repeat' first | refine go_seq ?_ | refine go_region ?_ | ((first | refine go_op rfl ?_ | refine go_nil ?_ | refine go_storeBox rfl rfl rfl rfl rfl rfl ?_) <;> conv => whnf) | ((first | refine go_loadB ?_ | refine ⟨by kernel_rfl, ?_⟩ | refine go_ret ?_) <;> conv => whnf) | refine go_block ?_ | ((first | refine go_skip ?_ | refine go_exit ?_) <;> conv => whnf) | refine go_true rfl ?_ | refine go_false rfl ?_ | refine go_cond rfl (fun h => ?_) (fun h => ?_) | refine ⟨rfl, ?_⟩ | ((first | refine ⟨trivial, ?_⟩ | refine ⟨le_of_ble rfl, ?_⟩) <;> conv => whnf) | fail
  refine go_loop (α := Nat) (fun i => i ≤ ds.length ∧ (ds.take i).all (fun x => !isId id x) = true) (fun i => ds.length - i)
    (fun i => st Tryz.f34.ntmps [(1, .imm (.int .i64 id)), (7, .imm (.list (ds.map TripDelay.enc))), (8, .imm (.int .i64 (ds.map TripDelay.enc).length)), (9, .imm (.int .i64 (i : Nat)))] [] []) 0 ⟨Nat.zero_le _, rfl⟩
    (ref_st0 rfl ⟨rfl, rfl, rfl, rfl, trivial⟩ rfl) ?_
  rintro i ⟨hi, ha⟩
  cases hx : ds[i]? with
  | none =>
    have hge := le_of_at hx
    have hr : delOf ds id = 0 := by unfold delOf; rw [find_none (by rwa [List.take_of_length_le hge] at ha)]
    repeat' first | refine go_seq ?_ | refine go_region ?_ | ((first | refine go_op rfl ?_ | refine go_nil ?_ | refine go_storeBox rfl rfl rfl rfl rfl rfl ?_) <;> conv => whnf) | ((first | refine go_loadB ?_ | refine ⟨by kernel_rfl, ?_⟩ | refine go_ret ?_) <;> conv => whnf) | refine go_block ?_ | ((first | refine go_skip ?_ | refine go_exit ?_) <;> conv => whnf) | refine go_true rfl ?_ | refine go_false rfl ?_ | refine go_cond rfl (fun h => ?_) (fun h => ?_) | refine ⟨rfl, ?_⟩ | ((first | refine ⟨trivial, ?_⟩ | refine ⟨le_of_ble rfl, ?_⟩) <;> conv => whnf) | fail
    all_goals first
      | (exfalso; simp at h; omega)
      | exact ret_imm rfl rfl rfl rfl (by rw [hr]) rfl
  | some v =>
    have hlt := lt_of_at hx
    have hr := row_at TripDelay.enc hx
    have hhit : isId id v = true → delOf ds id = v.minutes := fun hp => by unfold delOf; rw [find_hit hx hp ha]
    repeat' first | refine go_seq ?_ | refine go_region ?_ | ((first | refine go_op rfl ?_ | refine go_nil ?_ | refine go_storeBox rfl rfl rfl rfl rfl rfl ?_ | refine go_idx rfl rfl rfl rfl (by omega) hr rfl ?_) <;> conv => whnf) | ((first | refine go_loadB ?_ | refine ⟨by kernel_rfl, ?_⟩ | refine go_ret ?_) <;> conv => whnf) | refine go_block ?_ | ((first | refine go_skip ?_ | refine go_exit ?_) <;> conv => whnf) | refine go_true rfl ?_ | refine go_false rfl ?_ | refine go_cond rfl (fun h => ?_) (fun h => ?_) | refine ⟨rfl, ?_⟩ | ((first | refine ⟨trivial, ?_⟩ | refine ⟨le_of_ble rfl, ?_⟩) <;> conv => whnf) | fail
    all_goals first
      | (refine ret_imm rfl rfl rfl rfl ?_ rfl; rw [hhit h]; done)
      | exact go_next (i + 1) ⟨by omega, all_next hx ha (by simp only [isId]; rw [h]; rfl)⟩ (by omega) (ref_st0 rfl ⟨rfl, rfl, rfl, next_i (by omega), trivial⟩ rfl)
      | (exfalso; simp at h; omega)

theorem c24 (ds : List TripDelay) (id : Int) (hl : ds.length ≤ 1048576) : CallOk Tryz.prog 24 [.imm (.list (ds.map TripDelay.enc)), .imm (.int .i64 id)] { res := [.imm (.int .i64 (delOf ds id))] } := by
  refine callOk_of tyOk Tryz.func24 rfl rfl (le_of_ble rfl) (le_of_ble rfl) (mutOk_imm rfl _) ?_
  repeat' first | refine go_seq ?_ | refine go_region ?_ | ((first | refine go_op rfl ?_ | refine go_nil ?_) <;> conv => whnf) | ((first | refine go_loadB ?_ | refine ⟨by kernel_rfl, ?_⟩ | refine go_ret ?_) <;> conv => whnf) | refine go_block ?_ | ((first | refine go_skip ?_ | refine go_exit ?_) <;> conv => whnf) | refine go_true rfl ?_ | refine go_false rfl ?_ | refine go_cond rfl (fun h => ?_) (fun h => ?_) | refine ⟨rfl, ?_⟩ | ((first | refine ⟨trivial, ?_⟩ | refine ⟨le_of_ble rfl, ?_⟩) <;> conv => whnf) | fail
  refine go_loop (α := Nat) (fun i => i ≤ ds.length ∧ (ds.take i).all (fun x => !isId id x) = true) (fun i => ds.length - i)
    (fun i => st Tryz.f24.ntmps [(0, .imm (.list (ds.map TripDelay.enc))), (1, .imm (.int .i64 id)), (5, .imm (.int .i64 (i : Nat)))] [] []) 0 ⟨Nat.zero_le _, rfl⟩
    (ref_st0 rfl ⟨rfl, rfl, rfl, trivial⟩ rfl) ?_
  rintro i ⟨hi, ha⟩
  cases hx : ds[i]? with
  | none =>
    have hge := le_of_at hx
    have hr : delOf ds id = 0 := by unfold delOf; rw [find_none (by rwa [List.take_of_length_le hge] at ha)]
    repeat' first | refine go_seq ?_ | refine go_region ?_ | ((first | refine go_op rfl ?_ | refine go_nil ?_) <;> conv => whnf) | ((first | refine go_loadB ?_ | refine ⟨by kernel_rfl, ?_⟩ | refine go_ret ?_) <;> conv => whnf) | refine go_block ?_ | ((first | refine go_skip ?_ | refine go_exit ?_) <;> conv => whnf) | refine go_true rfl ?_ | refine go_false rfl ?_ | refine go_cond rfl (fun h => ?_) (fun h => ?_) | refine ⟨rfl, ?_⟩ | ((first | refine ⟨trivial, ?_⟩ | refine ⟨le_of_ble rfl, ?_⟩) <;> conv => whnf) | fail
    all_goals first
      | (exfalso; simp at h; omega)
      | exact ret_imm rfl rfl rfl rfl (by rw [hr]) rfl
  | some v =>
    have hlt := lt_of_at hx
    have hr := row_at TripDelay.enc hx
    have hhit : isId id v = true → delOf ds id = v.minutes := fun hp => by unfold delOf; rw [find_hit hx hp ha]
    repeat' first | refine go_seq ?_ | refine go_region ?_ | ((first | refine go_op rfl ?_ | refine go_nil ?_ | refine go_idx rfl rfl rfl rfl (by omega) hr rfl ?_) <;> conv => whnf) | ((first | refine go_loadB ?_ | refine ⟨by kernel_rfl, ?_⟩ | refine go_ret ?_) <;> conv => whnf) | refine go_block ?_ | ((first | refine go_skip ?_ | refine go_exit ?_) <;> conv => whnf) | refine go_true rfl ?_ | refine go_false rfl ?_ | refine go_cond rfl (fun h => ?_) (fun h => ?_) | refine ⟨rfl, ?_⟩ | ((first | refine ⟨trivial, ?_⟩ | refine ⟨le_of_ble rfl, ?_⟩) <;> conv => whnf) | fail
    all_goals first
      | (refine ret_imm rfl rfl rfl rfl ?_ rfl; rw [hhit h]; done)
      | exact go_next (i + 1) ⟨by omega, all_next hx ha (by simp only [isId]; rw [h]; rfl)⟩ (by omega) (ref_st0 rfl ⟨rfl, rfl, next_i (by omega), trivial⟩ rfl)
      | (exfalso; simp at h; omega)

def pBef (id : Int) (d : TripDelay) : Bool := decide (d.id < id)
def pAft (id : Int) (d : TripDelay) : Bool := decide (id < d.id)
/-- The delay that a trip has then. -/
def dtOwn (ds : List TripDelay) (id mi : Int) : TripDelay := ⟨id, IntKind.i64.wrap (delOf ds id + mi)⟩
def dtMid (ds : List TripDelay) (id mi : Int) : List TripDelay := if (dtOwn ds id mi).minutes = 0 then [] else [dtOwn ds id mi]
def dtOut (ds : List TripDelay) (id mi : Int) : List TripDelay := ds.filter (pBef id) ++ dtMid ds id mi ++ ds.filter (pAft id)
def dtPre (t : Timetable) (ds : List TripDelay) (id mi : Int) : Bool := delaysOk t ds && (hasTrip t id && inR mi (-600) 600)
def dtOk (t : Timetable) (ds : List TripDelay) (id mi : Int) : Bool := dtPre t ds id mi && delaysIn t (dtOut ds id mi)
def dtR (t : Timetable) (ds : List TripDelay) (id mi : Int) : List TripDelay := if dtOk t ds id mi then dtOut ds id mi else []
theorem dtMid_len (ds : List TripDelay) (id mi : Int) : (dtMid ds id mi).length ≤ 1 := by unfold dtMid; split <;> simp
theorem two_filters {α : Type} (p q : α → Bool) (h : ∀ x, ¬ (p x = true ∧ q x = true)) : ∀ xs : List α, (xs.filter p).length + (xs.filter q).length ≤ xs.length
  | [] => by simp
  | x :: r => by
    have ih := two_filters p q h r
    have := h x
    by_cases hp : p x = true <;> by_cases hq : q x = true <;> simp_all <;> omega
theorem dtOut_len (ds : List TripDelay) (id mi : Int) : (dtOut ds id mi).length ≤ ds.length + 1 := by
  have h1 := dtMid_len ds id mi
  have h2 := two_filters (pBef id) (pAft id) (fun x => by simp [pBef, pAft]; omega) ds
  simp only [dtOut, List.length_append]
  omega
theorem dtR_len (t : Timetable) (ds : List TripDelay) (id mi : Int) : (dtR t ds id mi).length ≤ ds.length + 1 := by
  unfold dtR
  split
  · exact dtOut_len ds id mi
  · simp

/-! What the reference does, one delay after another. -/
def spStep (id : Int) (x : TripDelay) (s : List TripDelay × Bool) (d : TripDelay) : List TripDelay × Bool :=
  if s.2 = false ∧ pAft id d = true then (s.1 ++ [x] ++ (if isId id d then [] else [d]), true) else (s.1 ++ (if isId id d then [] else [d]), s.2)
def spEnd (x : TripDelay) (s : List TripDelay × Bool) : List TripDelay := if s.2 then s.1 else s.1 ++ [x]
def Inc (ds : List TripDelay) : Prop := ds.Pairwise (fun a b => a.id < b.id)

theorem sp_put {id : Int} {x : TripDelay} : ∀ (ds : List TripDelay) (o : List TripDelay), ds.foldl (spStep id x) (o, true) = (o ++ ds.filter (fun d => !isId id d), true)
  | [], o => by simp
  | d :: r, o => by
    rw [List.foldl_cons]
    have e : spStep id x (o, true) d = (o ++ (if isId id d then [] else [d]), true) := by unfold spStep; simp
    rw [e, sp_put r]
    cases hd : isId id d <;> simp [hd]
theorem aft_all {id : Int} {d : TripDelay} (hd : id < d.id) : ∀ {r : List TripDelay}, (∀ e ∈ r, d.id < e.id) → r.filter (fun d => !isId id d) = r ∧ r.filter (pAft id) = r ∧ r.filter (pBef id) = []
  | [], _ => by simp
  | e :: r, h => by
    obtain ⟨h1, h2, h3⟩ := aft_all hd (r := r) fun x hx => h x (by simp [hx])
    have he := h e (by simp)
    have a1 : isId id e = false := by simp only [isId, decide_eq_false_iff_not]; omega
    have a2 : pAft id e = true := by simp only [pAft, decide_eq_true_eq]; omega
    have a3 : pBef id e = false := by simp only [pBef, decide_eq_false_iff_not]; omega
    simp [a1, a2, a3, h1, h2, h3]
theorem sp_eq {id : Int} {x : TripDelay} : ∀ (ds : List TripDelay) (o : List TripDelay), Inc ds → spEnd x (ds.foldl (spStep id x) (o, false)) = o ++ ds.filter (pBef id) ++ [x] ++ ds.filter (pAft id)
  | [], o, _ => by simp [spEnd]
  | d :: r, o, h => by
    obtain ⟨h1, h2⟩ := List.pairwise_cons.1 h
    rw [List.foldl_cons]
    rcases Int.lt_trichotomy d.id id with hd | hd | hd
    · have a1 : isId id d = false := by simp only [isId, decide_eq_false_iff_not]; omega
      have a2 : pAft id d = false := by simp only [pAft, decide_eq_false_iff_not]; omega
      have a3 : pBef id d = true := by simp only [pBef, decide_eq_true_eq]; omega
      have e : spStep id x (o, false) d = (o ++ [d], false) := by unfold spStep; simp [a1, a2]
      rw [e, sp_eq r _ h2]
      simp [a2, a3]
    · have a1 : isId id d = true := by simp only [isId, decide_eq_true_eq]; omega
      have a2 : pAft id d = false := by simp only [pAft, decide_eq_false_iff_not]; omega
      have a3 : pBef id d = false := by simp only [pBef, decide_eq_false_iff_not]; omega
      have e : spStep id x (o, false) d = (o, false) := by unfold spStep; simp [a1, a2]
      rw [e, sp_eq r _ h2]
      simp [a2, a3]
    · have a1 : isId id d = false := by simp only [isId, decide_eq_false_iff_not]; omega
      have a2 : pAft id d = true := by simp only [pAft, decide_eq_true_eq]; omega
      have a3 : pBef id d = false := by simp only [pBef, decide_eq_false_iff_not]; omega
      have e : spStep id x (o, false) d = (o ++ [x] ++ [d], true) := by unfold spStep; simp [a1, a2]
      obtain ⟨q1, q2, q3⟩ := aft_all hd h1
      rw [e, sp_put]
      simp [spEnd, a2, a3, q1, q2, q3]
theorem sp_eq0 {id : Int} : ∀ (ds : List TripDelay), Inc ds → ds.filter (fun d => !isId id d) = ds.filter (pBef id) ++ ds.filter (pAft id)
  | [], _ => by simp
  | d :: r, h => by
    obtain ⟨h1, h2⟩ := List.pairwise_cons.1 h
    have ih := sp_eq0 (id := id) r h2
    rcases Int.lt_trichotomy d.id id with hd | hd | hd
    · have a1 : isId id d = false := by simp only [isId, decide_eq_false_iff_not]; omega
      have a2 : pAft id d = false := by simp only [pAft, decide_eq_false_iff_not]; omega
      have a3 : pBef id d = true := by simp only [pBef, decide_eq_true_eq]; omega
      simp [a1, a2, a3, ih]
    · have a1 : isId id d = true := by simp only [isId, decide_eq_true_eq]; omega
      have a2 : pAft id d = false := by simp only [pAft, decide_eq_false_iff_not]; omega
      have a3 : pBef id d = false := by simp only [pBef, decide_eq_false_iff_not]; omega
      simp [a1, a2, a3, ih]
    · have a1 : isId id d = false := by simp only [isId, decide_eq_false_iff_not]; omega
      have a2 : pAft id d = true := by simp only [pAft, decide_eq_true_eq]; omega
      have a3 : pBef id d = false := by simp only [pBef, decide_eq_false_iff_not]; omega
      obtain ⟨q1, q2, q3⟩ := aft_all hd h1
      simp [a1, a2, a3, q1, q2, q3]

theorem delays_inc {t : Timetable} {ds : List TripDelay} (h : delaysIn t ds = true) : ∀ (j : Nat) (v : TripDelay), ds[j]? = some v → ((j : Int) + 1 ≤ v.id ∧ ∀ (i : Nat) (u : TripDelay), i < j → ds[i]? = some u → u.id < v.id)
  | 0, v, hv => by
    have h1 := allI_iff.1 h 0 v hv
    unfold dAt at h1
    simp only [Bool.and_eq_true, decide_eq_true_eq] at h1
    have h2 : (0 : Int) < v.id := h1.1
    exact ⟨by omega, fun i u hi => by omega⟩
  | j + 1, v, hv => by
    have h1 := allI_iff.1 h (j + 1) v hv
    unfold dAt at h1
    simp only [Bool.and_eq_true, decide_eq_true_eq] at h1
    obtain ⟨w, hw⟩ : ∃ w, ds[j]? = some w := ⟨_, List.getElem?_eq_getElem (by have := lt_of_at hv; omega)⟩
    have h2 : w.id < v.id := by have := h1.1; simp only [dPrev, hw] at this; exact this
    obtain ⟨h3, h4⟩ := delays_inc h j w hw
    refine ⟨by omega, fun i u hi hu => ?_⟩
    rcases Nat.lt_or_ge i j with e | e
    · have := h4 i u e hu; omega
    · have : i = j := by omega
      subst this
      rw [hw] at hu; injection hu with hu; subst hu; exact h2
theorem delays_sorted {t : Timetable} {ds : List TripDelay} (h : delaysIn t ds = true) : Inc ds := by
  unfold Inc
  rw [List.pairwise_iff_getElem]
  intro i j hi hj hij
  exact (delays_inc h j _ (List.getElem?_eq_getElem hj)).2 i _ hij (List.getElem?_eq_getElem hi)
theorem delays_len {t : Timetable} {ds : List TripDelay} (h : delaysOk t ds = true) : ds.length ≤ 999 := by
  unfold delaysOk at h
  simp only [Bool.and_eq_true] at h
  rcases Nat.eq_zero_or_pos ds.length with e | e
  · omega
  · have hv := List.getElem?_eq_getElem (show ds.length - 1 < ds.length by omega)
    obtain ⟨h1, _⟩ := delays_inc h.2 _ _ hv
    have h2 := allI_iff.1 h.2 _ _ hv
    unfold dAt at h2
    simp only [Bool.and_eq_true] at h2
    have h3 := h2.2.1
    unfold hasTrip at h3
    rw [idxF_ge] at h3
    obtain ⟨x, hx, hp⟩ := List.any_eq_true.1 h3
    obtain ⟨j, hj⟩ := List.getElem?_of_mem hx
    have h4 := tripAt_of h.1 hj
    unfold tripAtS inR at h4
    unfold pId at hp
    simp only [Bool.and_eq_true, decide_eq_true_eq] at h4 hp
    omega

end Go.Proofs.YtiedooadnafghaaGreat

