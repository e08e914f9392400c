/- The departures from a stop, and whether a board is asked rightly: both sides (out of r4/E1, E3, E5, E7, net/N9). -/
import Derived.Test.YtingoclokmcmhaaT2
import Derived.Test.YtingoclokmcmhaaT4
import Derived.Test.YtingoclokmcmhaaR0
namespace Go.Proofs.Ytingoclokmcmhaa
open Go Go.Am
set_option maxRecDepth 100000
set_option maxHeartbeats 4000000
attribute [local irreducible] amOps amC opCall opIndexAddr opPick retQ opMake opStore amDraw opAppend opLoad opNilCmp opIndex opSlice

theorem find_hit {α : Type} {p : α → Bool} : ∀ {xs : List α} {i : Nat} {v : α}, xs[i]? = some v → p v = true → (xs.take i).all (fun x => !p x) = true → xs.find? p = some v
  | [], i, v, h, _, _ => by simp at h
  | x :: r, 0, v, h, hp, _ => by simp at h; subst h; simp [hp]
  | x :: r, i + 1, v, h, hp, ha => by
    simp only [List.take_succ_cons, List.all_cons, Bool.and_eq_true] at ha
    have : p x = false := by simpa using ha.1
    rw [List.find?_cons_of_neg (by simp [this])]
    exact find_hit (by simpa using h) hp ha.2
theorem find_none {α : Type} {p : α → Bool} {xs : List α} (h : xs.all (fun x => !p x) = true) : xs.find? p = none := by
  rw [List.find?_eq_none]
  intro x hx
  simpa using List.all_eq_true.1 h x hx
theorem filter_next {α : Type} {p : α → Bool} {xs : List α} {i : Nat} {v : α} (h : xs[i]? = some v) : (xs.take (i + 1)).filter p = if p v = true then (xs.take i).filter p ++ [v] else (xs.take i).filter p := by
  rw [List.take_add_one, h]
  simp only [Option.toList_some, List.filter_append]
  by_cases hv : p v = true
  · simp [hv]
  · simp [hv]
theorem foldl_next {α β : Type} {f : β → α → β} {b : β} {xs : List α} {i : Nat} {v : α} (h : xs[i]? = some v) : (xs.take (i + 1)).foldl f b = f ((xs.take i).foldl f b) v := by
  rw [List.take_add_one, h]
  simp

def isId (id : Int) (d : TripDelay) : Bool := decide (d.id = id)
/-- The delay of a trip, 0 if there is none. -/
def delOf (ds : List TripDelay) (id : Int) : Int := match ds.find? (isId id) with | some d => d.minutes | none => 0

theorem c52 (ds : List TripDelay) (id : Int) (hl : ds.length ≤ 1048576) : CallOk Try.prog 52 [.imm (.list (ds.map TripDelay.enc)), .imm (.int .i64 id)] { res := [.imm (.int .i64 (delOf ds id))] } := by
  refine callOk_of tyOk Try.func52 rfl rfl (le_of_ble rfl) (le_of_ble rfl) (mutOk_imm rfl _) ?_
  repeat' first | refine go_seq ?_ | refine go_region ?_ | ((first | refine go_op rfl ?_ | refine go_nil ?_ | refine go_storeBox rfl rfl rfl rfl rfl rfl ?_) <;> conv => whnf) | ((first | refine go_loadB ?_ | refine ⟨by kernel_rfl, ?_⟩ | refine go_ret ?_) <;> conv => whnf) | refine go_block ?_ | ((first | refine go_skip ?_ | refine go_exit ?_) <;> conv => whnf) | refine go_true rfl ?_ | refine go_false rfl ?_ | refine go_cond rfl (fun h => ?_) (fun h => ?_) | refine ⟨rfl, ?_⟩ | ((first | refine ⟨trivial, ?_⟩ | refine ⟨le_of_ble rfl, ?_⟩) <;> conv => whnf) | fail
  refine go_loop (α := Nat) (fun i => i ≤ ds.length ∧ (ds.take i).all (fun x => !isId id x) = true) (fun i => ds.length - i)
    (fun i => st Try.f52.ntmps [(1, .imm (.int .i64 id)), (7, .imm (.list (ds.map TripDelay.enc))), (8, .imm (.int .i64 (ds.map TripDelay.enc).length)), (9, .imm (.int .i64 (i : Nat)))] [] []) 0 ⟨Nat.zero_le _, rfl⟩
    (ref_st0 rfl ⟨rfl, rfl, rfl, rfl, trivial⟩ rfl) ?_
  rintro i ⟨hi, ha⟩
  cases hx : ds[i]? with
  | none =>
    have hge := le_of_at hx
    have hr : delOf ds id = 0 := by unfold delOf; rw [find_none (by rwa [List.take_of_length_le hge] at ha)]
    repeat' first | refine go_seq ?_ | refine go_region ?_ | ((first | refine go_op rfl ?_ | refine go_nil ?_ | refine go_storeBox rfl rfl rfl rfl rfl rfl ?_) <;> conv => whnf) | ((first | refine go_loadB ?_ | refine ⟨by kernel_rfl, ?_⟩ | refine go_ret ?_) <;> conv => whnf) | refine go_block ?_ | ((first | refine go_skip ?_ | refine go_exit ?_) <;> conv => whnf) | refine go_true rfl ?_ | refine go_false rfl ?_ | refine go_cond rfl (fun h => ?_) (fun h => ?_) | refine ⟨rfl, ?_⟩ | ((first | refine ⟨trivial, ?_⟩ | refine ⟨le_of_ble rfl, ?_⟩) <;> conv => whnf) | fail
    all_goals first
      | (exfalso; simp at h; omega)
      | exact ret_imm rfl rfl rfl rfl (by rw [hr]) rfl
  | some v =>
    have hlt := lt_of_at hx
    have hr := row_at TripDelay.enc hx
    have hhit : isId id v = true → delOf ds id = v.minutes := fun hp => by unfold delOf; rw [find_hit hx hp ha]
    repeat' first | refine go_seq ?_ | refine go_region ?_ | ((first | refine go_op rfl ?_ | refine go_nil ?_ | refine go_storeBox rfl rfl rfl rfl rfl rfl ?_ | refine go_idx rfl rfl rfl rfl (by omega) hr rfl ?_) <;> conv => whnf) | ((first | refine go_loadB ?_ | refine ⟨by kernel_rfl, ?_⟩ | refine go_ret ?_) <;> conv => whnf) | refine go_block ?_ | ((first | refine go_skip ?_ | refine go_exit ?_) <;> conv => whnf) | refine go_true rfl ?_ | refine go_false rfl ?_ | refine go_cond rfl (fun h => ?_) (fun h => ?_) | refine ⟨rfl, ?_⟩ | ((first | refine ⟨trivial, ?_⟩ | refine ⟨le_of_ble rfl, ?_⟩) <;> conv => whnf) | fail
    all_goals first
      | (refine ret_imm rfl rfl rfl rfl ?_ rfl; rw [hhit h]; done)
      | exact go_next (i + 1) ⟨by omega, all_next hx ha (by simp only [isId]; rw [h]; rfl)⟩ (by omega) (ref_st0 rfl ⟨rfl, rfl, rfl, next_i (by omega), trivial⟩ rfl)
      | (exfalso; simp at h; omega)

theorem c21 (ds : List TripDelay) (id : Int) (hl : ds.length ≤ 1048576) : CallOk Try.prog 21 [.imm (.list (ds.map TripDelay.enc)), .imm (.int .i64 id)] { res := [.imm (.int .i64 (delOf ds id))] } := by
  refine callOk_of tyOk Try.func21 rfl rfl (le_of_ble rfl) (le_of_ble rfl) (mutOk_imm rfl _) ?_
  repeat' first | refine go_seq ?_ | refine go_region ?_ | ((first | refine go_op rfl ?_ | refine go_nil ?_) <;> conv => whnf) | ((first | refine go_loadB ?_ | refine ⟨by kernel_rfl, ?_⟩ | refine go_ret ?_) <;> conv => whnf) | refine go_block ?_ | ((first | refine go_skip ?_ | refine go_exit ?_) <;> conv => whnf) | refine go_true rfl ?_ | refine go_false rfl ?_ | refine go_cond rfl (fun h => ?_) (fun h => ?_) | refine ⟨rfl, ?_⟩ | ((first | refine ⟨trivial, ?_⟩ | refine ⟨le_of_ble rfl, ?_⟩) <;> conv => whnf) | fail
  refine go_loop (α := Nat) (fun i => i ≤ ds.length ∧ (ds.take i).all (fun x => !isId id x) = true) (fun i => ds.length - i)
    (fun i => st Try.f21.ntmps [(0, .imm (.list (ds.map TripDelay.enc))), (1, .imm (.int .i64 id)), (5, .imm (.int .i64 (i : Nat)))] [] []) 0 ⟨Nat.zero_le _, rfl⟩
    (ref_st0 rfl ⟨rfl, rfl, rfl, trivial⟩ rfl) ?_
  rintro i ⟨hi, ha⟩
  cases hx : ds[i]? with
  | none =>
    have hge := le_of_at hx
    have hr : delOf ds id = 0 := by unfold delOf; rw [find_none (by rwa [List.take_of_length_le hge] at ha)]
    repeat' first | refine go_seq ?_ | refine go_region ?_ | ((first | refine go_op rfl ?_ | refine go_nil ?_) <;> conv => whnf) | ((first | refine go_loadB ?_ | refine ⟨by kernel_rfl, ?_⟩ | refine go_ret ?_) <;> conv => whnf) | refine go_block ?_ | ((first | refine go_skip ?_ | refine go_exit ?_) <;> conv => whnf) | refine go_true rfl ?_ | refine go_false rfl ?_ | refine go_cond rfl (fun h => ?_) (fun h => ?_) | refine ⟨rfl, ?_⟩ | ((first | refine ⟨trivial, ?_⟩ | refine ⟨le_of_ble rfl, ?_⟩) <;> conv => whnf) | fail
    all_goals first
      | (exfalso; simp at h; omega)
      | exact ret_imm rfl rfl rfl rfl (by rw [hr]) rfl
  | some v =>
    have hlt := lt_of_at hx
    have hr := row_at TripDelay.enc hx
    have hhit : isId id v = true → delOf ds id = v.minutes := fun hp => by unfold delOf; rw [find_hit hx hp ha]
    repeat' first | refine go_seq ?_ | refine go_region ?_ | ((first | refine go_op rfl ?_ | refine go_nil ?_ | refine go_idx rfl rfl rfl rfl (by omega) hr rfl ?_) <;> conv => whnf) | ((first | refine go_loadB ?_ | refine ⟨by kernel_rfl, ?_⟩ | refine go_ret ?_) <;> conv => whnf) | refine go_block ?_ | ((first | refine go_skip ?_ | refine go_exit ?_) <;> conv => whnf) | refine go_true rfl ?_ | refine go_false rfl ?_ | refine go_cond rfl (fun h => ?_) (fun h => ?_) | refine ⟨rfl, ?_⟩ | ((first | refine ⟨trivial, ?_⟩ | refine ⟨le_of_ble rfl, ?_⟩) <;> conv => whnf) | fail
    all_goals first
      | (refine ret_imm rfl rfl rfl rfl ?_ rfl; rw [hhit h]; done)
      | exact go_next (i + 1) ⟨by omega, all_next hx ha (by simp only [isId]; rw [h]; rfl)⟩ (by omega) (ref_st0 rfl ⟨rfl, rfl, next_i (by omega), trivial⟩ rfl)
      | (exfalso; simp at h; omega)

theorem idxF_spec {α : Type} {p : α → Bool} {xs : List α} (h : 0 ≤ idxF p xs) : ∃ (i : Nat) (x : α), idxF p xs = i ∧ xs[i]? = some x ∧ p x = true := by
  unfold idxF at h ⊢
  split at h
  · rename_i ha
    rw [if_pos ha]
    have hlt : xs.findIdx p < xs.length := List.findIdx_lt_length_of_exists (List.any_eq_true.1 ha)
    exact ⟨_, _, rfl, List.getElem?_eq_getElem hlt, List.findIdx_getElem⟩
  · omega

/-- What is so of a trip of a valid timetable and its line. -/
structure Good (t : Timetable) (i : Nat) (x : Trip) (l : Line) : Prop where
  on : OnLine t i x l
  st : timeOk x.start = true
  rs : l.runs.length + 1 = l.stops.length
  r5 : l.runs.length ≤ 5
  bd : ∀ k : Nat, k ≤ 1000 → 0 ≤ totW (l.runs.take k) ∧ totW (l.runs.take k) ≤ 60 * k
theorem good_of {t : Timetable} (h : ttOk t = true) {i : Nat} {x : Trip} (hx : t.trips[i]? = some x) : ∃ l, Good t i x l := by
  have h1 := tripAt_of h hx
  unfold tripAtS at h1
  simp only [Bool.and_eq_true] at h1
  obtain ⟨h0, l, h2, h3, _, _⟩ := line_at h1.2.1
  have hn : netOk t.net = true := by unfold ttOk at h; simp only [Bool.and_eq_true] at h; exact h.1
  unfold netOk at hn
  simp only [Bool.and_eq_true] at hn
  have hl := List.all_eq_true.1 hn.2 l (List.mem_of_getElem? h3)
  have hl' := hl
  unfold lineOk at hl'
  simp only [Bool.and_eq_true, decide_eq_true_eq] at hl'
  have hs := (inR_iff _ _ _).1 hl'.1.1.1
  exact ⟨l, ⟨⟨hx, h3, h0⟩, h1.2.2.1, by omega, by omega, fun k hk => tot_bd (runs_bd hl) k hk⟩⟩
theorem Good.at {t : Timetable} {i : Nat} {x : Trip} {l : Line} (h : Good t i x l) (k : Nat) (hk : k ≤ 1000) : stopAt x l k = x.start + totW (l.runs.take k) := by
  have h1 := (inR_iff _ _ _).1 h.st
  have h2 := h.bd k hk
  unfold stopAt
  exact wrap_small (by omega) (by omega)


structure Dep where
  trip : Trip
  time : Int
  delay : Int
def Dep.enc (v : Dep) : List D := [.int .i64 v.trip.id, .int .i64 v.trip.line, .int .i64 v.trip.start, .int .i64 v.time, .int .i64 v.delay]
theorem dep_gr (xs : List Dep) : ∀ x ∈ xs.map Dep.enc, x.all D.gr = true := by
  intro x hx
  obtain ⟨_, _, rfl⟩ := List.mem_map.1 hx
  rfl
theorem dep_one (xs : List Dep) : (xs.map Dep.enc).all (fun r => r.all D.one) = true := by
  simp only [List.all_map, List.all_eq_true]
  intro _ _
  rfl

def plAt (l : Line) (stop : Int) : Int := idxF (pInt stop) l.stops
def goes (l : Line) (stop : Int) : Bool := decide (0 ≤ plAt l stop) && decide (plAt l stop < (l.stops.length : Int) - 1)
def depOf (t : Timetable) (ds : List TripDelay) (stop : Int) (x : Trip) : Option Dep :=
  match t.net.lines[x.line.toNat]? with
  | some l => if goes l stop then some ⟨x, stopAt x l (plAt l stop).toNat, delOf ds x.id⟩ else none
  | none => none
def depsN (t : Timetable) (ds : List TripDelay) (stop : Int) (i : Nat) : List Dep := (t.trips.take i).filterMap (depOf t ds stop)
def deps (t : Timetable) (ds : List TripDelay) (stop : Int) : List Dep := t.trips.filterMap (depOf t ds stop)
theorem depsN_next {t : Timetable} {i : Nat} {x : Trip} (ds : List TripDelay) (stop : Int) (h : t.trips[i]? = some x) : depsN t ds stop (i + 1) = depsN t ds stop i ++ (match depOf t ds stop x with | some d => [d] | none => []) := by
  unfold depsN
  rw [List.take_add_one, h]
  simp only [Option.toList_some, List.filterMap_append]
  congr 1
  cases hd : depOf t ds stop x <;> simp [hd]
theorem depsN_len (t : Timetable) (ds : List TripDelay) (stop : Int) (i : Nat) : (depsN t ds stop i).length ≤ i := by
  unfold depsN
  exact Nat.le_trans (List.length_filterMap_le _ _) (by rw [List.length_take]; omega)
theorem deps_all {t : Timetable} {i : Nat} (ds : List TripDelay) (stop : Int) (h : t.trips.length ≤ i) : depsN t ds stop i = deps t ds stop := by
  unfold depsN deps
  rw [List.take_of_length_le h]

theorem plAt_lt (l : Line) (stop : Int) : plAt l stop < l.stops.length ∨ plAt l stop = -1 := by
  by_cases h : 0 ≤ plAt l stop
  · obtain ⟨i, x, h1, h2, _⟩ := idxF_spec h
    have := lt_of_at h2
    left
    unfold plAt at *
    omega
  · right
    unfold plAt idxF at *
    split at h
    · omega
    · rename_i hn
      rw [if_neg hn]

theorem c26 (t : Timetable) (hf : t.fit) (hok : ttOk t = true) (ds : List TripDelay) (hl : ds.length ≤ 1048576) (stop : Int) :
    CallOk Try.prog 26 [.imm (.agg t.enc), .imm (.list (ds.map TripDelay.enc)), .imm (.int .i64 stop)] { res := [.imm (.list ((deps t ds stop).map Dep.enc))] } := by
  refine callOk_of tyOk Try.func26 rfl rfl (le_of_ble rfl) (le_of_ble rfl) (mutOk_imm rfl _) ?_
  have htl : (t.trips.map Trip.enc).length = t.trips.length := List.length_map _
  have hnt : t.trips.length ≤ 1048576 := hf.2.1
  repeat' first | refine go_seq ?_ | refine go_region ?_ | refine go_miss rfl rfl rfl ?_ | refine go_undef rfl rfl rfl ?_ | refine go_draw drawsOk ?_ | ((first | refine go_op rfl ?_ | refine go_nil ?_ | refine go_hit rfl rfl rfl ?_ | refine go_splitT rfl rfl rfl (fun h => ?_) (fun h => ?_) | refine go_splitF rfl rfl rfl (fun h => ?_) (fun h => ?_) | refine go_storeBox rfl rfl rfl rfl rfl rfl ?_ | refine go_dop rfl ?_ | refine go_dhit rfl rfl ?_ | refine go_dmiss rfl rfl ?_ | refine go_dundef rfl rfl ?_ | refine go_dend (by kernel_rfl) ?_ | refine go_pickT rfl ?_ | refine go_pickF rfl ?_ | refine go_pick rfl (fun h => ?_) (fun h => ?_)) <;> conv => whnf) | ((first | refine Or.inl ?_ | refine go_dsplit2 rfl (fun h => ?_) (fun h => ?_) | refine go_loadB ?_ | refine ⟨by kernel_rfl, ?_⟩ | refine go_ret ?_) <;> conv => whnf) | refine go_block ?_ | ((first | refine go_skip ?_ | refine go_exit ?_) <;> conv => whnf) | refine go_true rfl ?_ | refine go_false rfl ?_ | refine go_cond rfl (fun h => ?_) (fun h => ?_) | refine ⟨rfl, ?_⟩ | ((first | refine ⟨trivial, ?_⟩ | refine ⟨le_of_ble rfl, ?_⟩) <;> conv => whnf) | fail
  refine go_loop (α := Nat) (fun i => i ≤ t.trips.length) (fun i => t.trips.length - i)
    (fun i => st Try.f26.ntmps [(1, .imm (.list (ds.map TripDelay.enc))), (2, .imm (.int .i64 stop)), (3, .box 1000 0), (7, .own 1001 0 ((depsN t ds stop i).map Dep.enc).length), (14, .imm (.list (t.trips.map Trip.enc))), (15, .imm (.int .i64 (t.trips.map Trip.enc).length)), (16, .imm (.int .i64 (i : Nat)))]
      [(1000, .box 40 (t.enc.map .imm)), (1001, .arr 68 5 ((depsN t ds stop i).map Dep.enc))] []) 0 (Nat.zero_le _) ?_ ?_
  · exact ref_st (fun y => if y = 1000 then nid 1 3 else nid 2 7) rfl ⟨rfl, rfl, ⟨rfl, rfl⟩, ⟨rfl, rfl⟩, rfl, rfl, rfl, trivial⟩ ⟨⟨rfl, wavs_imm _⟩, rfl, trivial⟩ (by simp [nid]) rfl (by simp)
  intro i hi
  cases hx : t.trips[i]? with
  | none =>
    have hge := le_of_at hx
    rw [deps_all ds stop hge]
    repeat' first | refine go_seq ?_ | refine go_region ?_ | refine go_miss rfl rfl rfl ?_ | refine go_undef rfl rfl rfl ?_ | refine go_draw drawsOk ?_ | ((first | refine go_op rfl ?_ | refine go_nil ?_ | refine go_hit rfl rfl rfl ?_ | refine go_splitT rfl rfl rfl (fun h => ?_) (fun h => ?_) | refine go_splitF rfl rfl rfl (fun h => ?_) (fun h => ?_) | refine go_storeBox rfl rfl rfl rfl rfl rfl ?_ | refine go_dop rfl ?_ | refine go_dhit rfl rfl ?_ | refine go_dmiss rfl rfl ?_ | refine go_dundef rfl rfl ?_ | refine go_dend (by kernel_rfl) ?_ | refine go_pickT rfl ?_ | refine go_pickF rfl ?_ | refine go_pick rfl (fun h => ?_) (fun h => ?_)) <;> conv => whnf) | ((first | refine Or.inl ?_ | refine go_dsplit2 rfl (fun h => ?_) (fun h => ?_) | refine go_loadB ?_ | refine ⟨by kernel_rfl, ?_⟩ | refine go_ret ?_) <;> conv => whnf) | refine go_block ?_ | ((first | refine go_skip ?_ | refine go_exit ?_) <;> conv => whnf) | refine go_true rfl ?_ | refine go_false rfl ?_ | refine go_cond rfl (fun h => ?_) (fun h => ?_) | refine ⟨rfl, ?_⟩ | ((first | refine ⟨trivial, ?_⟩ | refine ⟨le_of_ble rfl, ?_⟩) <;> conv => whnf) | fail
    all_goals try first
      | (exfalso; have h' := of_decide_eq_false h; omega)
      | (exfalso; have h' := of_decide_eq_true h; omega)
      | (exfalso; rename_i hq; have h' := of_decide_eq_true hq; omega)
      | (exfalso; rename_i hq; have h' := of_decide_eq_false hq; omega)
      | (exfalso; rename_i hq _; have h' := of_decide_eq_true hq; omega)
      | (exfalso; rename_i hq _; have h' := of_decide_eq_false hq; omega)
    · exact ret_own rfl rfl rfl rfl rfl (by rw [List.drop_zero, List.take_length]) (dep_gr _)
  | some x =>
    have hlt := lt_of_at hx
    have hr := row_at Trip.enc hx
    obtain ⟨l, hg⟩ := good_of hok hx
    have hlf := hf.1.2.2.2 l (List.mem_of_getElem? hg.on.ln)
    have hsl : (l.stops.map intRow).length = l.stops.length := List.length_map _
    have hol := depsN_len t ds stop i
    have hb : ((depsN t ds stop i).map Dep.enc).length + 1 ≤ 1073741824 := by rw [List.length_map]; omega
    have hnx := depsN_next ds stop hx
    have hd : depOf t ds stop x = if goes l stop then some ⟨x, stopAt x l (plAt l stop).toNat, delOf ds x.id⟩ else none := by unfold depOf; rw [hg.on.ln]
    have hc1 := c49 t x l hg.on.lo hg.on.ln
    have hc2 := c50 t x l hg.on.lo hg.on.ln hg.st hlf.2.2
    have hc3 := c51 l.stops stop hlf.2.1
    have hc4 := c52 ds x.id hl
    have hrs := hg.rs
    have hr5 := hg.r5
    have hw1 : IntKind.i64.wrap ((l.stops.length : Int) - 1) = (l.stops.length : Int) - 1 := wrap_small (by omega) (by omega)
    have hw : IntKind.i64.wrap (((l.stops.map intRow).length : Int) - 1) = (l.stops.length : Int) - 1 := by rw [hsl]; exact hw1
    change CallOk _ _ _ { res := [.imm (.int .i64 (plAt l stop))] } at hc3
    cases hgo : goes l stop with
    | true =>
      rw [hgo, if_pos rfl] at hd
      rw [hd] at hnx
      change _ = _ ++ [_] at hnx
      have hgo' := hgo
      unfold goes at hgo'
      simp only [Bool.and_eq_true, decide_eq_true_eq] at hgo'
      have hrow : ((stopsT x l (l.runs.length + 1)).map intRow)[(plAt l stop).toNat]? = some (intRow (stopAt x l (plAt l stop).toNat)) := stopsT_at (by omega)
      have hone := dep_one [⟨x, stopAt x l (plAt l stop).toNat, delOf ds x.id⟩]
      repeat' first | refine go_seq ?_ | refine go_region ?_ | refine go_miss rfl rfl rfl ?_ | refine go_undef rfl rfl rfl ?_ | refine go_draw drawsOk ?_ | ((first | refine go_op rfl ?_ | refine go_nil ?_ | refine go_hit rfl rfl rfl ?_ | refine go_splitT rfl rfl rfl (fun h => ?_) (fun h => ?_) | refine go_splitF rfl rfl rfl (fun h => ?_) (fun h => ?_) | refine go_storeBox rfl rfl rfl rfl rfl rfl ?_ | refine go_dop rfl ?_ | refine go_dhit rfl rfl ?_ | refine go_dmiss rfl rfl ?_ | refine go_dundef rfl rfl ?_ | refine go_dend (by kernel_rfl) ?_ | refine go_pickT rfl ?_ | refine go_pickF rfl ?_ | refine go_pick rfl (fun h => ?_) (fun h => ?_) | refine go_call [] (hc1) rfl rfl rfl rfl ?_ | refine go_call [] (hc2) rfl rfl rfl rfl ?_ | refine go_call [] (hc3) rfl rfl rfl rfl ?_ | refine go_call [] (hc4) rfl rfl rfl rfl ?_ | refine go_idx rfl rfl rfl rfl (by omega) hr rfl ?_ | refine go_idx rfl rfl rfl rfl hgo'.1 hrow rfl ?_ | refine go_append (rows2 := [(⟨x, stopAt x l (plAt l stop).toNat, delOf ds x.id⟩ : Dep)].map Dep.enc) rfl rfl rfl rfl rfl rfl rfl rfl rfl rfl rfl rfl hone rfl rfl rfl hb ?_) <;> conv => whnf) | ((first | refine Or.inl ?_ | refine go_dsplit2 rfl (fun h => ?_) (fun h => ?_) | refine go_loadB ?_ | refine ⟨by kernel_rfl, ?_⟩ | refine go_ret ?_) <;> conv => whnf) | refine go_block ?_ | ((first | refine go_skip ?_ | refine go_exit ?_) <;> conv => whnf) | refine go_true rfl ?_ | refine go_false rfl ?_ | refine go_cond rfl (fun h => ?_) (fun h => ?_) | refine ⟨rfl, ?_⟩ | ((first | refine ⟨trivial, ?_⟩ | refine ⟨le_of_ble rfl, ?_⟩) <;> conv => whnf) | fail
      all_goals first
        | (refine go_next (i + 1) (by omega) (by omega) (ref_st (fun y => if y = 1001 then nid 7 51 else y) rfl ⟨rfl, rfl, ⟨rfl, rfl⟩, ⟨?_, rfl⟩, rfl, rfl, next_i (by omega), trivial⟩ ⟨⟨rfl, wavs_imm _⟩, ?_, trivial⟩ (by simp [nid]) rfl (by simp))
           · show AV.own _ _ _ = AV.own _ _ _
             rw [hnx, List.map_append, List.length_append]; try rfl
           · show some _ = some _
             rw [hnx, List.map_append]; try rfl
           done)
        | (exfalso; have h' := of_decide_eq_false h; omega)
        | (exfalso; have h' := of_decide_eq_true h; omega)
        | (exfalso; rename_i hq; have h' := of_decide_eq_true hq; omega)
        | (exfalso; rename_i hq; have h' := of_decide_eq_false hq; omega)
        | (exfalso; rename_i hq _; have h' := of_decide_eq_true hq; omega)
        | (exfalso; rename_i hq _; have h' := of_decide_eq_false hq; omega)
        | (exfalso; have h' := of_decide_eq_false h; rw [hw] at h'; omega)
        | trace_state
    | false =>
      rw [hgo, if_neg (by simp)] at hd
      rw [hd] at hnx
      change _ = _ ++ [] at hnx
      have hgo' := hgo
      unfold goes at hgo'
      simp only [Bool.and_eq_false_iff, decide_eq_false_iff_not] at hgo'
      repeat' first | refine go_seq ?_ | refine go_region ?_ | refine go_miss rfl rfl rfl ?_ | refine go_undef rfl rfl rfl ?_ | refine go_draw drawsOk ?_ | ((first | refine go_op rfl ?_ | refine go_nil ?_ | refine go_hit rfl rfl rfl ?_ | refine go_splitT rfl rfl rfl (fun h => ?_) (fun h => ?_) | refine go_splitF rfl rfl rfl (fun h => ?_) (fun h => ?_) | refine go_storeBox rfl rfl rfl rfl rfl rfl ?_ | refine go_dop rfl ?_ | refine go_dhit rfl rfl ?_ | refine go_dmiss rfl rfl ?_ | refine go_dundef rfl rfl ?_ | refine go_dend (by kernel_rfl) ?_ | refine go_pickT rfl ?_ | refine go_pickF rfl ?_ | refine go_pick rfl (fun h => ?_) (fun h => ?_) | refine go_call [] (hc1) rfl rfl rfl rfl ?_ | refine go_call [] (hc2) rfl rfl rfl rfl ?_ | refine go_call [] (hc3) rfl rfl rfl rfl ?_ | refine go_idx rfl rfl rfl rfl (by omega) hr rfl ?_) <;> conv => whnf) | ((first | refine Or.inl ?_ | refine go_dsplit2 rfl (fun h => ?_) (fun h => ?_) | refine go_loadB ?_ | refine ⟨by kernel_rfl, ?_⟩ | refine go_ret ?_) <;> conv => whnf) | refine go_block ?_ | ((first | refine go_skip ?_ | refine go_exit ?_) <;> conv => whnf) | refine go_true rfl ?_ | refine go_false rfl ?_ | refine go_cond rfl (fun h => ?_) (fun h => ?_) | refine ⟨rfl, ?_⟩ | ((first | refine ⟨trivial, ?_⟩ | refine ⟨le_of_ble rfl, ?_⟩) <;> conv => whnf) | fail
      all_goals first
        | (refine go_next (i + 1) (by omega) (by omega) (ref_st id rfl ⟨rfl, rfl, ⟨rfl, rfl⟩, ⟨?_, rfl⟩, rfl, rfl, next_i (by omega), trivial⟩ ⟨⟨rfl, wavs_imm _⟩, ?_, trivial⟩ (by simp) rfl (by simp))
           · show AV.own _ _ _ = AV.own _ _ _
             rw [hnx, List.append_nil]; try rfl
           · show some _ = some _
             rw [hnx, List.append_nil]; try rfl
           done)
        | (exfalso; have h' := of_decide_eq_false h; omega)
        | (exfalso; have h' := of_decide_eq_true h; omega)
        | (exfalso; rename_i hq; have h' := of_decide_eq_true hq; omega)
        | (exfalso; rename_i hq; have h' := of_decide_eq_false hq; omega)
        | (exfalso; rename_i hq _; have h' := of_decide_eq_true hq; omega)
        | (exfalso; rename_i hq _; have h' := of_decide_eq_false hq; omega)
        | (exfalso; rename_i hq; have h' := of_decide_eq_true h; rw [hw] at h'; have h2 := of_decide_eq_true hq; omega)
        | trace_state

theorem c20 (t : Timetable) (ds : List TripDelay) {i : Nat} {x : Trip} {l : Line} (hg : Good t i x l) (hf : t.fit) (stop : Int) :
    CallOk Try.prog 20 [.imm (.agg t.enc), .imm (.int .i64 (i : Nat)), .imm (.int .i64 stop)] { res := [.imm (.int .i64 (match depOf t ds stop x with | some d => d.time | none => -1))] } := by
  refine callOk_of tyOk Try.func20 rfl rfl (le_of_ble rfl) (le_of_ble rfl) (mutOk_imm rfl _) ?_
  have hlf := hf.1.2.2.2 l (List.mem_of_getElem? hg.on.ln)
  have hd : depOf t ds stop x = if goes l stop then some ⟨x, stopAt x l (plAt l stop).toNat, delOf ds x.id⟩ else none := by unfold depOf; rw [hg.on.ln]
  have hsl : (l.stops.map intRow).length = l.stops.length := List.length_map _
  have hrs := hg.rs
  have hr5 := hg.r5
  have hw : IntKind.i64.wrap (((l.stops.map intRow).length : Int) - 1) = (l.stops.length : Int) - 1 := by rw [hsl]; exact wrap_small (by omega) (by omega)
  have hc1 := c40 hg.on
  have hc2 := c39 l stop hlf.2.1
  change CallOk _ _ _ { res := [.imm (.int .i64 (plAt l stop))] } at hc2
  have hc3 := c41 hg.on
  have hpl := plAt_lt l stop
  cases hgo : goes l stop with
  | true =>
    rw [hgo, if_pos rfl] at hd
    have hgo' := hgo
    unfold goes at hgo'
    simp only [Bool.and_eq_true, decide_eq_true_eq] at hgo'
    have e : ((plAt l stop).toNat : Int) = plAt l stop := Int.toNat_of_nonneg hgo'.1
    have hc4 := c42 hg.on (plAt l stop).toNat (by omega) hlf.2.2
    rw [e] at hc4
    rw [hd]
    repeat' first | refine go_seq ?_ | refine go_region ?_ | refine go_miss rfl rfl rfl ?_ | refine go_undef rfl rfl rfl ?_ | ((first | refine go_op rfl ?_ | refine go_nil ?_ | refine go_hit rfl rfl rfl ?_ | refine go_splitT rfl rfl rfl (fun h => ?_) (fun h => ?_) | refine go_splitF rfl rfl rfl (fun h => ?_) (fun h => ?_) | refine go_pickT rfl ?_ | refine go_pickF rfl ?_ | refine go_pick rfl (fun h => ?_) (fun h => ?_) | refine go_call [] (hc1) rfl rfl rfl rfl ?_ | refine go_call [] (hc2) rfl rfl rfl rfl ?_ | refine go_call [] (hc3) rfl rfl rfl rfl ?_ | refine go_call [] (hc4) rfl rfl rfl rfl ?_) <;> conv => whnf) | ((first | refine go_loadB ?_ | refine ⟨by kernel_rfl, ?_⟩ | refine go_ret ?_) <;> conv => whnf) | ((first | refine go_skip ?_) <;> conv => whnf) | refine go_true rfl ?_ | refine go_false rfl ?_ | refine go_cond rfl (fun h => ?_) (fun h => ?_) | refine ⟨rfl, ?_⟩ | ((first | refine ⟨trivial, ?_⟩ | refine ⟨le_of_ble rfl, ?_⟩) <;> conv => whnf) | fail
    all_goals first
      | exact ret_imm rfl rfl rfl rfl rfl rfl
      | (exfalso; have h' := of_decide_eq_false h; omega)
      | (exfalso; have h' := of_decide_eq_true h; omega)
      | (exfalso; rename_i hq; have h' := of_decide_eq_true hq; omega)
      | (exfalso; rename_i hq; have h' := of_decide_eq_false hq; omega)
      | (exfalso; rename_i hq _; have h' := of_decide_eq_true hq; omega)
      | (exfalso; rename_i hq _; have h' := of_decide_eq_false hq; omega)
      | (exfalso; have h' := of_decide_eq_true h; rw [hw] at h'; omega)
      | trace_state
  | false =>
    rw [hgo, if_neg (by simp)] at hd
    have hgo' := hgo
    unfold goes at hgo'
    simp only [Bool.and_eq_false_iff, decide_eq_false_iff_not] at hgo'
    rw [hd]
    repeat' first | refine go_seq ?_ | refine go_region ?_ | refine go_miss rfl rfl rfl ?_ | refine go_undef rfl rfl rfl ?_ | ((first | refine go_op rfl ?_ | refine go_nil ?_ | refine go_hit rfl rfl rfl ?_ | refine go_splitT rfl rfl rfl (fun h => ?_) (fun h => ?_) | refine go_splitF rfl rfl rfl (fun h => ?_) (fun h => ?_) | refine go_pickT rfl ?_ | refine go_pickF rfl ?_ | refine go_pick rfl (fun h => ?_) (fun h => ?_) | refine go_call [] (hc1) rfl rfl rfl rfl ?_ | refine go_call [] (hc2) rfl rfl rfl rfl ?_ | refine go_call [] (hc3) rfl rfl rfl rfl ?_) <;> conv => whnf) | ((first | refine go_loadB ?_ | refine ⟨by kernel_rfl, ?_⟩ | refine go_ret ?_) <;> conv => whnf) | ((first | refine go_skip ?_) <;> conv => whnf) | refine go_true rfl ?_ | refine go_false rfl ?_ | refine go_cond rfl (fun h => ?_) (fun h => ?_) | refine ⟨rfl, ?_⟩ | ((first | refine ⟨trivial, ?_⟩ | refine ⟨le_of_ble rfl, ?_⟩) <;> conv => whnf) | fail
    all_goals first
      | exact ret_imm rfl rfl rfl rfl rfl rfl
      | (exfalso; have h' := of_decide_eq_false h; omega)
      | (exfalso; have h' := of_decide_eq_true h; omega)
      | (exfalso; rename_i hq; have h' := of_decide_eq_true hq; omega)
      | (exfalso; rename_i hq; have h' := of_decide_eq_false hq; omega)
      | (exfalso; rename_i hq _; have h' := of_decide_eq_true hq; omega)
      | (exfalso; rename_i hq _; have h' := of_decide_eq_false hq; omega)
      | (exfalso; have h' := of_decide_eq_false h; rw [hw] at h'; rename_i hq; have h2 := of_decide_eq_false hq; omega)
      | trace_state


def nbOk (t : Timetable) (ds : List TripDelay) (stop now : Int) : Bool := delaysOk t ds && (inR stop 0 ((t.net.stops.length : Int) - 1) && timeOk now)
theorem c25 (t : Timetable) (hf : t.fit) (ds : List TripDelay) (hl : ds.length ≤ 1048576) (stop now : Int) : CallOk Try.prog 25 [.imm (.agg t.enc), .imm (.list (ds.map TripDelay.enc)), .imm (.int .i64 stop), .imm (.int .i64 now)] { res := [.imm (.bool (nbOk t ds stop now))] } := by
  refine callOk_of tyOk Try.func25 rfl rfl (le_of_ble rfl) (le_of_ble rfl) (mutOk_imm rfl _) ?_
  have hc0 := c46 t hf ds hl
  have hc1 := c47 t.net stop
  have hc2 := c48 now
  unfold nbOk
  repeat' first | refine go_seq ?_ | refine go_region ?_ | refine go_miss rfl rfl rfl ?_ | refine go_undef rfl rfl rfl ?_ | ((first | refine go_op rfl ?_ | refine go_nil ?_ | refine go_hit rfl rfl rfl ?_ | refine go_splitT rfl rfl rfl (fun h => ?_) (fun h => ?_) | refine go_splitF rfl rfl rfl (fun h => ?_) (fun h => ?_) | refine go_pickT rfl ?_ | refine go_pickF rfl ?_ | refine go_pick rfl (fun h => ?_) (fun h => ?_) | refine go_call [] (hc0) rfl rfl rfl rfl ?_ | refine go_call [] (hc1) rfl rfl rfl rfl ?_ | refine go_call [] (hc2) rfl rfl rfl rfl ?_) <;> conv => whnf) | ((first | refine go_loadB ?_ | refine ⟨by kernel_rfl, ?_⟩ | refine go_ret ?_) <;> conv => whnf) | ((first | refine go_skip ?_) <;> conv => whnf) | refine ⟨rfl, ?_⟩ | ((first | refine ⟨trivial, ?_⟩ | refine ⟨le_of_ble rfl, ?_⟩) <;> conv => whnf) | fail
  all_goals
    refine ret_imm rfl rfl rfl rfl ?_ rfl
    simp_all
theorem c19 (t : Timetable) (hf : t.fit) (ds : List TripDelay) (hl : ds.length ≤ 1048576) (stop : Int) : CallOk Try.prog 19 [.imm (.agg t.enc), .imm (.list (ds.map TripDelay.enc)), .imm (.int .i64 stop)] { res := [.imm (.bool (delaysOk t ds && inR stop 0 ((t.net.stops.length : Int) - 1)))] } := by
  refine callOk_of tyOk Try.func19 rfl rfl (le_of_ble rfl) (le_of_ble rfl) (mutOk_imm rfl _) ?_
  have hc0 := c37 t hf ds hl
  have hsl : ((t.net.stops.map strRow).length : Int) = t.net.stops.length := by rw [List.length_map]
  have hw : IntKind.i64.wrap (((t.net.stops.map strRow).length : Int) - 1) = (t.net.stops.length : Int) - 1 := by rw [hsl]; have := hf.1.1; exact wrap_small (by omega) (by omega)
  have hc1 := c38 stop 0 (IntKind.i64.wrap (((t.net.stops.map strRow).length : Int) - 1))
  repeat' first | refine go_seq ?_ | refine go_region ?_ | refine go_miss rfl rfl rfl ?_ | refine go_undef rfl rfl rfl ?_ | ((first | refine go_op rfl ?_ | refine go_nil ?_ | refine go_hit rfl rfl rfl ?_ | refine go_splitT rfl rfl rfl (fun h => ?_) (fun h => ?_) | refine go_splitF rfl rfl rfl (fun h => ?_) (fun h => ?_) | refine go_pickT rfl ?_ | refine go_pickF rfl ?_ | refine go_pick rfl (fun h => ?_) (fun h => ?_) | refine go_call [] (hc0) rfl rfl rfl rfl ?_ | refine go_call [] (hc1) rfl rfl rfl rfl ?_) <;> conv => whnf) | ((first | refine go_loadB ?_ | refine ⟨by kernel_rfl, ?_⟩ | refine go_ret ?_) <;> conv => whnf) | ((first | refine go_skip ?_) <;> conv => whnf) | refine ⟨rfl, ?_⟩ | ((first | refine ⟨trivial, ?_⟩ | refine ⟨le_of_ble rfl, ?_⟩) <;> conv => whnf) | fail
  all_goals
    refine ret_imm rfl rfl rfl rfl ?_ rfl
    simp_all

structure BoardRow where
  time : Int
  delay : Int
  line : ByteArray
  dest : ByteArray

def BoardRow.enc (v : BoardRow) : List D := [.int .i64 v.time, .int .i64 v.delay, .str v.line, .str v.dest]
def BoardRow.ok (v : BoardRow) : Prop := i64 v.time ∧ i64 v.delay ∧ v.line.size ≤ maxLen ∧ v.dest.size ≤ maxLen

theorem boardRow_gr (xs : List BoardRow) : ∀ x ∈ xs.map BoardRow.enc, x.all D.gr = true := by
  intro x hx
  obtain ⟨v, _, rfl⟩ := List.mem_map.1 hx
  rfl
theorem boardRow_one (xs : List BoardRow) : (xs.map BoardRow.enc).all (fun r => r.all D.one) = true := by
  simp only [List.all_map, List.all_eq_true]
  intro _ _
  rfl
theorem boardRow_one' (xs : List BoardRow) : ∀ r ∈ xs.map BoardRow.enc, r.length = 4 ∧ r.all D.one = true := by
  intro r hr
  obtain ⟨v, _, rfl⟩ := List.mem_map.1 hr
  exact ⟨rfl, rfl⟩
theorem boardRow_view (xs : List BoardRow) : ((xs.map BoardRow.enc).drop 0).take (xs.map BoardRow.enc).length = xs.map BoardRow.enc := by rw [List.drop_zero, List.take_length]

def BoardRow.beq (v w : BoardRow) : Bool := decide (v.time = w.time) && decide (v.delay = w.delay) && (v.line == w.line) && (v.dest == w.dest)

theorem boardRow_self (v : BoardRow) : v.beq v = true := by simp [BoardRow.beq, str_self]


end Go.Proofs.Ytingoclokmcmhaa

