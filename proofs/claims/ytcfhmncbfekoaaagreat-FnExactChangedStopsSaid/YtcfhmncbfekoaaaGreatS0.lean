/- The calls at a stop: plain facts. -/
import Derived.Test.YtcfhmncbfekoaaaGreatV2
import Derived.Test.YtcfhmncbfekoaaaGreatT3
import Derived.Test.YtcfhmncbfekoaaaGreatAmP
namespace Go.Proofs.YtcfhmncbfekoaaaGreat
open Go Go.Am Go.Proofs

theorem idxF_spec {α : Type} {p : α → Bool} {xs : List α} (h : 0 ≤ idxF p xs) : ∃ (i : Nat) (x : α), idxF p xs = i ∧ xs[i]? = some x ∧ p x = true := by
  unfold idxF at h ⊢
  split at h
  · rename_i ha
    rw [if_pos ha]
    have hlt : xs.findIdx p < xs.length := List.findIdx_lt_length_of_exists (List.any_eq_true.1 ha)
    exact ⟨_, _, rfl, List.getElem?_eq_getElem hlt, List.findIdx_getElem⟩
  · omega

theorem tripAt_of {t : Timetable} (h : ttOk t = true) {j : Nat} {x : Trip} (hx : t.trips[j]? = some x) : tripAtS t j x = true := by
  unfold ttOk tripsOk at h
  simp only [Bool.and_eq_true] at h
  have := h.2.2
  rw [trips_eq] at this
  exact allI_iff.1 this j x hx

/-- What is so of a trip of a valid timetable and its line. -/
structure Good (t : Timetable) (i : Nat) (x : Trip) (l : Line) : Prop where
  on : OnLine t i x l
  st : timeOk x.start = true
  rs : l.runs.length + 1 = l.stops.length
  r5 : l.runs.length ≤ 5
theorem good_of {t : Timetable} (h : ttOk t = true) {i : Nat} {x : Trip} (hx : t.trips[i]? = some x) : ∃ l, Good t i x l := by
  have h1 := tripAt_of h hx
  unfold tripAtS at h1
  simp only [Bool.and_eq_true] at h1
  obtain ⟨h0, l, h2, h3, _, _⟩ := line_at h1.2.1
  have hn : netOk t.net = true := by unfold ttOk at h; simp only [Bool.and_eq_true] at h; exact h.1
  unfold netOk at hn
  simp only [Bool.and_eq_true] at hn
  have hl := List.all_eq_true.1 hn.2 l (List.mem_of_getElem? h3)
  unfold lineOk at hl
  simp only [Bool.and_eq_true, decide_eq_true_eq] at hl
  have hs := (inR_iff _ _ _).1 hl.1.1.1
  exact ⟨l, ⟨⟨hx, h3, h0⟩, h1.2.2.1, by omega, by omega⟩⟩

/-- A call: when, and the trip's number. -/
structure Cal where
  at' : Int
  id : Int
def Cal.enc (v : Cal) : List D := [.int .i64 v.at', .int .i64 v.id]
instance : Inhabited Cal := ⟨⟨0, 0⟩⟩
theorem cal_eq {x y : Cal} : x = y ↔ x.at' = y.at' ∧ x.id = y.id := by
  cases x; cases y; simp
instance : DecidableEq Cal := fun _ _ => decidable_of_iff _ cal_eq.symm
theorem cal_gr (xs : List Cal) : ∀ x ∈ xs.map Cal.enc, x.all D.gr = true := by
  intro x hx
  obtain ⟨_, _, rfl⟩ := List.mem_map.1 hx
  rfl
theorem cal_one (xs : List Cal) : (xs.map Cal.enc).all (fun r => r.all D.one) = true := by
  simp only [List.all_map, List.all_eq_true]
  intro _ _
  rfl
theorem cal_pl (x : Cal) : ∀ d ∈ x.enc, d.pl = true := by
  intro d hd
  simp only [Cal.enc, List.mem_cons, List.not_mem_nil, or_false] at hd
  rcases hd with rfl | rfl <;> rfl
def calC (x y : Cal) : Int := if x.at' < y.at' then -1 else if y.at' < x.at' then 1 else if x.id < y.id then -1 else if y.id < x.id then 1 else 0
def calLt (x y : Cal) : Bool := decide (x.at' < y.at') || (decide (x.at' = y.at') && decide (x.id < y.id))
theorem calLt_iff (x y : Cal) : calLt x y = true ↔ x.at' < y.at' ∨ (x.at' = y.at' ∧ x.id < y.id) := by
  unfold calLt
  simp only [decide_eq_true_eq, Bool.or_eq_true, Bool.and_eq_true]
theorem calLt_not (x y : Cal) : calLt x y = false ↔ ¬ (x.at' < y.at' ∨ (x.at' = y.at' ∧ x.id < y.id)) := by
  rw [← calLt_iff, Bool.not_eq_true]
theorem calWeak : Weak calLt := by
  refine ⟨fun x y h => ?_, fun x y z h1 h2 => ?_⟩
  · rw [calLt_iff] at h
    rw [calLt_not]
    omega
  · rw [calLt_not] at h1 h2 ⊢
    omega
theorem cal_anti (x y : Cal) (h1 : calLt x y = false) (h2 : calLt y x = false) : x = y := by
  rw [calLt_not] at h1 h2
  rw [cal_eq]
  omega
theorem calLt_eq : Go.Proofs.ltOf calC = calLt := by
  funext x y
  unfold Go.Proofs.ltOf calC calLt
  generalize x.at' = a
  generalize y.at' = b
  generalize x.id = c
  generalize y.id = e
  by_cases h1 : a < b
  · simp [h1]
  · by_cases h2 : b < a
    · have h3 : ¬ a = b := by omega
      simp [h1, h2, h3]
    · have h3 : a = b := by omega
      subst h3
      by_cases h4 : c < e
      · simp [h4]
      · by_cases h5 : e < c
        · simp [h4, h5]
        · simp [h4, h5]

def plAt (l : Line) (stop : Int) : Int := idxF (pInt stop) l.stops
theorem plAt_lt (l : Line) (stop : Int) : plAt l stop < l.stops.length ∨ plAt l stop = -1 := by
  by_cases h : 0 ≤ plAt l stop
  · obtain ⟨i, x, h1, h2, _⟩ := idxF_spec h
    have := lt_of_at h2
    left
    unfold plAt at *
    omega
  · right
    unfold plAt idxF at *
    split at h
    · omega
    · rename_i hn
      rw [if_neg hn]
def calOf (t : Timetable) (stop : Int) (x : Trip) : Option Cal :=
  match t.net.lines[x.line.toNat]? with
  | some l => if 0 ≤ plAt l stop then some ⟨stopAt x l (plAt l stop).toNat, x.id⟩ else none
  | none => none
def calsN (t : Timetable) (stop : Int) (i : Nat) : List Cal := (t.trips.take i).filterMap (calOf t stop)
def cals (t : Timetable) (stop : Int) : List Cal := t.trips.filterMap (calOf t stop)
theorem calsN_next {t : Timetable} {i : Nat} {x : Trip} (stop : Int) (h : t.trips[i]? = some x) : calsN t stop (i + 1) = calsN t stop i ++ (match calOf t stop x with | some d => [d] | none => []) := by
  unfold calsN
  rw [List.take_add_one, h]
  simp only [Option.toList_some, List.filterMap_append]
  congr 1
  cases hd : calOf t stop x <;> simp [hd]
theorem calsN_len (t : Timetable) (stop : Int) (i : Nat) : (calsN t stop i).length ≤ i := by
  unfold calsN
  exact Nat.le_trans (List.length_filterMap_le _ _) (by rw [List.length_take]; omega)
theorem cals_all {t : Timetable} {i : Nat} (stop : Int) (h : t.trips.length ≤ i) : calsN t stop i = cals t stop := by
  unfold calsN cals
  rw [List.take_of_length_le h]
theorem cals_len (t : Timetable) (stop : Int) : (cals t stop).length ≤ t.trips.length := List.length_filterMap_le _ _

/-- The reference's list: number and time of each. -/
def flat2 : List Cal → List Int
  | [] => []
  | c :: cs => c.id :: c.at' :: flat2 cs
theorem flat2_append : ∀ (a b : List Cal), flat2 (a ++ b) = flat2 a ++ flat2 b
  | [], _ => rfl
  | c :: a, b => by simp [flat2, flat2_append a b]
theorem flat2_len : ∀ (a : List Cal), (flat2 a).length = 2 * a.length
  | [] => rfl
  | c :: a => by simp [flat2, flat2_len a]; omega
theorem flat2_inj : ∀ {a b : List Cal}, flat2 a = flat2 b → a = b
  | [], [], _ => rfl
  | [], _ :: _, h => by simp [flat2] at h
  | _ :: _, [], h => by simp [flat2] at h
  | c :: a, d :: b, h => by
    simp only [flat2, List.cons.injEq] at h
    rw [cal_eq.2 ⟨h.2.1, h.1⟩, flat2_inj h.2.2]

theorem cal_trip_next {t : Timetable} (hok : ttOk t = true) {i : Nat} {x y : Trip} (hx : t.trips[i]? = some x) (hy : t.trips[i + 1]? = some y) : x.id < y.id := by
  have h2 : tripsOk t = true := by unfold ttOk at hok; simp only [Bool.and_eq_true] at hok; exact hok.2
  unfold tripsOk at h2
  simp only [Bool.and_eq_true] at h2
  have h3 := (allI_iff.1 h2.2) _ _ hy
  have hp : prevId t (i + 1) = x.id := by show (match t.trips[i]? with | some y => y.id | none => 0) = x.id; rw [hx]
  unfold tripAt at h3
  rw [hp] at h3
  simp only [Bool.and_eq_true, decide_eq_true_eq] at h3
  exact h3.1
theorem cal_trips_up {t : Timetable} (hok : ttOk t = true) : ∀ (n i : Nat) {x y : Trip}, t.trips[i]? = some x → t.trips[i + 1 + n]? = some y → x.id < y.id
  | 0, i, x, y, hx, hy => cal_trip_next hok hx hy
  | n + 1, i, x, y, hx, hy => by
    have hlt := lt_of_at hy
    obtain ⟨z, hz⟩ : ∃ z, t.trips[i + 1 + n]? = some z := ⟨_, List.getElem?_eq_getElem (by omega)⟩
    have h1 := cal_trips_up hok n i hx hz
    have h2 := cal_trip_next hok hz hy
    omega
theorem cal_trips_inc {t : Timetable} (hok : ttOk t = true) : t.trips.Pairwise fun a b => a.id < b.id := by
  refine List.pairwise_iff_getElem.2 fun i j hi hj hij => ?_
  refine cal_trips_up hok (j - i - 1) i (List.getElem?_eq_getElem hi) ?_
  rw [show i + 1 + (j - i - 1) = j from by omega]
  exact List.getElem?_eq_getElem hj
theorem calOf_id {t : Timetable} {stop : Int} {x : Trip} {a : Cal} (h : calOf t stop x = some a) : a.id = x.id := by
  unfold calOf at h
  split at h
  · split at h
    · injection h with h
      rw [← h]
    · cases h
  · cases h
theorem cals_inc {t : Timetable} (hok : ttOk t = true) (stop : Int) : (cals t stop).Pairwise fun a b => a.id < b.id := by
  unfold cals
  refine List.Pairwise.filterMap _ (fun a a' h b hb b' hb' => ?_) (cal_trips_inc hok)
  rw [calOf_id hb, calOf_id hb']
  exact h
theorem cal_ext : ∀ {a b : List Cal}, a.Pairwise (fun x y => x.id < y.id) → b.Pairwise (fun x y => x.id < y.id) → (∀ c, c ∈ a ↔ c ∈ b) → a = b
  | [], [], _, _, _ => rfl
  | [], y :: b, _, _, h => absurd ((h y).2 (by simp)) (by simp)
  | x :: a, [], _, _, h => absurd ((h x).1 (by simp)) (by simp)
  | x :: a, y :: b, ha, hb, h => by
    obtain ⟨ha1, ha2⟩ := List.pairwise_cons.1 ha
    obtain ⟨hb1, hb2⟩ := List.pairwise_cons.1 hb
    have hxy : x = y := by
      rcases List.mem_cons.1 ((h x).1 (by simp)) with h1 | h1
      · exact h1
      · rcases List.mem_cons.1 ((h y).2 (by simp)) with h2 | h2
        · exact h2.symm
        · have := hb1 x h1
          have := ha1 y h2
          omega
    subst hxy
    have ht : a = b := cal_ext ha2 hb2 fun c => by
      have := h c
      simp only [List.mem_cons] at this
      constructor
      · intro hc
        rcases this.1 (.inr hc) with h1 | h1
        · subst h1
          have := ha1 c hc
          omega
        · exact h1
      · intro hc
        rcases this.2 (.inr hc) with h1 | h1
        · subst h1
          have := hb1 c hc
          omega
        · exact h1
    rw [ht]
/-- Sorted by time or in the order of the numbers: the same lists are the same. -/
theorem cals_same {t t' : Timetable} (hok : ttOk t = true) (hok' : ttOk t' = true) (stop : Int) : decide (sortL calLt (cals t stop) = sortL calLt (cals t' stop)) = decide (flat2 (cals t stop) = flat2 (cals t' stop)) := by
  rw [decide_eq_decide]
  constructor
  · intro h
    have p : (cals t stop).Perm (cals t' stop) := (sortL_perm calLt _).symm.trans (by rw [h]; exact sortL_perm calLt _)
    rw [cal_ext (cals_inc hok stop) (cals_inc hok' stop) fun c => p.mem_iff]
  · intro h
    rw [flat2_inj h]

/-! Which stops have changed. -/

def chgB (t t' : Timetable) (s : Nat) : Bool := !decide (flat2 (cals t (s : Int)) = flat2 (cals t' (s : Int)))
def chgS (t t' : Timetable) (i : Nat) : List Int := ((List.range i).filter (chgB t t')).map fun (s : Nat) => (s : Int)
theorem chgS_next (t t' : Timetable) (i : Nat) : chgS t t' (i + 1) = chgS t t' i ++ (if chgB t t' i then [(i : Int)] else []) := by
  unfold chgS
  rw [List.range_succ, List.filter_append, List.map_append]
  congr 1
  cases hb : chgB t t' i <;> simp [hb]
theorem chgS_len (t t' : Timetable) (i : Nat) : (chgS t t' i).length ≤ i := by
  unfold chgS
  rw [List.length_map]
  have := List.length_filter_le (chgB t t') (List.range i)
  rw [List.length_range] at this
  exact this
end Go.Proofs.YtcfhmncbfekoaaaGreat

