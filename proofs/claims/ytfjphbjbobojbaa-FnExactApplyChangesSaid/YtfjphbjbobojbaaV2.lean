/- Changes applied to lists of trips: plain facts. -/
import Derived.Test.YtfjphbjbobojbaaN10
namespace Go.Proofs.Ytfjphbjbobojbaa
open Go Go.Am

def Trip.beq (v w : Trip) : Bool := decide (v.id = w.id) && (decide (v.line = w.line) && decide (v.start = w.start))
theorem Trip.beq_iff {v w : Trip} : v.beq w = true ↔ v = w := by
  cases v; cases w
  simp [Trip.beq]
def ltB (x y : Trip) : Bool := decide (y.id < x.id)
def insAt (xs : List Trip) (x : Trip) : Nat := (xs.takeWhile (ltB x)).length
def insT (xs : List Trip) (x : Trip) : List Trip := xs.take (insAt xs x) ++ x :: xs.drop (insAt xs x)
def findT (xs : List Trip) (k : Int) : Int := idxF (fun y => decide (y.id = k)) xs
def placeT (xs : List Trip) (x : Trip) : Int := idxF (fun y => x.beq y) xs
def delAt (xs : List Trip) (i : Nat) : List Trip := xs.take i ++ xs.drop (i + 1)
def setS (xs : List Trip) (i : Nat) (s : Int) : List Trip := match xs[i]? with | some y => xs.set i ⟨y.id, y.line, s⟩ | none => xs

def stepC (out : List Trip) (c : Change) : Option (List Trip) :=
  if c.kind = 1 ∧ c.to = 0 ∧ findT out c.trip.id < 0 then some (insT out c.trip)
  else if c.kind = 2 ∧ c.to = 0 ∧ 0 ≤ placeT out c.trip then some (delAt out (placeT out c.trip).toNat)
  else if c.kind = 3 ∧ c.to ≠ c.trip.start ∧ 0 ≤ placeT out c.trip then some (setS out (placeT out c.trip).toNat c.to)
  else none
def tooLow (last : Option Int) (c : Change) : Bool := match last with | some l => decide (c.trip.id ≤ l) | none => false
def foldC : List Change → List Trip → Option Int → Option (List Trip)
  | [], out, _ => some out
  | c :: cs, out, last => if tooLow last c then none else match stepC out c with | none => none | some out' => foldC cs out' (some c.trip.id)

theorem insAt_le (xs : List Trip) (x : Trip) : insAt xs x ≤ xs.length := by
  unfold insAt
  exact (List.takeWhile_prefix _).length_le
theorem idx_pos {α : Type} {p : α → Bool} {xs : List α} : 0 ≤ idxF p xs ↔ ∃ y ∈ xs, p y = true := by
  have h := idxF_ge p xs
  rw [← List.any_eq_true, ← h]
  simp
theorem findT_neg {xs : List Trip} {k : Int} : findT xs k < 0 ↔ ∀ y ∈ xs, y.id ≠ k := by
  have h := idx_pos (p := fun y : Trip => decide (y.id = k)) (xs := xs)
  unfold findT
  constructor
  · intro h1 y hy e
    have := h.2 ⟨y, hy, by simpa using e⟩
    omega
  · intro h1
    by_cases h2 : 0 ≤ idxF (fun y : Trip => decide (y.id = k)) xs
    · obtain ⟨y, hy, he⟩ := h.1 h2
      exact absurd (by simpa using he) (h1 y hy)
    · omega
theorem placeT_pos {xs : List Trip} {x : Trip} : 0 ≤ placeT xs x ↔ x ∈ xs := by
  unfold placeT
  rw [idx_pos]
  constructor
  · rintro ⟨y, hy, he⟩
    rw [Trip.beq_iff.1 he]
    exact hy
  · intro hx
    exact ⟨x, hx, Trip.beq_iff.2 rfl⟩

def Asc (xs : List Trip) : Prop := xs.Pairwise fun a b => a.id < b.id
theorem asc_one {xs : List Trip} (h : Asc xs) {i j : Nat} {x y : Trip} (hi : xs[i]? = some x) (hj : xs[j]? = some y) (he : x.id = y.id) : i = j := by
  have key : ∀ (a b : Nat) (u v : Trip), xs[a]? = some u → xs[b]? = some v → a < b → u.id < v.id := fun a b u v ha hb hab => by
    have h1 := List.getElem?_eq_some_iff.1 ha
    have h2 := List.getElem?_eq_some_iff.1 hb
    obtain ⟨l1, e1⟩ := h1
    obtain ⟨l2, e2⟩ := h2
    have := List.pairwise_iff_getElem.1 h a b l1 l2 hab
    rw [e1, e2] at this
    exact this
  rcases Nat.lt_trichotomy i j with h1 | h1 | h1
  · have := key i j x y hi hj h1; omega
  · exact h1
  · have := key j i y x hj hi h1; omega
/-- Where a trip stands, looked for by its number or whole. -/
theorem asc_at {xs : List Trip} (h : Asc xs) {i : Nat} {x : Trip} (hi : xs[i]? = some x) : findT xs x.id = i ∧ placeT xs x = i := by
  have hno : ∀ p : Trip → Bool, (∀ y, p y = true → y.id = x.id) → (xs.take i).any p = false := fun p hp => by
    rw [List.any_eq_false]
    intro y hy hpy
    obtain ⟨j, hj⟩ := List.getElem?_of_mem hy
    rw [List.getElem?_take] at hj
    split at hj
    · rename_i hlt
      have := asc_one h hi hj (hp y hpy).symm
      omega
    · cases hj
  exact ⟨idxF_hit hi (by simp) (hno _ (fun y hy => by simpa using hy)), idxF_hit hi (Trip.beq_iff.2 rfl) (hno _ (fun y hy => by rw [Trip.beq_iff.1 hy]))⟩

/-- What the trips that are worked on keep of those before: beyond the last number they are the same. -/
structure SInv (t0 out : List Trip) (last : Option Int) : Prop where
  asc : Asc out
  mem : ∀ y : Trip, (∀ l, last = some l → l < y.id) → (y ∈ out ↔ y ∈ t0)

theorem SInv.find {t0 out : List Trip} {last : Option Int} (h : SInv t0 out last) {k : Int} (hk : ∀ l, last = some l → l < k) : findT t0 k < 0 ↔ findT out k < 0 := by
  rw [findT_neg, findT_neg]
  constructor
  · intro h1 y hy e
    exact h1 y ((h.mem y (fun l hl => by rw [e]; exact hk l hl)).1 hy) e
  · intro h1 y hy e
    exact h1 y ((h.mem y (fun l hl => by rw [e]; exact hk l hl)).2 hy) e
def sameB (t0 : List Trip) (x : Trip) : Bool := decide (0 ≤ findT t0 x.id) && (match t0[(findT t0 x.id).toNat]? with | some y => y.beq x | none => false)
theorem sameB_iff {t0 : List Trip} (h0 : Asc t0) {x : Trip} : sameB t0 x = true ↔ x ∈ t0 := by
  unfold sameB
  rw [Bool.and_eq_true, decide_eq_true_eq]
  constructor
  · rintro ⟨_, h2⟩
    split at h2
    · rename_i y hy
      rw [← Trip.beq_iff.1 h2]
      exact List.mem_of_getElem? hy
    · cases h2
  · intro hx
    obtain ⟨i, hi⟩ := List.getElem?_of_mem hx
    have := (asc_at h0 hi).1
    rw [this]
    refine ⟨by omega, ?_⟩
    rw [Int.toNat_natCast, hi]
    exact Trip.beq_iff.2 rfl
theorem SInv.same {t0 out : List Trip} {last : Option Int} (h : SInv t0 out last) (h0 : Asc t0) {x : Trip} (hk : ∀ l, last = some l → l < x.id) : sameB t0 x = true ↔ 0 ≤ placeT out x := by
  rw [sameB_iff h0, placeT_pos, h.mem x hk]
theorem SInv.place {t0 out : List Trip} {last : Option Int} (h : SInv t0 out last) {x : Trip} (hx : 0 ≤ placeT out x) : ∃ i : Nat, out[i]? = some x ∧ findT out x.id = i ∧ placeT out x = i := by
  obtain ⟨i, hi⟩ := List.getElem?_of_mem (placeT_pos.1 hx)
  exact ⟨i, hi, asc_at h.asc hi⟩

theorem mem_insT {xs : List Trip} {x y : Trip} : y ∈ insT xs x ↔ y = x ∨ y ∈ xs := by
  unfold insT
  rw [List.mem_append, List.mem_cons]
  have h := List.take_append_drop (insAt xs x) xs
  constructor
  · rintro (h1 | h1 | h1)
    · exact .inr (List.mem_of_mem_take h1)
    · exact .inl h1
    · exact .inr (List.mem_of_mem_drop h1)
  · rintro (h1 | h1)
    · exact .inr (.inl h1)
    · rw [← h, List.mem_append] at h1
      rcases h1 with h1 | h1
      · exact .inl h1
      · exact .inr (.inr h1)
theorem tw_mem {α : Type} {p : α → Bool} : ∀ (xs : List α), ∀ y ∈ xs.takeWhile p, p y = true
  | [], y, h => by simp at h
  | x :: xs, y, h => by
    rw [List.takeWhile_cons] at h
    split at h
    · rename_i hp
      rcases List.mem_cons.1 h with rfl | h
      · exact hp
      · exact tw_mem xs y h
    · cases h
theorem dw_head {α : Type} {p : α → Bool} : ∀ (xs : List α) (z : α) (zs : List α), xs.dropWhile p = z :: zs → p z = false
  | [], z, zs, h => by simp at h
  | x :: xs, z, zs, h => by
    rw [List.dropWhile_cons] at h
    split at h
    · exact dw_head xs z zs h
    · rename_i hp
      injection h with h1 h2
      rw [← h1]
      simpa using hp
theorem ins_take (xs : List Trip) (x : Trip) : ∀ y ∈ xs.take (insAt xs x), y.id < x.id := by
  have e : xs.take (insAt xs x) = xs.takeWhile (ltB x) := by
    unfold insAt
    exact (List.prefix_iff_eq_take.1 (List.takeWhile_prefix _)).symm
  rw [e]
  intro y hy
  have := tw_mem xs y hy
  simpa [ltB] using this
theorem ins_drop {xs : List Trip} (h : Asc xs) (x : Trip) (hne : ∀ y ∈ xs, y.id ≠ x.id) : ∀ y ∈ xs.drop (insAt xs x), x.id < y.id := by
  have e : xs.drop (insAt xs x) = xs.dropWhile (ltB x) := by
    have h1 := List.takeWhile_append_dropWhile (p := ltB x) (l := xs)
    have h2 : xs.drop (insAt xs x) = (xs.takeWhile (ltB x) ++ xs.dropWhile (ltB x)).drop (xs.takeWhile (ltB x)).length := by rw [h1]; rfl
    rw [h2, List.drop_left]
  intro y hy
  have hm := List.mem_of_mem_drop hy
  rw [e] at hy
  have hs : Asc (xs.dropWhile (ltB x)) := h.sublist (List.dropWhile_sublist _)
  cases hd : xs.dropWhile (ltB x) with
  | nil => rw [hd] at hy; cases hy
  | cons z zs =>
    have hz : ltB x z = false := dw_head xs z zs hd
    have hzm : z ∈ xs := (List.dropWhile_sublist (ltB x)).subset (by rw [hd]; simp)
    have hzx : x.id < z.id := by
      have h1 : ¬ z.id < x.id := by simpa [ltB] using hz
      have := hne z hzm
      omega
    rw [hd] at hy hs
    rcases List.mem_cons.1 hy with rfl | hy
    · exact hzx
    · have := (List.pairwise_cons.1 hs).1 y hy
      omega
theorem asc_ins {xs : List Trip} (h : Asc xs) (x : Trip) (hne : ∀ y ∈ xs, y.id ≠ x.id) : Asc (insT xs x) := by
  unfold insT Asc
  rw [List.pairwise_append]
  refine ⟨h.sublist (List.take_sublist _ _), ?_, ?_⟩
  · rw [List.pairwise_cons]
    exact ⟨ins_drop h x hne, h.sublist (List.drop_sublist _ _)⟩
  · intro a ha b hb
    have h1 := ins_take xs x a ha
    rcases List.mem_cons.1 hb with rfl | hb
    · exact h1
    · have := ins_drop h x hne b hb
      omega
theorem asc_del {xs : List Trip} (h : Asc xs) (i : Nat) : Asc (delAt xs i) := by
  refine h.sublist ?_
  unfold delAt
  have h1 : (xs.drop (i + 1)).Sublist (xs.drop i) := by
    rw [← List.drop_drop]
    exact List.drop_sublist _ _
  have := List.Sublist.append (List.Sublist.refl (xs.take i)) h1
  rwa [List.take_append_drop] at this
theorem mem_del {xs : List Trip} {i : Nat} {x y : Trip} (hi : xs[i]? = some x) (hne : y ≠ x) : y ∈ delAt xs i ↔ y ∈ xs := by
  have hlt := (List.getElem?_eq_some_iff.1 hi).1
  have hx := (List.getElem?_eq_some_iff.1 hi).2
  have e : xs = xs.take i ++ x :: xs.drop (i + 1) := by
    conv => lhs; rw [← List.take_append_drop i xs, List.drop_eq_getElem_cons hlt, hx]
  constructor
  · intro h
    unfold delAt at h
    rcases List.mem_append.1 h with h | h
    · exact List.mem_of_mem_take h
    · exact List.mem_of_mem_drop h
  · intro h
    rw [e] at h
    unfold delAt
    rcases List.mem_append.1 h with h | h
    · exact List.mem_append_left _ h
    · rcases List.mem_cons.1 h with h | h
      · exact absurd h hne
      · exact List.mem_append_right _ h
theorem setS_at {xs : List Trip} {i : Nat} {x : Trip} (hi : xs[i]? = some x) (s : Int) : setS xs i s = xs.set i ⟨x.id, x.line, s⟩ := by
  unfold setS
  rw [hi]
theorem setS_len (xs : List Trip) (i : Nat) (s : Int) : (setS xs i s).length = xs.length := by
  unfold setS
  split <;> simp
theorem asc_set {xs : List Trip} (h : Asc xs) {i : Nat} {x : Trip} (hi : xs[i]? = some x) (s : Int) : Asc (setS xs i s) := by
  rw [setS_at hi]
  have hx := List.getElem?_eq_some_iff.1 hi
  obtain ⟨hlt, hx⟩ := hx
  unfold Asc
  rw [List.pairwise_iff_getElem]
  intro a b ha hb hab
  have hid : ∀ (k : Nat) (hk : k < (xs.set i ⟨x.id, x.line, s⟩).length), ((xs.set i ⟨x.id, x.line, s⟩)[k]).id = (xs[k]'(by simpa using hk)).id := fun k hk => by
    rw [List.getElem_set]
    split
    · rename_i e; subst e; simp [hx]
    · rfl
  rw [hid a ha, hid b hb]
  exact List.pairwise_iff_getElem.1 h a b _ _ hab
theorem mem_set {xs : List Trip} {i : Nat} {x y : Trip} (hi : xs[i]? = some x) (s : Int) (hne : y.id ≠ x.id) : y ∈ setS xs i s ↔ y ∈ xs := by
  rw [setS_at hi]
  have hx := List.getElem?_eq_some_iff.1 hi
  obtain ⟨hlt, hx⟩ := hx
  constructor
  · intro h
    rcases List.mem_or_eq_of_mem_set h with h | h
    · exact h
    · exact absurd (by rw [h]) hne
  · intro h
    obtain ⟨j, hj⟩ := List.getElem?_of_mem h
    refine List.mem_of_getElem? (i := j) ?_
    rw [List.getElem?_set]
    split
    · rename_i e
      subst e
      rw [hi] at hj
      injection hj with hj
      exact absurd (by rw [hj]) hne
    · exact hj

theorem SInv.step {t0 out out' : List Trip} {last : Option Int} (h : SInv t0 out last) {c : Change} (hl : tooLow last c = false) (hs : stepC out c = some out') : SInv t0 out' (some c.trip.id) := by
  have hlow : ∀ y : Trip, (∀ l, some c.trip.id = some l → l < y.id) → c.trip.id < y.id ∧ (∀ l, last = some l → l < y.id) := fun y hy => by
    have h1 := hy _ rfl
    refine ⟨h1, fun l e => ?_⟩
    subst e
    simp only [tooLow, decide_eq_false_iff_not] at hl
    omega
  unfold stepC at hs
  split at hs
  · rename_i hc
    injection hs with hs
    subst hs
    refine ⟨asc_ins h.asc _ (findT_neg.1 hc.2.2), fun y hy => ?_⟩
    obtain ⟨h1, h2⟩ := hlow y hy
    rw [mem_insT, h.mem y h2]
    constructor
    · rintro (e | e)
      · rw [e] at h1; omega
      · exact e
    · exact .inr
  · split at hs
    · rename_i _ hc
      injection hs with hs
      subst hs
      obtain ⟨i, hi, _, hp⟩ := h.place hc.2.2
      rw [hp, Int.toNat_natCast]
      refine ⟨asc_del h.asc i, fun y hy => ?_⟩
      obtain ⟨h1, h2⟩ := hlow y hy
      rw [mem_del hi (fun e => by rw [e] at h1; omega), h.mem y h2]
    · split at hs
      · rename_i _ _ hc
        injection hs with hs
        subst hs
        obtain ⟨i, hi, _, hp⟩ := h.place hc.2.2
        rw [hp, Int.toNat_natCast]
        refine ⟨asc_set h.asc hi _, fun y hy => ?_⟩
        obtain ⟨h1, h2⟩ := hlow y hy
        rw [mem_set hi _ (by omega), h.mem y h2]
      · cases hs

theorem step_len {out out' : List Trip} {c : Change} (hs : stepC out c = some out') : out'.length ≤ out.length + 1 := by
  unfold stepC at hs
  split at hs
  · injection hs with hs
    subst hs
    have := insAt_le out c.trip
    unfold insT
    simp only [List.length_append, List.length_take, List.length_cons, List.length_drop]
    omega
  · split at hs
    · injection hs with hs
      subst hs
      unfold delAt
      simp only [List.length_append, List.length_take, List.length_drop]
      omega
    · split at hs
      · injection hs with hs
        subst hs
        rw [setS_len]
        omega
      · cases hs

def apO (t : Timetable) (cs : List Change) : Option (List Trip) := if 24 < cs.length then none else foldC cs t.trips (some 0)
def apOk (t : Timetable) (cs : List Change) : Bool := match apO t cs with | some out => ttOk ⟨t.net, out⟩ | none => false
def ttNone : Timetable := ⟨⟨[], []⟩, []⟩
def apT (t : Timetable) (cs : List Change) : Timetable := match apO t cs with | some out => if ttOk ⟨t.net, out⟩ then ⟨t.net, out⟩ else ttNone | none => ttNone
/-- The reference's: it asks nothing of the first number. -/
def apO' (t : Timetable) (cs : List Change) : Option (List Trip) := if 24 < cs.length then none else foldC cs t.trips none

theorem tt_lt {t : Timetable} (h : ttOk t = true) : ∀ (j : Nat) (y : Trip), t.trips[j]? = some y → 0 < y.id ∧ ∀ (i : Nat) (x : Trip), i < j → t.trips[i]? = some x → x.id < y.id := by
  unfold ttOk tripsOk at h
  simp only [Bool.and_eq_true] at h
  have ha := allI_iff.1 h.2.2
  intro j
  induction j with
  | zero =>
    intro y hy
    have := ha 0 y hy
    simp only [tripAt, prevId, Bool.and_eq_true, decide_eq_true_eq] at this
    exact ⟨of_decide_eq_true this.1, fun i x hi => by omega⟩
  | succ j ih =>
    intro y hy
    have h1 := ha (j + 1) y hy
    have hlt := (List.getElem?_eq_some_iff.1 hy).1
    obtain ⟨z, hz⟩ : ∃ z, t.trips[j]? = some z := ⟨_, List.getElem?_eq_getElem (by omega)⟩
    simp only [tripAt, prevId, hz, Bool.and_eq_true, decide_eq_true_eq] at h1
    have h1' : z.id < y.id := by simpa using h1.1
    obtain ⟨q1, q2⟩ := ih z hz
    refine ⟨by omega, fun i x hi hx => ?_⟩
    by_cases hij : i = j
    · subst hij
      rw [hz] at hx
      injection hx with hx
      rw [← hx]
      exact h1'
    · have := q2 i x (by omega) hx
      omega
theorem tt_pos {t : Timetable} (h : ttOk t = true) : ∀ y ∈ t.trips, 0 < y.id := by
  intro y hy
  obtain ⟨j, hj⟩ := List.getElem?_of_mem hy
  exact (tt_lt h j y hj).1
theorem tt_asc {t : Timetable} (h : ttOk t = true) : Asc t.trips := by
  unfold Asc
  rw [List.pairwise_iff_getElem]
  intro i j hi hj hij
  exact (tt_lt h j _ (List.getElem?_eq_getElem hj)).2 i _ hij (List.getElem?_eq_getElem hi)

/-- A trip stays when later ones are changed. -/
theorem fold_keeps {x : Trip} : ∀ (cs : List Change) (out out' : List Trip) (l : Int), x ∈ out → x.id ≤ l → foldC cs out (some l) = some out' → Asc out → x ∈ out'
  | [], out, out', l, hx, _, h, _ => by injection h with h; rw [← h]; exact hx
  | c :: cs, out, out', l, hx, hl, h, ha => by
    unfold foldC at h
    split at h
    · cases h
    · rename_i ht
      simp only [tooLow, decide_eq_true_eq] at ht
      split at h
      · cases h
      · rename_i out1 hs
        have hne : x.id ≠ c.trip.id := by omega
        have hinv : SInv out out (some l) := ⟨ha, fun y _ => Iff.rfl⟩
        have hinv2 := hinv.step (by simp only [tooLow, decide_eq_false_iff_not]; exact ht) hs
        refine fold_keeps cs out1 out' c.trip.id ?_ (by omega) h hinv2.asc
        unfold stepC at hs
        split at hs
        · injection hs with hs
          subst hs
          exact mem_insT.2 (.inr hx)
        · split at hs
          · rename_i _ hc
            injection hs with hs
            subst hs
            obtain ⟨i, hi, _, hp⟩ := hinv.place hc.2.2
            rw [hp, Int.toNat_natCast]
            exact (mem_del hi (fun e => hne (by rw [e]))).2 hx
          · split at hs
            · rename_i _ _ hc
              injection hs with hs
              subst hs
              obtain ⟨i, hi, _, hp⟩ := hinv.place hc.2.2
              rw [hp, Int.toNat_natCast]
              exact (mem_set hi _ hne).2 hx
            · cases hs

theorem ap_ref {t : Timetable} (h : ttOk t = true) (cs : List Change) : (apO' t cs = apO t cs) ∨ (apO t cs = none ∧ ∀ out, apO' t cs = some out → ttOk ⟨t.net, out⟩ = false) := by
  unfold apO apO'
  split
  · exact .inl rfl
  · cases cs with
    | nil => exact .inl rfl
    | cons c cs =>
      by_cases hc : c.trip.id ≤ 0
      · right
        refine ⟨?_, fun out ho => ?_⟩
        · unfold foldC
          rw [if_pos (by simp [tooLow, hc])]
        · unfold foldC at ho
          rw [if_neg (by simp [tooLow])] at ho
          split at ho
          · cases ho
          · rename_i out1 hs
            have hx : c.trip ∈ out1 ∧ Asc out1 := by
              have hpos := tt_pos h
              have hinv : SInv t.trips t.trips none := ⟨tt_asc h, fun y _ => Iff.rfl⟩
              have hinv2 := hinv.step (c := c) rfl hs
              refine ⟨?_, hinv2.asc⟩
              unfold stepC at hs
              split at hs
              · injection hs with hs
                subst hs
                exact mem_insT.2 (.inl rfl)
              · split at hs
                · rename_i _ hc2
                  have := hpos _ (placeT_pos.1 hc2.2.2)
                  omega
                · split at hs
                  · rename_i _ _ hc2
                    have := hpos _ (placeT_pos.1 hc2.2.2)
                    omega
                  · cases hs
            have hm := fold_keeps cs out1 out c.trip.id hx.1 (Int.le_refl _) ho hx.2
            cases hv : ttOk ⟨t.net, out⟩ with
            | false => rfl
            | true =>
              have := tt_pos hv _ hm
              omega
      · left
        unfold foldC
        rw [if_neg (by simp [tooLow]), if_neg (by simp [tooLow]; omega)]
end Go.Proofs.Ytfjphbjbobojbaa

