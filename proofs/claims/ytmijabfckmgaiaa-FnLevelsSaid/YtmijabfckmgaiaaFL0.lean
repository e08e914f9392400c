/- Charging: plain facts: levels, plans, the plan that charges always, the plan of fewest minutes. -/
import Derived.Test.YtmijabfckmgaiaaN2
namespace Go.Proofs.Ytmijabfckmgaiaa
open Go Go.Am
set_option maxRecDepth 100000
set_option maxHeartbeats 4000000

structure Leg where
  fro : Int
  to : Int
  use : Int
def Leg.enc (l : Leg) : List D := [.int .i64 l.fro, .int .i64 l.to, .int .i64 l.use]
structure Bat where
  cap : Int
  res : Int
  rate : Int
def batE (b : Bat) : List D := [.int .i64 b.cap, .int .i64 b.res, .int .i64 b.rate]

def least (a b : Int) : Int := if a < b then a else b
def legAt (xs : List Leg) (i : Nat) : Leg := xs.getD i ⟨0, 0, 0⟩
theorem legAt_of {xs : List Leg} {i : Nat} {l : Leg} (h : xs[i]? = some l) : legAt xs i = l := by
  unfold legAt; rw [List.getD_eq_getElem?_getD, h]; rfl
/-- The break behind leg i. -/
def brk (xs : List Leg) (i : Nat) : Int := (legAt xs (i + 1)).fro - (legAt xs i).to

/-- Whether leg i is right. -/
def legB (xs : List Leg) (i : Nat) : Bool := inR (legAt xs i).fro 0 1799 && (inR (legAt xs i).to 0 1799 && (decide ((legAt xs i).fro < (legAt xs i).to) && (inR (legAt xs i).use 0 10000 && (decide (i = 0) || decide (0 ≤ brk xs (i - 1))))))
def legsTo (xs : List Leg) (i : Nat) : Bool := (List.range i).all (legB xs)
theorem legsTo_next (xs : List Leg) (i : Nat) : legsTo xs (i + 1) = (legsTo xs i && legB xs i) := by
  unfold legsTo; rw [List.range_succ, List.all_append]; simp
theorem legsTo_no {xs : List Leg} {i n : Nat} (hi : i < n) (h : legB xs i = false) : legsTo xs n = false := by
  unfold legsTo
  rw [Bool.eq_false_iff]
  intro ha
  have := List.all_eq_true.1 ha i (List.mem_range.2 hi)
  rw [h] at this; cases this
def legsOk (xs : List Leg) : Bool := inR (xs.length : Int) 1 12 && legsTo xs xs.length
theorem legs_at {xs : List Leg} (h : legsOk xs = true) : (1 ≤ xs.length ∧ xs.length ≤ 12) ∧ ∀ i, i < xs.length → (0 ≤ (legAt xs i).fro ∧ (legAt xs i).fro ≤ 1799) ∧ (0 ≤ (legAt xs i).to ∧ (legAt xs i).to ≤ 1799) ∧ (0 ≤ (legAt xs i).use ∧ (legAt xs i).use ≤ 10000) := by
  unfold legsOk legsTo at h
  simp only [inR, Bool.and_eq_true, decide_eq_true_eq] at h
  refine ⟨by omega, fun i hi => ?_⟩
  have := List.all_eq_true.1 h.2 i (List.mem_range.2 hi)
  simp only [legB, inR, Bool.and_eq_true, decide_eq_true_eq] at this
  omega
theorem brk_at {xs : List Leg} (h : legsOk xs = true) {i : Nat} (hi : i + 1 < xs.length) : 0 ≤ brk xs i ∧ brk xs i ≤ 1799 := by
  have h1 := (legs_at h).2 i (by omega)
  have h2 := (legs_at h).2 (i + 1) hi
  unfold legsOk legsTo at h
  simp only [Bool.and_eq_true] at h
  have := List.all_eq_true.1 h.2 (i + 1) (List.mem_range.2 hi)
  simp only [legB, Bool.and_eq_true, Bool.or_eq_true, decide_eq_true_eq] at this
  have h3 := this.2.2.2.2
  rw [Nat.add_sub_cancel] at h3
  refine ⟨by omega, ?_⟩
  unfold brk
  omega

def batOk (b : Bat) : Bool := inR b.cap 1 10000 && (inR b.res 0 b.cap && inR b.rate 0 1000)
def chgOk (xs : List Leg) (b : Bat) (lv : Int) : Bool := legsOk xs && (batOk b && inR lv 0 b.cap)
theorem bat_at {b : Bat} (h : batOk b = true) : (1 ≤ b.cap ∧ b.cap ≤ 10000) ∧ (0 ≤ b.res ∧ b.res ≤ b.cap) ∧ (0 ≤ b.rate ∧ b.rate ≤ 1000) := by
  simp only [batOk, inR, Bool.and_eq_true, decide_eq_true_eq] at h
  omega
theorem chg_at {xs : List Leg} {b : Bat} {lv : Int} (h : chgOk xs b lv = true) : legsOk xs = true ∧ batOk b = true ∧ (0 ≤ lv ∧ lv ≤ b.cap) := by
  simp only [chgOk, inR, Bool.and_eq_true, decide_eq_true_eq] at h
  exact ⟨h.1, h.2.1, h.2.2⟩

/-- A plan: as many numbers as breaks, none longer than its break. -/
def plAt (p : List Int) (i : Nat) : Int := p.getD i 0
theorem plAt_of {p : List Int} {i : Nat} {v : Int} (h : p[i]? = some v) : plAt p i = v := by
  unfold plAt; rw [List.getD_eq_getElem?_getD, h]; rfl
def plB (xs : List Leg) (p : List Int) (i : Nat) : Bool := inR (plAt p i) 0 (brk xs i)
def plTo (xs : List Leg) (p : List Int) (n : Nat) : Bool := (List.range n).all (plB xs p)
theorem plTo_next (xs : List Leg) (p : List Int) (i : Nat) : plTo xs p (i + 1) = (plTo xs p i && plB xs p i) := by
  unfold plTo; rw [List.range_succ, List.all_append]; simp
theorem plTo_no {xs : List Leg} {p : List Int} {i n : Nat} (hi : i < n) (h : plB xs p i = false) : plTo xs p n = false := by
  unfold plTo
  rw [Bool.eq_false_iff]
  intro ha
  have := List.all_eq_true.1 ha i (List.mem_range.2 hi)
  rw [h] at this; cases this
def plOk (xs : List Leg) (p : List Int) : Bool := decide (p.length + 1 = xs.length) && plTo xs p p.length
theorem pl_iff {xs : List Leg} {p : List Int} : plOk xs p = true ↔ p.length + 1 = xs.length ∧ ∀ i, i < p.length → 0 ≤ plAt p i ∧ plAt p i ≤ brk xs i := by
  unfold plOk plTo
  rw [Bool.and_eq_true, decide_eq_true_eq, List.all_eq_true]
  simp only [List.mem_range, plB, inR, Bool.and_eq_true, decide_eq_true_eq]

/-- The level before leg i, and behind it. -/
def bfN (xs : List Leg) (b : Bat) (lv : Int) (p : List Int) : Nat → Int
  | 0 => lv
  | i + 1 => least (bfN xs b lv p i - (legAt xs i).use + b.rate * plAt p i) b.cap
def afN (xs : List Leg) (b : Bat) (lv : Int) (p : List Int) (i : Nat) : Int := bfN xs b lv p i - (legAt xs i).use
def bfL (xs : List Leg) (b : Bat) (lv : Int) (p : List Int) : List Int := (List.range xs.length).map (bfN xs b lv p)
def afL (xs : List Leg) (b : Bat) (lv : Int) (p : List Int) : List Int := (List.range xs.length).map (afN xs b lv p)

theorem mul_in {r m : Int} (h0 : 0 ≤ r) (h1 : r ≤ 1000) (h2 : 0 ≤ m) (h3 : m ≤ 1799) : 0 ≤ r * m ∧ r * m ≤ 1799000 := by
  refine ⟨Int.mul_nonneg h0 h2, ?_⟩
  have : r * m ≤ 1000 * m := Int.mul_le_mul_of_nonneg_right h1 h2
  omega
theorem bf_in {xs : List Leg} {b : Bat} {lv : Int} {p : List Int} (hc : chgOk xs b lv = true) (hp : plOk xs p = true) : ∀ i, i < xs.length → -10000 * (i : Int) ≤ bfN xs b lv p i ∧ bfN xs b lv p i ≤ b.cap
  | 0, _ => by
    have := (chg_at hc).2.2
    simp only [bfN]; omega
  | i + 1, hi => by
    obtain ⟨h1, h2, h3⟩ := chg_at hc
    have hb := bat_at h2
    obtain ⟨q1, q2⟩ := pl_iff.1 hp
    have ih := bf_in hc hp i (by omega)
    have hl := (legs_at h1).2 i (by omega)
    have hq := q2 i (by omega)
    have hk := brk_at h1 hi
    have hm := mul_in hb.2.2.1 hb.2.2.2 hq.1 (by omega)
    simp only [bfN, least]
    split <;> omega
theorem rate_pl {xs : List Leg} {b : Bat} {lv : Int} {p : List Int} (hc : chgOk xs b lv = true) (hp : plOk xs p = true) {i : Nat} (hi : i + 1 < xs.length) : 0 ≤ b.rate * plAt p i ∧ b.rate * plAt p i ≤ 1799000 := by
  obtain ⟨h1, h2, h3⟩ := chg_at hc
  have hb := bat_at h2
  obtain ⟨q1, q2⟩ := pl_iff.1 hp
  have hq := q2 i (by omega)
  have hk := brk_at h1 hi
  exact mul_in hb.2.2.1 hb.2.2.2 hq.1 (by omega)

/-- The first leg behind which the level is below the reserve, or -1. -/
def fstE (b : Bat) (L : List Int) : Int := idxF (fun v => decide (v < b.res)) L
theorem fstE_miss {b : Bat} {L : List Int} (h : fstE b L < 0) : fstE b L = -1 ∧ ∀ v ∈ L, b.res ≤ v := by
  unfold fstE idxF at *
  split at h
  · omega
  · rename_i ha
    rw [if_neg ha]
    refine ⟨rfl, fun v hv => ?_⟩
    simp only [Bool.not_eq_true, List.any_eq_false, decide_eq_true_eq] at ha
    have := ha v hv
    omega
theorem fstE_lt {b : Bat} {L : List Int} (h : 0 ≤ fstE b L) : (fstE b L).toNat < L.length := by
  unfold fstE idxF at *
  split at h
  · rename_i ha
    rw [if_pos ha]
    have := List.findIdx_lt_length_of_exists (xs := L) (p := fun v => decide (v < b.res)) (by simpa using ha)
    omega
  · omega

/-- Minutes of charging in a break of k minutes at a level, counted up from n. -/
def mnF (b : Bat) (l k : Int) : Nat → Int → Int
  | 0, n => n
  | f + 1, n => if n < k ∧ l + n * b.rate < b.cap then mnF b l k f (n + 1) else n
theorem mnF_ok (b : Bat) (l k : Int) : ∀ (f : Nat) (n : Int), n ≤ k → k ≤ n + f → (n ≤ mnF b l k f n ∧ mnF b l k f n ≤ k) ∧ (mnF b l k f n = k ∨ b.cap ≤ l + mnF b l k f n * b.rate)
  | 0, n, h1, h2 => by simp only [mnF]; omega
  | f + 1, n, h1, h2 => by
    simp only [mnF]
    split
    · have := mnF_ok b l k f (n + 1) (by omega) (by omega)
      omega
    · rename_i hn
      refine ⟨by omega, ?_⟩
      by_cases hk : n = k
      · exact .inl hk
      · exact .inr (by omega)
def mnA (b : Bat) (l k : Int) : Int := mnF b l k k.toNat 0
theorem mnA_ok (b : Bat) {l k : Int} (hk : 0 ≤ k) : (0 ≤ mnA b l k ∧ mnA b l k ≤ k) ∧ (mnA b l k = k ∨ b.cap ≤ l + mnA b l k * b.rate) := mnF_ok b l k k.toNat 0 hk (by omega)

/-- The level before leg i when charging always. -/
def alN (xs : List Leg) (b : Bat) (lv : Int) : Nat → Int
  | 0 => lv
  | i + 1 => least (alN xs b lv i - (legAt xs i).use + mnA b (alN xs b lv i - (legAt xs i).use) (brk xs i) * b.rate) b.cap
def alM (xs : List Leg) (b : Bat) (lv : Int) (i : Nat) : Int := mnA b (alN xs b lv i - (legAt xs i).use) (brk xs i)
def alP (xs : List Leg) (b : Bat) (lv : Int) : List Int := (List.range (xs.length - 1)).map (alM xs b lv)
theorem alP_at {xs : List Leg} {b : Bat} {lv : Int} {i : Nat} (hi : i + 1 < xs.length) : plAt (alP xs b lv) i = alM xs b lv i := by
  apply plAt_of
  unfold alP
  rw [List.getElem?_map, List.getElem?_range (by omega)]
  rfl
theorem alP_ok {xs : List Leg} {b : Bat} {lv : Int} (h : legsOk xs = true) : plOk xs (alP xs b lv) = true := by
  have hl := (legs_at h).1
  have hlen : (alP xs b lv).length = xs.length - 1 := by unfold alP; simp
  refine pl_iff.2 ⟨by omega, fun i hi => ?_⟩
  rw [alP_at (by omega)]
  exact (mnA_ok b (brk_at h (by omega)).1).1
theorem al_bf {xs : List Leg} {b : Bat} {lv : Int} : ∀ i, i < xs.length → bfN xs b lv (alP xs b lv) i = alN xs b lv i
  | 0, _ => rfl
  | i + 1, hi => by
    rw [bfN, al_bf i (by omega), alP_at hi, alN, Int.mul_comm b.rate]
    rfl
/-- No plan leaves more. -/
theorem al_most {xs : List Leg} {b : Bat} {lv : Int} {p : List Int} (hc : chgOk xs b lv = true) (hp : plOk xs p = true) : ∀ i, i < xs.length → bfN xs b lv p i ≤ alN xs b lv i
  | 0, _ => Int.le_refl _
  | i + 1, hi => by
    obtain ⟨h1, h2, h3⟩ := chg_at hc
    have hb := bat_at h2
    obtain ⟨q1, q2⟩ := pl_iff.1 hp
    have ih := al_most hc hp i (by omega)
    have hq := q2 i (by omega)
    have hk := brk_at h1 hi
    have hm := mnA_ok b (l := alN xs b lv i - (legAt xs i).use) hk.1
    have hmul : b.rate * plAt p i ≤ b.rate * brk xs i := Int.mul_le_mul_of_nonneg_left hq.2 hb.2.2.1
    rw [bfN, alN]
    unfold least
    rcases hm.2 with e | e
    · rw [e, Int.mul_comm (brk xs i)]
      split <;> split <;> omega
    · split <;> split <;> omega
theorem af_most {xs : List Leg} {b : Bat} {lv : Int} {p : List Int} (hc : chgOk xs b lv = true) (hp : plOk xs p = true) {i : Nat} (hi : i < xs.length) : afN xs b lv p i ≤ afN xs b lv (alP xs b lv) i := by
  unfold afN
  rw [al_bf i hi]
  have := al_most hc hp i hi
  omega

/-- The leg before which a minute is put in: walked back from a leg. -/
def bkN (xs : List Leg) (b : Bat) (lv : Int) (p : List Int) : Nat → Nat
  | 0 => 0
  | i + 1 => if plAt p i = brk xs i ∨ b.cap ≤ bfN xs b lv p (i + 1) then bkN xs b lv p i else i + 1
theorem bkN_le (xs : List Leg) (b : Bat) (lv : Int) (p : List Int) : ∀ i, bkN xs b lv p i ≤ i
  | 0 => Nat.le_refl _
  | i + 1 => by
    rw [bkN]
    have := bkN_le xs b lv p i
    split <;> omega
theorem bkN_at (xs : List Leg) (b : Bat) (lv : Int) (p : List Int) : ∀ i k, bkN xs b lv p i = k + 1 → plAt p k ≠ brk xs k
  | 0, k, h => by simp [bkN] at h
  | i + 1, k, h => by
    rw [bkN] at h
    split at h
    · exact bkN_at xs b lv p i k h
    · rename_i hn
      have : i = k := by omega
      subst this
      exact fun e => hn (.inl e)
def incP (p : List Int) (k : Nat) : List Int := p.set k (plAt p k + 1)
theorem incP_len (p : List Int) (k : Nat) : (incP p k).length = p.length := by unfold incP; simp
theorem incP_at {p : List Int} {k i : Nat} (hk : k < p.length) : plAt (incP p k) i = if i = k then plAt p k + 1 else plAt p i := by
  unfold incP plAt
  rw [List.getD_eq_getElem?_getD, List.getElem?_set]
  by_cases h : k = i
  · subst h
    rw [if_pos rfl, if_pos hk, if_pos rfl]; rfl
  · rw [if_neg h, if_neg (Ne.symm h), ← List.getD_eq_getElem?_getD]
theorem incP_ok {xs : List Leg} {p : List Int} {k : Nat} (hp : plOk xs p = true) (hk : k < p.length) (hne : plAt p k ≠ brk xs k) : plOk xs (incP p k) = true := by
  obtain ⟨q1, q2⟩ := pl_iff.1 hp
  refine pl_iff.2 ⟨by rw [incP_len]; exact q1, fun i hi => ?_⟩
  rw [incP_len] at hi
  rw [incP_at hk]
  have h1 := q2 k hk
  have h2 := q2 i hi
  split
  · rename_i e
    subst e
    omega
  · exact h2
def sumP (p : List Int) : Int := p.foldr (· + ·) 0
theorem sumP_set : ∀ (p : List Int) (k : Nat), k < p.length → sumP (incP p k) = sumP p + 1
  | [], _, h => by simp at h
  | x :: r, 0, _ => by simp [incP, sumP, plAt]; omega
  | x :: r, k + 1, h => by
    have := sumP_set r k (by simpa using h)
    simp [incP, sumP, plAt] at this ⊢
    omega
def totB (xs : List Leg) : Nat → Nat → Int
  | _, 0 => 0
  | i, n + 1 => brk xs i + totB xs (i + 1) n
theorem sum_le (xs : List Leg) : ∀ (p : List Int) (j : Nat), (∀ i, i < p.length → plAt p i ≤ brk xs (j + i)) → sumP p ≤ totB xs j p.length
  | [], _, _ => by simp [sumP, totB]
  | x :: r, j, h => by
    have h0 := h 0 (by simp)
    have ih := sum_le xs r (j + 1) (fun i hi => by
      have := h (i + 1) (by simpa using hi)
      rw [show j + 1 + i = j + (i + 1) from by omega]
      simpa [plAt] using this)
    simp only [plAt, List.getD_cons_zero, Nat.add_zero] at h0
    show x + sumP r ≤ brk xs j + totB xs (j + 1) r.length
    omega
theorem tot_le {xs : List Leg} (h : legsOk xs = true) : ∀ (n j : Nat), j + n < xs.length → totB xs j n ≤ 1799 * n
  | 0, j, _ => by simp [totB]
  | n + 1, j, hj => by
    have := brk_at h (i := j) (by omega)
    have ih := tot_le h n (j + 1) (by omega)
    simp only [totB]
    omega
theorem sum_ge : ∀ (p : List Int), (∀ i, i < p.length → 0 ≤ plAt p i) → 0 ≤ sumP p
  | [], _ => by simp [sumP]
  | x :: r, h => by
    have h0 := h 0 (by simp)
    have ih := sum_ge r (fun i hi => by simpa [plAt] using h (i + 1) (by simpa using hi))
    simp only [plAt, List.getD_cons_zero] at h0
    show 0 ≤ x + sumP r
    omega
def fuelP (xs : List Leg) (p : List Int) : Nat := (totB xs 0 p.length - sumP p + 1).toNat
theorem fuel_pos {xs : List Leg} {p : List Int} (hp : plOk xs p = true) : 0 < fuelP xs p := by
  obtain ⟨q1, q2⟩ := pl_iff.1 hp
  have := sum_le xs p 0 (fun i hi => by rw [Nat.zero_add]; exact (q2 i hi).2)
  unfold fuelP
  omega
theorem fuel_inc {xs : List Leg} {p : List Int} {k : Nat} (hp : plOk xs p = true) (hk : k < p.length) (hne : plAt p k ≠ brk xs k) : fuelP xs p = fuelP xs (incP p k) + 1 := by
  have hp2 := incP_ok hp hk hne
  have h2 := fuel_pos hp2
  unfold fuelP at *
  rw [incP_len, sumP_set p k hk] at *
  omega

/-- The plan of fewest minutes: minute by minute. -/
def fewR (xs : List Leg) (b : Bat) (lv : Int) : Nat → List Int → Option (List Int)
  | 0, _ => none
  | f + 1, p => if fstE b (afL xs b lv p) < 0 then some p else
    match bkN xs b lv p (fstE b (afL xs b lv p)).toNat with
    | 0 => none
    | k + 1 => fewR xs b lv f (incP p k)
theorem few_at {xs : List Leg} {b : Bat} {lv : Int} : ∀ (f : Nat) (p q : List Int), plOk xs p = true → fewR xs b lv f p = some q → plOk xs q = true ∧ fstE b (afL xs b lv q) = -1
  | 0, p, q, _, h => by simp [fewR] at h
  | f + 1, p, q, hp, h => by
    rw [fewR] at h
    split at h
    · rename_i he
      injection h with h
      subst h
      exact ⟨hp, (fstE_miss he).1⟩
    · rename_i he
      split at h
      · cases h
      · rename_i k hk
        have h1 := bkN_le xs b lv p (fstE b (afL xs b lv p)).toNat
        have h2 := fstE_lt (b := b) (L := afL xs b lv p) (by omega)
        have h3 : (afL xs b lv p).length = xs.length := by unfold afL; simp
        obtain ⟨q1, q2⟩ := pl_iff.1 hp
        exact few_at f _ q (incP_ok hp (by omega) (bkN_at xs b lv p _ k hk)) h
theorem few_next {xs : List Leg} {b : Bat} {lv : Int} {p : List Int} {k : Nat} (hp : plOk xs p = true) (he : ¬ fstE b (afL xs b lv p) < 0) (hk : bkN xs b lv p (fstE b (afL xs b lv p)).toNat = k + 1) :
    k < p.length ∧ plAt p k ≠ brk xs k ∧ fewR xs b lv (fuelP xs p) p = fewR xs b lv (fuelP xs (incP p k)) (incP p k) := by
  have h1 := bkN_le xs b lv p (fstE b (afL xs b lv p)).toNat
  have h2 := fstE_lt (b := b) (L := afL xs b lv p) (by omega)
  have h3 : (afL xs b lv p).length = xs.length := by unfold afL; simp
  obtain ⟨q1, q2⟩ := pl_iff.1 hp
  have hne := bkN_at xs b lv p _ k hk
  have hkl : k < p.length := by omega
  refine ⟨hkl, hne, ?_⟩
  rw [fuel_inc hp hkl hne, fewR, if_neg he, hk]
theorem few_done {xs : List Leg} {b : Bat} {lv : Int} {p : List Int} (hp : plOk xs p = true) (he : fstE b (afL xs b lv p) < 0) : fewR xs b lv (fuelP xs p) p = some p := by
  obtain ⟨m, hm⟩ : ∃ m, fuelP xs p = m + 1 := ⟨fuelP xs p - 1, by have := fuel_pos hp; omega⟩
  rw [hm, fewR, if_pos he]
theorem few_none {xs : List Leg} {b : Bat} {lv : Int} {p : List Int} (hp : plOk xs p = true) (he : ¬ fstE b (afL xs b lv p) < 0) (hk : bkN xs b lv p (fstE b (afL xs b lv p)).toNat = 0) : fewR xs b lv (fuelP xs p) p = none := by
  obtain ⟨m, hm⟩ : ∃ m, fuelP xs p = m + 1 := ⟨fuelP xs p - 1, by have := fuel_pos hp; omega⟩
  rw [hm, fewR, if_neg he, hk]
/-- Without a rate no plan helps. -/
theorem bf_rate {xs : List Leg} {b : Bat} {lv : Int} (h0 : b.rate = 0) (p q : List Int) : ∀ i, bfN xs b lv p i = bfN xs b lv q i
  | 0 => rfl
  | i + 1 => by rw [bfN, bfN, bf_rate h0 p q i, h0, Int.zero_mul, Int.zero_mul]
theorem few_rate {xs : List Leg} {b : Bat} {lv : Int} (h0 : b.rate = 0) (q : List Int) (he : ¬ fstE b (afL xs b lv q) < 0) : ∀ (f : Nat) (p : List Int), fewR xs b lv f p = none
  | 0, _ => rfl
  | f + 1, p => by
    have e : afL xs b lv p = afL xs b lv q := by
      unfold afL
      refine List.map_congr_left fun i _ => ?_
      unfold afN
      rw [bf_rate h0 p q i]
    rw [fewR, e, if_neg he]
    split
    · rfl
    · exact few_rate h0 q he f _
def zeroP (xs : List Leg) : List Int := List.replicate (xs.length - 1) 0
theorem zero_ok {xs : List Leg} (h : legsOk xs = true) : plOk xs (zeroP xs) = true := by
  have hl := (legs_at h).1
  refine pl_iff.2 ⟨by unfold zeroP; simp; omega, fun i hi => ?_⟩
  have hi' : i < xs.length - 1 := by simpa [zeroP] using hi
  have hb := brk_at h (i := i) (by omega)
  have : plAt (zeroP xs) i = 0 := plAt_of (by unfold zeroP; rw [List.getElem?_replicate, if_pos hi'])
  omega
def fewP (xs : List Leg) (b : Bat) (lv : Int) : Option (List Int) := if chgOk xs b lv then fewR xs b lv (fuelP xs (zeroP xs)) (zeroP xs) else none

/-- From the back: the first level below the reserve among those from k on. -/
def fromE (b : Bat) (L : List Int) (k : Nat) : Int := if fstE b (L.drop k) < 0 then -1 else fstE b (L.drop k) + k
theorem fromE_0 (b : Bat) (L : List Int) : fromE b L 0 = fstE b L := by
  unfold fromE
  rw [List.drop_zero]
  split
  · rename_i h; exact (fstE_miss h).1.symm
  · omega
theorem fromE_end (b : Bat) {L : List Int} {k : Nat} (h : L.length ≤ k) : fromE b L k = -1 := by
  unfold fromE
  rw [List.drop_eq_nil_of_le h]
  rfl
theorem fstE_cons (b : Bat) (v : Int) (r : List Int) : fstE b (v :: r) = if v < b.res then 0 else if fstE b r < 0 then -1 else fstE b r + 1 := by
  unfold fstE idxF
  by_cases h : v < b.res
  · simp [h, List.findIdx_cons]
  · rw [if_neg h]
    by_cases ha : r.any (fun v => decide (v < b.res)) = true
    · simp only [List.any_cons, decide_eq_false h, Bool.false_or, ha, if_true, List.findIdx_cons, cond_false]
      rw [if_neg (by omega)]
      omega
    · simp only [Bool.not_eq_true] at ha
      simp only [List.any_cons, decide_eq_false h, Bool.false_or, ha, if_false, Bool.false_eq_true]
      rfl
theorem fromE_step (b : Bat) {L : List Int} {k : Nat} {v : Int} (h : L[k]? = some v) : fromE b L k = if v < b.res then (k : Int) else fromE b L (k + 1) := by
  have hlt := (List.getElem?_eq_some_iff.1 h).1
  have hd : L.drop k = v :: L.drop (k + 1) := by
    rw [List.drop_eq_getElem_cons hlt, (List.getElem?_eq_some_iff.1 h).2]
  unfold fromE
  rw [hd, fstE_cons]
  by_cases hv : v < b.res
  · rw [if_pos hv, if_pos hv, if_neg (by omega)]; omega
  · rw [if_neg hv, if_neg hv]
    by_cases hr : fstE b (L.drop (k + 1)) < 0
    · rw [if_pos hr, if_pos (by omega), if_pos hr]
    · rw [if_neg hr, if_neg (by omega), if_neg hr]; omega
end Go.Proofs.Ytmijabfckmgaiaa

