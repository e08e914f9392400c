/- Shares: what the law asks of them, in plain words. -/
import Derived.Test.YtobnoplkpmdeiaaS9
namespace Go.Proofs.Ytobnoplkpmdeiaa
open Go Go.Am
set_option maxRecDepth 100000
set_option maxHeartbeats 4000000

theorem gcd_parts {s n : Int} (hs : 0 ≤ s) (hn : 0 < n) (hn2 : n ≤ 1000000000) (hs2 : s ≤ 1000000000) : ∃ g x y : Int, 0 < g ∧ s = g * x ∧ n = g * y ∧ 0 ≤ x ∧ 0 < y ∧ x ≤ s ∧ y ≤ n ∧ IntKind.i64.wrap (s.tdiv (gcdI s n)) = x ∧ IntKind.i64.wrap (n.tdiv (gcdI s n)) = y := by
  have hg0 : 0 < Nat.gcd s.natAbs n.natAbs := Nat.gcd_pos_of_pos_right _ (by omega)
  have hd1 : (gcdI s n) ∣ s := by
    unfold gcdI
    have := Int.natCast_dvd_natCast.2 (Nat.gcd_dvd_left s.natAbs n.natAbs)
    rwa [show ((s.natAbs : Nat) : Int) = s from by omega] at this
  have hd2 : (gcdI s n) ∣ n := by
    unfold gcdI
    have := Int.natCast_dvd_natCast.2 (Nat.gcd_dvd_right s.natAbs n.natAbs)
    rwa [show ((n.natAbs : Nat) : Int) = n from by omega] at this
  have hg : 0 < gcdI s n := by unfold gcdI; omega
  generalize gcdI s n = g at *
  obtain ⟨x, rfl⟩ := hd1
  obtain ⟨y, rfl⟩ := hd2
  have hx : 0 ≤ x := by
    refine Classical.byContradiction fun h => ?_
    have := Int.mul_neg_of_pos_of_neg hg (show x < 0 by omega)
    omega
  have hy : 0 < y := by
    refine Classical.byContradiction fun h => ?_
    have := Int.mul_nonpos_of_nonneg_of_nonpos (Int.le_of_lt hg) (show y ≤ 0 by omega)
    omega
  have h1 : x ≤ g * x := by have := Int.mul_le_mul_of_nonneg_right (show 1 ≤ g by omega) hx; omega
  have h2 : y ≤ g * y := by have := Int.mul_le_mul_of_nonneg_right (show 1 ≤ g by omega) (Int.le_of_lt hy); omega
  refine ⟨g, x, y, hg, rfl, rfl, hx, hy, h1, h2, ?_, ?_⟩
  · rw [Int.mul_tdiv_cancel_left _ (by omega), wrap_small (by omega) (by omega)]
  · rw [Int.mul_tdiv_cancel_left _ (by omega), wrap_small (by omega) (by omega)]

/-- A sum over the eight stops. -/
def sum8 (g : Nat → Int) : Nat → Int
  | 0 => 0
  | k + 1 => sum8 g k + g k
theorem sum8_zero : ∀ k, sum8 (fun _ => 0) k = 0
  | 0 => rfl
  | k + 1 => by simp only [sum8, sum8_zero k]; omega
theorem sum8_add (f g : Nat → Int) : ∀ k, sum8 (fun j => f j + g j) k = sum8 f k + sum8 g k
  | 0 => rfl
  | k + 1 => by simp only [sum8, sum8_add f g k]; omega
theorem sum8_one (s : Int) (w : Int) : ∀ k : Nat, sum8 (fun j => if s = (j : Nat) then w else 0) k = if 0 ≤ s ∧ s < k then w else 0
  | 0 => by simp only [sum8]; rw [if_neg (by omega)]
  | k + 1 => by
    simp only [sum8, sum8_one s w k]
    by_cases h1 : s = (k : Nat)
    · rw [if_neg (by omega), if_pos h1, if_pos (by omega)]; omega
    · rw [if_neg h1]
      by_cases h2 : 0 ≤ s ∧ s < k
      · rw [if_pos h2, if_pos (by omega)]; omega
      · rw [if_neg h2, if_neg (by omega)]; omega
theorem sum8_congr {f g : Nat → Int} (h : ∀ j, f j = g j) : ∀ k, sum8 f k = sum8 g k
  | 0 => rfl
  | k + 1 => by simp only [sum8, sum8_congr h k, h k]
theorem by_stops (f : Visit → Int) : ∀ xs : List Visit, (∀ v ∈ xs, 0 ≤ v.stop ∧ v.stop < 8) → sum8 (fun j => ((at' xs j).map f).sum) 8 = (xs.map f).sum
  | [], _ => by
    have e : sum8 (fun j => ((at' [] j).map f).sum) 8 = sum8 (fun _ => 0) 8 := sum8_congr (fun j => rfl) 8
    rw [e, sum8_zero]
    rfl
  | v :: r, h => by
    have hv := h v (by simp)
    have ih := by_stops f r (fun x hx => h x (by simp [hx]))
    rw [sum8_congr (g := fun j => (if v.stop = (j : Nat) then f v else 0) + ((at' r j).map f).sum), sum8_add, sum8_one, if_pos (by omega), ih]
    · simp
    · intro j
      unfold at'
      rw [List.filter_cons]
      unfold atStop
      by_cases hj : v.stop = (j : Nat)
      · rw [if_pos (by simpa using hj), if_pos hj]; simp
      · rw [if_neg (by simpa using hj), if_neg hj]; simp

theorem pSum_eq (e l : Int) (xs : List Visit) : pSum one' e l xs = (xs.map fun v => if vPun e l v then (1 : Int) else 0).sum := by
  unfold pSum
  induction xs with
  | nil => rfl
  | cons v r ih =>
    rw [List.filter_cons]
    cases h : vPun e l v
    · simp only [List.map_cons, List.sum_cons, h]; rw [← ih]; simp
    · simp only [List.map_cons, List.sum_cons, h, if_true]; rw [← ih]; simp [one']
theorem len_eq (xs : List Visit) : (xs.length : Int) = (xs.map fun _ => (1 : Int)).sum := by
  induction xs with
  | nil => rfl
  | cons v r ih => simp only [List.length_cons, List.map_cons, List.sum_cons]; omega

/-- The worst stop is not better than all the stops that were looked at. -/
theorem worst_sum (e l : Int) (xs : List Visit) (hl : xs.length ≤ 30) : ∀ k : Nat,
    ((wAt 0 e l xs k).b < 0 → sum8 (fun j => pSum one' e l (at' xs j)) k = 0 ∧ sum8 (fun j => ((at' xs j).length : Int)) k = 0) ∧
    (0 ≤ (wAt 0 e l xs k).b → (wAt 0 e l xs k).p * sum8 (fun j => ((at' xs j).length : Int)) k ≤ sum8 (fun j => pSum one' e l (at' xs j)) k * (wAt 0 e l xs k).n) ∧ 0 ≤ sum8 (fun j => ((at' xs j).length : Int)) k
  | 0 => by
    refine ⟨fun _ => ⟨rfl, rfl⟩, fun _ => ?_, ?_⟩
    · show _ * (0 : Int) ≤ 0 * _
      simp
    · show (0 : Int) ≤ 0
      omega
  | k + 1 => by
    obtain ⟨i1, i2, i3⟩ := worst_sum e l xs hl k
    have hw := wAt_le (d := 0) (e := e) (l := l) (by omega) hl k
    have ho := one_le e l xs k
    simp only [sum8, wAt, wStep]
    generalize sum8 (fun j => pSum one' e l (at' xs j)) k = PP at *
    generalize sum8 (fun j => ((at' xs j).length : Int)) k = NN at *
    generalize pSum one' e l (at' xs k) = q at *
    generalize hm : (at' xs k).length = m at *
    generalize wAt 0 e l xs k = w at *
    by_cases h0 : m = 0
    · rw [if_pos h0]
      subst h0
      have hq : q = 0 := by omega
      subst hq
      refine ⟨fun h => ?_, fun h => ?_, by omega⟩
      · have := i1 h; omega
      · have := i2 h
        have e1 : NN + ((0 : Nat) : Int) = NN := by omega
        have e2 : PP + 0 = PP := by omega
        rw [e1, e2]; exact this
    · rw [if_neg h0]
      have hmp : (0 : Int) < (m : Int) := by omega
      by_cases hb : w.b < 0
      · rw [if_pos (.inl hb)]
        obtain ⟨z1, z2⟩ := i1 hb
        subst z1 z2
        refine ⟨fun h => ?_, fun _ => ?_, by omega⟩
        · simp only at h; omega
        · simp only; rw [Int.zero_add, Int.zero_add]; exact Int.le_refl _
      · have hb0 : 0 ≤ w.b := by omega
        have hi := i2 hb0
        have hn1 := hw.2.2.2.2.2.2 hb0
        by_cases hlt : q * w.n < w.p * (m : Int)
        · rw [if_pos (.inr hlt)]
          refine ⟨fun h => ?_, fun _ => ?_, by omega⟩
          · simp only at h; omega
          · simp only
            have s1 : q * w.n * NN ≤ w.p * (m : Int) * NN := Int.mul_le_mul_of_nonneg_right (Int.le_of_lt hlt) i3
            have s2 : w.p * NN * (m : Int) ≤ PP * w.n * (m : Int) := Int.mul_le_mul_of_nonneg_right hi (Int.le_of_lt hmp)
            have s3 : q * NN * w.n ≤ PP * (m : Int) * w.n := by
              have a1 : q * NN * w.n = q * w.n * NN := by rw [Int.mul_assoc, Int.mul_comm NN, ← Int.mul_assoc]
              have a2 : PP * (m : Int) * w.n = PP * w.n * (m : Int) := by rw [Int.mul_assoc, Int.mul_comm (m : Int), ← Int.mul_assoc]
              have a3 : w.p * (m : Int) * NN = w.p * NN * (m : Int) := by rw [Int.mul_assoc, Int.mul_comm (m : Int), ← Int.mul_assoc]
              rw [a1, a2]
              rw [a3] at s1
              exact Int.le_trans s1 s2
            have s4 := Int.le_of_mul_le_mul_right s3 (by omega)
            rw [Int.mul_add, Int.add_mul]
            omega
        · rw [if_neg (fun h => h.elim hb hlt)]
          refine ⟨fun h => absurd h hb, fun _ => ?_, by omega⟩
          rw [Int.mul_add, Int.add_mul]
          omega

theorem worst_all {e l : Int} {xs : List Visit} (hv : valid xs = true) (h0 : xs.length ≠ 0) : (wAt 0 e l xs 8).p * (xs.length : Int) ≤ pSum one' e l xs * (wAt 0 e l xs 8).n := by
  have h30 := (valid_at hv).1
  have hb := stops_at hv h0 0 e l
  have h := (worst_sum e l xs h30 8).2.1 hb
  have hst : ∀ v ∈ xs, 0 ≤ v.stop ∧ v.stop < 8 := by
    intro v hm
    unfold valid at hv
    simp only [Bool.and_eq_true, List.all_eq_true] at hv
    have := hv.2 v hm
    unfold vGood2 at this
    simp only [Bool.and_eq_true, inR_iff] at this
    omega
  have e1 : sum8 (fun j => ((at' xs j).length : Int)) 8 = xs.length := by
    rw [sum8_congr (fun j => len_eq (at' xs j)), by_stops _ xs hst, ← len_eq]
  have e2 : sum8 (fun j => pSum one' e l (at' xs j)) 8 = pSum one' e l xs := by
    rw [sum8_congr (fun j => pSum_eq e l (at' xs j)), by_stops _ xs hst, ← pSum_eq]
  rw [e1, e2] at h
  exact h

theorem all_punctual {xs : List Visit} (hok : ∀ v ∈ xs, v.ok) (hv : valid xs = true) : pSum one' 600 600 xs = xs.length := by
  rw [pSum_eq, len_eq]
  congr 1
  refine List.map_congr_left fun v hm => ?_
  have hg : vGood2 v = true := by
    unfold valid at hv
    simp only [Bool.and_eq_true, List.all_eq_true] at hv
    exact hv.2 v hm
  have hd := good_del (hok v hm) hg
  have : vPun 600 600 v = true := by
    unfold vPun
    have e1 : IntKind.i64.wrap (v.actual - v.planned) = vDel v := by unfold vDel; unfold vDel at hd; exact wrap_small (by omega) (by omega)
    have e2 : IntKind.i64.wrap (0 - 600) = -600 := by decide
    rw [e1, e2, inR_iff]
    omega
  rw [this, if_pos rfl]
end Go.Proofs.Ytobnoplkpmdeiaa

