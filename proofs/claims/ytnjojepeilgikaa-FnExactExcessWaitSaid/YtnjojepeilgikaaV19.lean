/- The walks of the excess wait, and its law. -/
import Derived.Test.YtnjojepeilgikaaV18
namespace Go.Proofs.Ytnjojepeilgikaa
open Go Go.Am
set_option maxRecDepth 100000
set_option maxHeartbeats 2000000
attribute [local irreducible] amOps amC opCall opIndexAddr opPick retQ opMake opStore amDraw opAppend opLoad opNilCmp opSlice IntKind.wrap srt sqAt rangeOf

def plan (v : Visit) : Int := v.planned
def act (v : Visit) : Int := v.actual
def ewAt (s : Int) (xs : List Visit) : List Visit := xs.filter (atStop s)
/-- The sums and ranges of the planned and of the actual times. -/
def ewA (s : Int) (xs : List Visit) : Int := sqAt (srt ((ewAt s xs).map act)) ((ewAt s xs).length - 1)
def ewB (s : Int) (xs : List Visit) : Int := sqAt (srt ((ewAt s xs).map plan)) ((ewAt s xs).length - 1)
def ewX (s : Int) (xs : List Visit) : Int := rangeOf (srt ((ewAt s xs).map act))
def ewY (s : Int) (xs : List Visit) : Int := rangeOf (srt ((ewAt s xs).map plan))
def ewOk (s : Int) (xs : List Visit) : Bool := valid xs && inR s 0 7 && !decide ((ewAt s xs).length < 2) && !decide (ewX s xs = 0) && !decide (ewY s xs = 0)
def ewNum (s : Int) (xs : List Visit) : Int := ewA s xs * ewY s xs - ewB s xs * ewX s xs
def ewDen (s : Int) (xs : List Visit) : Int := 2 * ewX s xs * ewY s xs
def ewP (s : Int) (xs : List Visit) : Int := if ewOk s xs then IntKind.i64.wrap ((ewNum s xs).tdiv (gcdI (ewNum s xs) (ewDen s xs))) else 0
def ewQ (s : Int) (xs : List Visit) : Int := if ewOk s xs then IntKind.i64.wrap ((ewDen s xs).tdiv (gcdI (ewNum s xs) (ewDen s xs))) else 0

theorem times_ok {xs : List Visit} (hok : ∀ v ∈ xs, v.ok) (hv : valid xs = true) (s : Int) : (∀ x ∈ (ewAt s xs).map plan, tOk x) ∧ (∀ x ∈ (ewAt s xs).map act, tOk x) := by
  simp only [valid, Bool.and_eq_true, List.all_eq_true] at hv
  have h1 : ∀ v ∈ ewAt s xs, tOk v.planned ∧ tOk v.actual := by
    intro v hvm
    have hvx : v ∈ xs := (List.mem_filter.1 hvm).1
    obtain ⟨q1, q2, q3, q4, q5⟩ := good_del (hok v hvx) (hv.2 v hvx)
    unfold vDel at q1 q2
    unfold tOk
    omega
  constructor
  · intro x hx
    obtain ⟨v, hvm, rfl⟩ := List.mem_map.1 hx
    exact (h1 v hvm).1
  · intro x hx
    obtain ⟨v, hvm, rfl⟩ := List.mem_map.1 hx
    exact (h1 v hvm).2

theorem prod_le {a b : Int} (ha : 0 ≤ a ∧ a ≤ 200000000) (hb : 0 ≤ b ∧ b ≤ 5000) : 0 ≤ a * b ∧ a * b ≤ 1000000000000 := by
  have q1 : 0 ≤ a * b := Int.mul_nonneg ha.1 hb.1
  have q2 : a * b ≤ 200000000 * 5000 := Int.mul_le_mul ha.2 hb.2 hb.1 (by omega)
  omega

theorem gcd_two (a b : Int) : gcdI (2 * a) (2 * b) = 2 * gcdI a b := by
  unfold gcdI
  rw [Int.natAbs_mul, Int.natAbs_mul, show (2 : Int).natAbs = 2 from rfl, Nat.gcd_mul_left]
  push_cast
  rfl

/-- What holds where there are two visits at least. -/
structure Ew (s : Int) (xs : List Visit) : Prop where
  a : 0 ≤ ewA s xs ∧ ewA s xs ≤ 200000000
  b : 0 ≤ ewB s xs ∧ ewB s xs ≤ 200000000
  x : 0 ≤ ewX s xs ∧ ewX s xs ≤ 2460
  y : 0 ≤ ewY s xs ∧ ewY s xs ≤ 2460

theorem ew_of {xs : List Visit} (hok : ∀ v ∈ xs, v.ok) (hv : valid xs = true) {s : Int} (h2 : 2 ≤ (ewAt s xs).length) : Ew s xs := by
  obtain ⟨hp, ha⟩ := times_ok hok hv s
  obtain ⟨h30, _⟩ := valid_at hv
  have hle : (ewAt s xs).length ≤ xs.length := List.length_filter_le _ _
  have l1 : (srt ((ewAt s xs).map act)).length = (ewAt s xs).length := by rw [srt_len, List.length_map]
  have l2 : (srt ((ewAt s xs).map plan)).length = (ewAt s xs).length := by rw [srt_len, List.length_map]
  have n1 : srt ((ewAt s xs).map act) ≠ [] := by intro h; rw [h] at l1; simp at l1; omega
  have n2 : srt ((ewAt s xs).map plan) ≠ [] := by intro h; rw [h] at l2; simp at l2; omega
  have k1 := sqAt_le (srt_ok ha) ((ewAt s xs).length - 1) (by omega)
  have k2 := sqAt_le (srt_ok hp) ((ewAt s xs).length - 1) (by omega)
  refine ⟨⟨k1.1, ?_⟩, ⟨k2.1, ?_⟩, range_le (srt_ok ha) (srt_le _) n1, range_le (srt_ok hp) (srt_le _) n2⟩
  · have := k1.2; unfold ewA; omega
  · have := k2.2; unfold ewB; omega

theorem ew_num {s : Int} {xs : List Visit} (h : Ew s xs) : IntKind.i64.wrap (IntKind.i64.wrap (ewA s xs * ewY s xs) - IntKind.i64.wrap (ewB s xs * ewX s xs)) = ewNum s xs ∧ -1000000000000 ≤ ewNum s xs ∧ ewNum s xs ≤ 1000000000000 := by
  have q1 := prod_le h.a (b := ewY s xs) (by have := h.y; omega)
  have q2 := prod_le h.b (b := ewX s xs) (by have := h.x; omega)
  unfold ewNum
  rw [wrap_small (n := ewA s xs * ewY s xs) (by omega) (by omega), wrap_small (n := ewB s xs * ewX s xs) (by omega) (by omega)]
  exact ⟨wrap_small (by omega) (by omega), by omega, by omega⟩
theorem ew_den {s : Int} {xs : List Visit} (h : Ew s xs) : IntKind.i64.wrap (IntKind.i64.wrap (2 * ewX s xs) * ewY s xs) = ewDen s xs ∧ 0 ≤ ewDen s xs ∧ ewDen s xs ≤ 1000000000000 := by
  have q0 := h.x
  have q1 := prod_le (a := 2 * ewX s xs) (b := ewY s xs) (by omega) (by have := h.y; omega)
  unfold ewDen
  rw [wrap_small (n := 2 * ewX s xs) (by omega) (by omega)]
  exact ⟨wrap_small (by omega) (by omega), by omega, by omega⟩
theorem ew_num2 {s : Int} {xs : List Visit} (h : Ew s xs) : IntKind.i64.wrap (IntKind.i64.wrap (ewA s xs * (2 * ewY s xs)) - IntKind.i64.wrap (ewB s xs * (2 * ewX s xs))) = 2 * ewNum s xs := by
  have q1 := prod_le h.a (b := 2 * ewY s xs) (by have := h.y; omega)
  have q2 := prod_le h.b (b := 2 * ewX s xs) (by have := h.x; omega)
  rw [wrap_small (n := ewA s xs * (2 * ewY s xs)) (by omega) (by omega), wrap_small (n := ewB s xs * (2 * ewX s xs)) (by omega) (by omega), wrap_small (by omega) (by omega)]
  unfold ewNum
  rw [Int.mul_sub, Int.mul_left_comm, Int.mul_left_comm (ewB s xs)]
theorem ew_den2 {s : Int} {xs : List Visit} (h : Ew s xs) : IntKind.i64.wrap (2 * ewX s xs * (2 * ewY s xs)) = 2 * ewDen s xs := by
  have q0 := h.x
  have q1 := prod_le (a := 2 * ewX s xs) (b := 2 * ewY s xs) (by omega) (by have := h.y; omega)
  rw [wrap_small (by omega) (by omega)]
  unfold ewDen
  rw [Int.mul_left_comm]
theorem den_pos {s : Int} {xs : List Visit} (h : Ew s xs) (hx : ewX s xs ≠ 0) (hy : ewY s xs ≠ 0) : 0 < ewDen s xs := by
  unfold ewDen
  exact Int.mul_pos (by have := h.x; omega) (by have := h.y; omega)

theorem half (a b : Int) : (2 * a).tdiv (gcdI (2 * a) (2 * b)) = a.tdiv (gcdI a b) := by
  rw [gcd_two]
  exact Int.mul_tdiv_mul_of_pos _ _ (by omega)

end Go.Proofs.Ytnjojepeilgikaa

