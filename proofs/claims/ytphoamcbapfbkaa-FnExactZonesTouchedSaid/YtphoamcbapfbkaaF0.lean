/- Sets of zones as bits and as lists in order: plain facts. -/
import Derived.Test.YtphoamcbapfbkaaN3
import Derived.Laws.BitsLemmas
namespace Go.Proofs.Ytphoamcbapfbkaa
open Go Go.Am

/-- The members of a set, in order. -/
def zmem (m : Nat) : List Int := ((List.range 10).filter fun z => m.testBit z).map fun z => ((z : Nat) : Int)
/-- A list in order, and one more. -/
def putL (l : List Int) (n : Int) : List Int := if l.contains n then l else l.takeWhile (· < n) ++ n :: l.dropWhile (· < n)
def zset (zs : List Int) : Nat := zs.foldl (fun m z => m ||| 2 ^ z.toNat) 0
def zadd (m : Nat) (zs : List Int) : Nat := zs.foldl (fun m z => m ||| 2 ^ z.toNat) m
theorem or_small : ∀ m : Fin 1024, ∀ z : Fin 10, bits .or .i64 (m.val : Int) ((2 ^ z.val : Nat) : Int) = ((m.val ||| 2 ^ z.val : Nat) : Int) := by decide +kernel
theorem and_small : ∀ m : Fin 1024, ∀ z : Fin 10, bits .and .i64 ((m.val : Int).fdiv (2 ^ z.val)) 1 = if m.val.testBit z.val then 1 else 0 := by decide +kernel
theorem put_small : ∀ m : Fin 1024, ∀ z : Fin 10, putL (zmem m.val) (z.val : Int) = zmem (m.val ||| 2 ^ z.val) := by decide +kernel
theorem zadd_next {zs : List Int} {i : Nat} {z : Int} (m : Nat) (h : zs[i]? = some z) : zadd m (zs.take (i + 1)) = zadd m (zs.take i) ||| 2 ^ z.toNat := by
  unfold zadd
  rw [List.take_add_one, h, List.foldl_append]
  rfl
theorem zadd_lt : ∀ (zs : List Int) (m : Nat), m < 1024 → (∀ z ∈ zs, inR z 1 9 = true) → zadd m zs < 1024
  | [], m, hm, _ => hm
  | z :: r, m, hm, hz => by
    have h1 := (inR_iff _ _ _).1 (hz z (by simp))
    have h2 : (2 : Nat) ^ z.toNat < 1024 := by
      have : (2 : Nat) ^ z.toNat < 2 ^ 10 := Nat.pow_lt_pow_right (by omega) (by omega)
      simpa using this
    exact zadd_lt r _ (Nat.or_lt_two_pow (n := 10) hm h2) fun x hx => hz x (by simp [hx])
theorem put_zmem {m : Nat} {z : Int} (hm : m < 1024) (hz : inR z 1 9 = true) : putL (zmem m) z = zmem (m ||| 2 ^ z.toNat) := by
  have h1 := (inR_iff _ _ _).1 hz
  have h2 := put_small ⟨m, hm⟩ ⟨z.toNat, by omega⟩
  simp only at h2
  rwa [show ((z.toNat : Nat) : Int) = z from by omega] at h2
theorem or_zone {m : Nat} {z : Int} (hm : m < 1024) (hz : inR z 1 9 = true) : bits .or .i64 (m : Int) ((2 ^ z.toNat : Nat) : Int) = ((m ||| 2 ^ z.toNat : Nat) : Int) := by
  have h1 := (inR_iff _ _ _).1 hz
  exact or_small ⟨m, hm⟩ ⟨z.toNat, by omega⟩
theorem or_two {m k : Nat} (hm : m < 1024) (hk : k < 1024) : bits .or .i64 (m : Int) (k : Int) = ((m ||| k : Nat) : Int) :=
  (bits_nat .i64 10 (by decide) (fun n h1 h2 => wrap_small (by omega) (by omega)) m k hm hk).2
theorem zadd_or : ∀ (zs : List Int) (m k : Nat), m ||| zadd k zs = zadd (m ||| k) zs
  | [], m, k => rfl
  | z :: r, m, k => by
    show m ||| zadd (k ||| 2 ^ z.toNat) r = zadd ((m ||| k) ||| 2 ^ z.toNat) r
    rw [zadd_or r, Nat.or_assoc]
/-- How many of the numbers below i are members. -/
def zcnt (m i : Nat) : Nat := ((List.range i).filter fun z => m.testBit z).length
theorem zcnt_next (m i : Nat) : zcnt m (i + 1) = zcnt m i + (if m.testBit i then 1 else 0) := by
  unfold zcnt
  rw [List.range_succ, List.filter_append, List.length_append]
  congr 1
  cases h : m.testBit i <;> simp [h]
theorem zcnt_le (m i : Nat) : zcnt m i ≤ i := by
  unfold zcnt
  have := List.length_filter_le (fun z => m.testBit z) (List.range i)
  rwa [List.length_range] at this
theorem zmem_len (m : Nat) : (zmem m).length = zcnt m 10 := by unfold zmem zcnt; rw [List.length_map]
theorem and_zone {m z : Nat} (hm : m < 1024) (hz : z < 10) : bits .and .i64 ((m : Int).fdiv (2 ^ z)) 1 = if m.testBit z then 1 else 0 := and_small ⟨m, hm⟩ ⟨z, hz⟩
theorem zadd_even : ∀ (zs : List Int) (m : Nat), m.testBit 0 = false → (∀ z ∈ zs, inR z 1 9 = true) → (zadd m zs).testBit 0 = false
  | [], m, hm, _ => hm
  | z :: r, m, hm, hz => by
    have h1 := (inR_iff _ _ _).1 (hz z (by simp))
    refine zadd_even r _ ?_ fun x hx => hz x (by simp [hx])
    rw [Nat.testBit_or, hm, Nat.testBit_two_pow]
    simp only [Bool.false_or, decide_eq_false_iff_not]
    omega
/-- The members below i. -/
def zlow (m i : Nat) : List Int := ((List.range i).filter fun z => m.testBit z).map fun z => ((z : Nat) : Int)
theorem zlow_next (m i : Nat) : zlow m (i + 1) = zlow m i ++ (if m.testBit i then [(i : Int)] else []) := by
  unfold zlow
  rw [List.range_succ, List.filter_append, List.map_append]
  congr 1
  cases h : m.testBit i <;> simp [h]
theorem zlow_len (m i : Nat) : (zlow m i).length ≤ i := by
  unfold zlow
  rw [List.length_map]
  have := List.length_filter_le (fun z => m.testBit z) (List.range i)
  rwa [List.length_range] at this
theorem zlow_one {m : Nat} (h : m.testBit 0 = false) : zlow m 1 = [] := by
  unfold zlow
  simp [List.range_succ, h]
theorem zmem_low (m : Nat) : zmem m = zlow m 10 := rfl
end Go.Proofs.Ytphoamcbapfbkaa

