/- The worst stop (as for the other rows over visits; names for numbers: conv.py). -/
import Derived.Test.YtobnoplkpmdeiaaS7
namespace Go.Proofs.Ytobnoplkpmdeiaa
open Go Go.Am
set_option maxRecDepth 100000
set_option maxHeartbeats 4000000

/-- The best so far: stop, punctual visits, visits. -/
structure Wst where
  b : Int
  p : Int
  n : Int

def at' (xs : List Visit) (k : Nat) : List Visit := xs.filter (atStop (k : Nat))
def one' : Visit → Int := fun _ => 1

def wStep (e l : Int) (xs : List Visit) (a : Wst) (k : Nat) : Wst :=
  if (at' xs k).length = 0 then a
  else if a.b < 0 ∨ pSum one' e l (at' xs k) * a.n < a.p * ((at' xs k).length : Int) then ⟨k, pSum one' e l (at' xs k), (at' xs k).length⟩ else a

def wAt (d e l : Int) (xs : List Visit) : Nat → Wst
  | 0 => ⟨-1, 0, d⟩
  | k + 1 => wStep e l xs (wAt d e l xs k) k

theorem at_len (xs : List Visit) (k : Nat) : (at' xs k).length ≤ xs.length := List.length_filter_le _ _

theorem one_le (e l : Int) (xs : List Visit) (k : Nat) : 0 ≤ pSum one' e l (at' xs k) ∧ pSum one' e l (at' xs k) ≤ ((at' xs k).length : Int) := by
  have h := sums_all (wt := one') (e := e) (l := l) (xs := at' xs k) (fun v _ => by simp [one'])
  have h1 : wSum one' (at' xs k) = (at' xs k).length := wSum_one _
  omega

theorem wAt_le {d e l : Int} {xs : List Visit} (hd : 0 ≤ d ∧ d ≤ 1) (hl : xs.length ≤ 30) : ∀ k, -1 ≤ (wAt d e l xs k).b ∧ (wAt d e l xs k).b < k ∧ 0 ≤ (wAt d e l xs k).p ∧ (wAt d e l xs k).p ≤ 30 ∧ 0 ≤ (wAt d e l xs k).n ∧ (wAt d e l xs k).n ≤ 30 ∧ (0 ≤ (wAt d e l xs k).b → 1 ≤ (wAt d e l xs k).n)
  | 0 => by simp only [wAt]; omega
  | k + 1 => by
    have ih := wAt_le (e := e) (l := l) hd hl k
    have h1 := at_len xs k
    have h2 := one_le e l xs k
    simp only [wAt, wStep]
    split
    · omega
    · split
      · simp only; omega
      · omega

/-- Both programs hold the same: but for the count that stands where nothing is held yet. -/
theorem wAt_same (e l : Int) (xs : List Visit) : ∀ k, (wAt 1 e l xs k).b = (wAt 0 e l xs k).b ∧ (wAt 1 e l xs k).p = (wAt 0 e l xs k).p ∧ (0 ≤ (wAt 0 e l xs k).b → (wAt 1 e l xs k).n = (wAt 0 e l xs k).n)
  | 0 => by simp [wAt]
  | k + 1 => by
    obtain ⟨h1, h2, h3⟩ := wAt_same e l xs k
    simp only [wAt, wStep]
    split
    · exact ⟨h1, h2, h3⟩
    · by_cases hb : (wAt 0 e l xs k).b < 0
      · rw [if_pos (.inl (by omega)), if_pos (.inl hb)]
        exact ⟨rfl, rfl, fun _ => rfl⟩
      · have hn := h3 (by omega)
        rw [h1, h2, hn]
        split
        · exact ⟨rfl, rfl, fun _ => rfl⟩
        · exact ⟨h1, h2, h3⟩

/-- Where there is a visit, something is held behind its stop. -/
theorem wAt_held {d e l : Int} {xs : List Visit} {v : Visit} (hv : v ∈ xs) {j : Nat} (hj : v.stop = (j : Nat)) : ∀ k, j < k → 0 ≤ (wAt d e l xs k).b
  | 0, h => by omega
  | k + 1, h => by
    have hpos : 0 < (at' xs j).length := List.length_pos_of_mem (List.mem_filter.2 ⟨hv, by simp [atStop, hj]⟩)
    simp only [wAt, wStep]
    by_cases hk : j = k
    · subst hk
      rw [if_neg (by omega)]
      split
      · simp only; omega
      · rename_i hn
        have : ¬ (wAt d e l xs j).b < 0 := fun h => hn (.inl h)
        omega
    · have ih := wAt_held (d := d) (e := e) (l := l) hv hj k (by omega)
      split
      · exact ih
      · split
        · simp only; omega
        · exact ih
end Go.Proofs.Ytobnoplkpmdeiaa


