/- The waiting time: what both programs compute. -/
import Derived.Test.YtnjojepeilgikaaV16
import Derived.Test.YtnjojepeilgikaaAm33
namespace Go.Proofs.Ytnjojepeilgikaa
open Go Go.Am
set_option maxRecDepth 100000
set_option maxHeartbeats 4000000

/-- Two sorted lists of the same numbers are one. -/
theorem sorted_same : ∀ {a b : List Int}, a.Pairwise (fun x y => x ≤ y) → b.Pairwise (fun x y => x ≤ y) → a.Perm b → a = b
  | [], b, _, _, h => (List.Perm.nil_eq h)
  | x :: a, [], _, _, h => absurd h.symm (by simp)
  | x :: a, y :: b, ha, hb, h => by
    have hx : x ∈ y :: b := h.mem_iff.1 (by simp)
    have hy : y ∈ x :: a := h.mem_iff.2 (by simp)
    have h1 : y ≤ x := by
      rcases List.mem_cons.1 hx with rfl | hx
      · omega
      · exact (List.pairwise_cons.1 hb).1 x hx
    have h2 : x ≤ y := by
      rcases List.mem_cons.1 hy with rfl | hy
      · omega
      · exact (List.pairwise_cons.1 ha).1 y hy
    have e : x = y := by omega
    subst e
    rw [sorted_same (List.pairwise_cons.1 ha).2 (List.pairwise_cons.1 hb).2 (List.perm_cons x |>.1 h)]

def gap (s : List Int) (k : Nat) : Int := s.getD (k + 1) 0 - s.getD k 0
def sqAt (s : List Int) : Nat → Int
  | 0 => 0
  | k + 1 => sqAt s k + gap s k * gap s k
def rangeOf (s : List Int) : Int := s.getD (s.length - 1) 0 - s.getD 0 0

def tOk (x : Int) : Prop := -60 ≤ x ∧ x ≤ 2400

theorem getD_ok {s : List Int} (h : ∀ x ∈ s, tOk x) {k : Nat} (hk : k < s.length) : tOk (s.getD k 0) := by
  rw [List.getD_eq_getElem?_getD, List.getElem?_eq_getElem hk]
  exact h _ (List.getElem_mem hk)

theorem gap_le {s : List Int} (h : ∀ x ∈ s, tOk x) {k : Nat} (hk : k + 1 < s.length) : -2460 ≤ gap s k ∧ gap s k ≤ 2460 := by
  have h1 := getD_ok h hk
  have h2 := getD_ok h (show k < s.length by omega)
  unfold gap
  unfold tOk at h1 h2
  omega

theorem sq_le {g : Int} (h : -2460 ≤ g ∧ g ≤ 2460) : 0 ≤ g * g ∧ g * g ≤ 6051600 := by
  have h1 : (g.natAbs : Int) * g.natAbs = g * g := Int.natAbs_mul_self
  have h2 : g.natAbs ≤ 2460 := by omega
  have h3 : g.natAbs * g.natAbs ≤ 2460 * 2460 := Nat.mul_le_mul h2 h2
  have h5 : ((g.natAbs * g.natAbs : Nat) : Int) = (g.natAbs : Int) * g.natAbs := Int.natCast_mul _ _
  rw [← h1, ← h5]
  generalize g.natAbs * g.natAbs = q at h3
  omega

theorem sqAt_le {s : List Int} (h : ∀ x ∈ s, tOk x) : ∀ k : Nat, k + 1 ≤ s.length → 0 ≤ sqAt s k ∧ sqAt s k ≤ 6051600 * (k : Int)
  | 0, _ => by simp [sqAt]
  | k + 1, hk => by
    have ih := sqAt_le h k (by omega)
    have hs := sq_le (gap_le h (show k + 1 < s.length by omega))
    simp only [sqAt]
    push_cast
    omega

theorem range_le {s : List Int} (h : ∀ x ∈ s, tOk x) (hs : s.Pairwise (fun x y => x ≤ y)) (h0 : s ≠ []) : 0 ≤ rangeOf s ∧ rangeOf s ≤ 2460 := by
  have hl : 0 < s.length := List.length_pos_iff.2 h0
  have h1 := getD_ok h (show s.length - 1 < s.length by omega)
  have h2 := getD_ok h hl
  have h3 : s.getD 0 0 ≤ s.getD (s.length - 1) 0 := by
    rw [List.getD_eq_getElem?_getD, List.getD_eq_getElem?_getD, List.getElem?_eq_getElem hl, List.getElem?_eq_getElem (show s.length - 1 < s.length by omega)]
    simp only [Option.getD_some]
    by_cases e : s.length - 1 = 0
    · simp [e]
    · exact List.pairwise_iff_getElem.1 hs 0 (s.length - 1) hl (by omega) (by omega)
  unfold rangeOf
  unfold tOk at h1 h2
  omega

/-- A number put into its place. -/
theorem put_sorted {s : List Int} {x : Int} {k : Nat} (hs : s.Pairwise (fun a b => a ≤ b)) (hk : k ≤ s.length) (h1 : ∀ y ∈ s.drop k, x < y) (h2 : k = 0 ∨ s.getD (k - 1) 0 ≤ x) : (s.take k ++ [x] ++ s.drop k).Pairwise (fun a b => a ≤ b) := by
  have hlow : ∀ y ∈ s.take k, y ≤ x := by
    intro y hy
    rcases h2 with rfl | h2
    · simp at hy
    · by_cases k0 : k = 0
      · subst k0; simp at hy
      · obtain ⟨j, hj, rfl⟩ := List.mem_take_iff_getElem.1 hy
        have hjk : j < k := by omega
        rw [List.getD_eq_getElem?_getD, List.getElem?_eq_getElem (show k - 1 < s.length by omega)] at h2
        simp only [Option.getD_some] at h2
        by_cases e : j = k - 1
        · subst e; exact h2
        · have := List.pairwise_iff_getElem.1 hs j (k - 1) (by omega) (by omega) (by omega)
          omega
  have hsplit : (s.take k ++ s.drop k).Pairwise (fun a b => a ≤ b) := by rw [List.take_append_drop]; exact hs
  rw [List.pairwise_append] at hsplit
  rw [List.append_assoc, List.pairwise_append]
  refine ⟨hsplit.1, ?_, ?_⟩
  · rw [List.singleton_append, List.pairwise_cons]
    exact ⟨fun y hy => by have := h1 y hy; omega, hsplit.2.1⟩
  · intro a ha b hb
    rcases List.mem_append.1 hb with hb | hb
    · have : b = x := by simpa using hb
      subst this
      exact hlow a ha
    · exact hsplit.2.2 a ha b hb

theorem put_perm {s l : List Int} {x : Int} {k : Nat} (h : s.Perm l) : (s.take k ++ [x] ++ s.drop k).Perm (l ++ [x]) := by
  have h1 : (s.take k ++ [x] ++ s.drop k).Perm (s ++ [x]) := by
    have h2 : (s.take k ++ ([x] ++ s.drop k)).Perm (s.take k ++ (s.drop k ++ [x])) := List.Perm.append_left _ List.perm_append_comm
    rw [← List.append_assoc, ← List.append_assoc, List.take_append_drop] at h2
    exact h2
  exact h1.trans (h.append_right _)

end Go.Proofs.Ytnjojepeilgikaa

