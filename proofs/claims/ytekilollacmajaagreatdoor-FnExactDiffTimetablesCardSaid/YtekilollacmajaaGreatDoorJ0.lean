/- Changes of two lists that disagree: plain facts. -/
import Derived.Test.YtekilollacmajaaGreatDoorV2
namespace Go.Proofs.YtekilollacmajaaGreatDoor
open Go Go.Am

def Change.beqC (v w : Change) : Bool := decide (v.kind = w.kind) && (v.trip.beq w.trip && decide (v.to = w.to))
theorem Change.beqC_iff {v w : Change} : v.beqC w = true ↔ v = w := by
  cases v; cases w
  simp [Change.beqC, Trip.beq_iff]
def clashB (x d : Change) : Bool := decide (x.trip.id = d.trip.id) && !(x.beqC d)
def findC (ys : List Change) (k : Int) : Int := idxF (fun y => decide (y.trip.id = k)) ys
def clashes (xs ys : List Change) : List Int := (xs.filter (fun x => ys.any (clashB x))).map (fun x => x.trip.id)
def AscC (cs : List Change) : Prop := cs.Pairwise fun a b => a.trip.id < b.trip.id

theorem foldC_asc : ∀ (cs : List Change) (out : List Trip) (last : Option Int) (r : List Trip), foldC cs out last = some r → AscC cs ∧ ∀ c ∈ cs, ∀ l, last = some l → l < c.trip.id
  | [], _, _, _, _ => ⟨List.Pairwise.nil, fun c hc => absurd hc (by simp)⟩
  | c :: cs, out, last, r, h => by
    unfold foldC at h
    cases hl : tooLow last c with
    | true => rw [hl] at h; cases h
    | false =>
      rw [hl] at h
      simp only [Bool.false_eq_true, if_false] at h
      cases hs : stepC out c with
      | none => rw [hs] at h; cases h
      | some out' =>
        rw [hs] at h
        obtain ⟨h1, h2⟩ := foldC_asc cs out' (some c.trip.id) r h
        have hlow : ∀ l, last = some l → l < c.trip.id := fun l e => by
          rw [e] at hl
          simp only [tooLow, decide_eq_false_iff_not] at hl
          omega
        refine ⟨List.Pairwise.cons (fun d hd => h2 d hd _ rfl) h1, fun d hd l e => ?_⟩
        rcases List.mem_cons.1 hd with e' | hd'
        · rw [e']; exact hlow l e
        · have := h2 d hd' _ rfl
          have := hlow l e
          omega
theorem ascC_one {ys : List Change} (h : AscC ys) {i j : Nat} {x y : Change} (hi : ys[i]? = some x) (hj : ys[j]? = some y) (he : x.trip.id = y.trip.id) : i = j := by
  have key : ∀ (a b : Nat) (u v : Change), ys[a]? = some u → ys[b]? = some v → a < b → u.trip.id < v.trip.id := fun a b u v ha hb hab => by
    obtain ⟨l1, e1⟩ := List.getElem?_eq_some_iff.1 ha
    obtain ⟨l2, e2⟩ := List.getElem?_eq_some_iff.1 hb
    have := List.pairwise_iff_getElem.1 h a b l1 l2 hab
    rw [e1, e2] at this
    exact this
  rcases Nat.lt_trichotomy i j with h1 | h1 | h1
  · have := key i j x y hi hj h1; omega
  · exact h1
  · have := key j i y x hj hi h1; omega
theorem findC_hit {ys : List Change} {k : Int} (h : 0 ≤ findC ys k) : ∃ (j : Nat) (y : Change), j < ys.length ∧ ys[j]? = some y ∧ y.trip.id = k ∧ findC ys k = j := by
  unfold findC idxF at h ⊢
  split at h
  · rename_i ha
    rw [if_pos ha]
    have hlt : ys.findIdx (fun y => decide (y.trip.id = k)) < ys.length := List.findIdx_lt_length_of_exists (by simpa using List.any_eq_true.1 ha)
    have := List.findIdx_getElem (w := hlt)
    exact ⟨_, _, hlt, List.getElem?_eq_getElem hlt, by simpa using this, rfl⟩
  · omega
/-- The reference looks at the first change with the number; there is but one. -/
theorem clash_at {ys : List Change} (h : AscC ys) {x y : Change} {j : Nat} (hj : ys[j]? = some y) (he : y.trip.id = x.trip.id) : ys.any (clashB x) = !(y.beqC x) := by
  have hsym : x.beqC y = y.beqC x := by
    rw [Bool.eq_iff_iff, Change.beqC_iff, Change.beqC_iff]
    exact eq_comm
  rw [Bool.eq_iff_iff, List.any_eq_true]
  constructor
  · rintro ⟨d, hd, hc⟩
    obtain ⟨i, hi⟩ := List.getElem?_of_mem hd
    simp only [clashB, Bool.and_eq_true, decide_eq_true_eq] at hc
    have := ascC_one h hi hj (by rw [he]; exact hc.1.symm)
    subst this
    rw [hi] at hj
    cases hj
    rw [← hsym]
    exact hc.2
  · intro hn
    refine ⟨y, List.mem_of_getElem? hj, ?_⟩
    simp only [clashB, Bool.and_eq_true, decide_eq_true_eq]
    exact ⟨he.symm, by rw [hsym]; exact hn⟩
theorem clash_none {ys : List Change} {x : Change} (h : findC ys x.trip.id < 0) : ys.any (clashB x) = false := by
  rw [List.any_eq_false]
  intro y hy hc
  simp only [clashB, Bool.and_eq_true, decide_eq_true_eq] at hc
  have := (idx_pos (p := fun y : Change => decide (y.trip.id = x.trip.id)) (xs := ys)).2 ⟨y, hy, by simpa using hc.1.symm⟩
  unfold findC at h
  omega

def clashN (xs ys : List Change) (i : Nat) : List Int := clashes (xs.take i) ys
theorem clashN_all {xs : List Change} (ys : List Change) {i : Nat} (h : xs.length ≤ i) : clashN xs ys i = clashes xs ys := by
  unfold clashN; rw [List.take_of_length_le h]
theorem clashN_len (xs ys : List Change) (i : Nat) : (clashN xs ys i).length ≤ i := by
  unfold clashN clashes
  rw [List.length_map]
  have := List.length_filter_le (fun x => ys.any (clashB x)) (xs.take i)
  rw [List.length_take] at this
  omega
theorem clashN_next {xs ys : List Change} {i : Nat} {x : Change} (h : xs[i]? = some x) : clashN xs ys (i + 1) = clashN xs ys i ++ (if ys.any (clashB x) then [x.trip.id] else []) := by
  unfold clashN clashes
  rw [List.take_add_one, h]
  simp only [Option.toList_some, List.filter_append, List.map_append]
  congr 1
  cases hb : ys.any (clashB x) <;> simp [hb]
theorem clashes_len (xs ys : List Change) : (clashes xs ys).length ≤ xs.length := by
  rw [← clashN_all ys (Nat.le_refl xs.length)]
  exact clashN_len xs ys _

end Go.Proofs.YtekilollacmajaaGreatDoor

