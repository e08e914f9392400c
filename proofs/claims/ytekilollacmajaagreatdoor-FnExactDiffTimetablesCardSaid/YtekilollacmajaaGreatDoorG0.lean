/- Lists of changes merged: plain facts. -/
import Derived.Test.YtekilollacmajaaGreatDoorJ0
import Derived.Test.YtekilollacmajaaGreatDoorAmP
namespace Go.Proofs.YtekilollacmajaaGreatDoor
open Go Go.Am Go.Proofs

instance : Inhabited Change := ⟨⟨0, ⟨0, 0, 0⟩, 0⟩⟩
def cmpC (x y : Change) : Int := if x.trip.id < y.trip.id then -1 else if y.trip.id < x.trip.id then 1 else 0
def chgLt (x y : Change) : Bool := decide (x.trip.id < y.trip.id)
theorem chgLt_eq : Go.Proofs.ltOf cmpC = chgLt := by
  funext x y
  unfold Go.Proofs.ltOf cmpC chgLt
  split
  · rename_i h
    simp [h]
  · split <;> simp_all
theorem chgWeak : Weak chgLt := by
  refine ⟨fun x y h => ?_, fun x y z h1 h2 => ?_⟩
  · unfold chgLt at *
    simp only [decide_eq_true_eq, decide_eq_false_iff_not] at *
    omega
  · unfold chgLt at *
    simp only [decide_eq_false_iff_not] at *
    omega

/-! Neighbors that are the same, once. -/

def dupB (xs : List Change) (i : Nat) (x : Change) : Bool :=
  match i with
  | 0 => false
  | j + 1 => match xs[j]? with | some y => x.beqC y | none => false
def ddN (xs : List Change) : Nat → List Change
  | 0 => []
  | i + 1 => ddN xs i ++ (match xs[i]? with | some x => if dupB xs i x then [] else [x] | none => [])
theorem ddN_len (xs : List Change) : ∀ i, (ddN xs i).length ≤ i
  | 0 => by simp [ddN]
  | i + 1 => by
    have := ddN_len xs i
    unfold ddN
    rw [List.length_append]
    split
    · split <;> simp <;> omega
    · simp; omega
theorem ddN_next {xs : List Change} {i : Nat} {x : Change} (h : xs[i]? = some x) : ddN xs (i + 1) = if dupB xs i x then ddN xs i else ddN xs i ++ [x] := by
  show ddN xs i ++ (match xs[i]? with | some x => if dupB xs i x then [] else [x] | none => []) = _
  rw [h]
  simp only
  split <;> simp
theorem ddN_pos {xs : List Change} : ∀ {i : Nat}, 0 < i → 0 < xs.length → 0 < (ddN xs i).length
  | i + 1, _, hx => by
    rcases Nat.eq_zero_or_pos i with rfl | hi
    · obtain ⟨x, r, rfl⟩ : ∃ x r, xs = x :: r := by cases xs with | nil => simp at hx | cons x r => exact ⟨x, r, rfl⟩
      rw [ddN_next (x := x) rfl]
      simp [dupB, ddN]
    · have := ddN_pos hi hx
      unfold ddN
      rw [List.length_append]
      omega
/-- Before the first two that are the same there is nothing to leave out. -/
theorem ddN_clean {xs : List Change} : ∀ (i : Nat), i ≤ xs.length → (∀ j x, j < i → xs[j]? = some x → dupB xs j x = false) → ddN xs i = xs.take i
  | 0, _, _ => by simp [ddN]
  | i + 1, hi, h => by
    have hx : xs[i]? = some (xs[i]'hi) := List.getElem?_eq_getElem hi
    rw [ddN_next hx, h i _ (by omega) hx, ddN_clean i (by omega) (fun j x hj hx => h j x (by omega) hx), List.take_add_one, hx]
    simp

def Rises (s : List Change) : Prop := s.Pairwise fun a b => a.trip.id ≤ b.trip.id
theorem srt_rises {s : List Change} (h : Srt chgLt s) : Rises s := h.imp fun {a b} h => by
  unfold chgLt at h
  simp only [decide_eq_false_iff_not] at h
  omega
theorem ddN_asc {s : List Change} (hr : Rises s) (hq : ∀ a ∈ s, ∀ b ∈ s, a.trip.id = b.trip.id → a = b) : ∀ (i : Nat), i ≤ s.length → AscC (ddN s i) ∧ ∀ c, c ∈ ddN s i ↔ c ∈ s.take i
  | 0, _ => ⟨List.Pairwise.nil, fun c => by simp [ddN]⟩
  | i + 1, hi => by
    obtain ⟨h1, h2⟩ := ddN_asc hr hq i (by omega)
    have hx : s[i]? = some (s[i]'hi) := List.getElem?_eq_getElem hi
    have hm : s[i]'hi ∈ s := List.getElem_mem hi
    have hlow : ∀ c ∈ s.take i, c.trip.id ≤ (s[i]'hi).trip.id := fun c hc => by
      obtain ⟨j, hj⟩ := List.getElem?_of_mem hc
      rw [List.getElem?_take] at hj
      split at hj
      · rename_i hlt
        obtain ⟨l1, e1⟩ := List.getElem?_eq_some_iff.1 hj
        have := List.pairwise_iff_getElem.1 hr j i l1 hi hlt
        rw [e1] at this
        exact this
      · cases hj
    generalize s[i]'hi = x at hx hm hlow
    rw [ddN_next hx, List.take_add_one, hx]
    simp only [Option.toList_some]
    cases hd : dupB s i x with
    | true =>
      rw [if_pos rfl]
      refine ⟨h1, fun c => ?_⟩
      have hxt : x ∈ s.take i := by
        cases i with
        | zero => simp [dupB] at hd
        | succ j =>
          unfold dupB at hd
          simp only at hd
          split at hd
          · rename_i y hy
            rw [Change.beqC_iff] at hd
            subst hd
            refine List.mem_of_getElem? (i := j) ?_
            rw [List.getElem?_take, if_pos (by omega)]
            exact hy
          · cases hd
      rw [h2, List.mem_append, List.mem_singleton]
      constructor
      · exact Or.inl
      · rintro (h | rfl)
        · exact h
        · exact hxt
    | false =>
      rw [if_neg (by simp)]
      refine ⟨?_, fun c => by rw [List.mem_append, List.mem_append, h2]⟩
      refine List.pairwise_append.2 ⟨h1, List.pairwise_singleton _ _, fun a ha b hb => ?_⟩
      rw [List.mem_singleton] at hb
      subst hb
      rw [h2] at ha
      have hle := hlow a ha
      by_cases e : a.trip.id = b.trip.id
      case neg => omega
      · have hab := hq a (List.mem_of_mem_take ha) b hm e
        subst hab
        cases i with
        | zero => simp at ha
        | succ j =>
          have hj : j < s.length := by omega
          have hy : s[j]? = some (s[j]'hj) := List.getElem?_eq_getElem hj
          have hjm : s[j]'hj ∈ s := List.getElem_mem hj
          have hjle : (s[j]'hj).trip.id ≤ a.trip.id := by
            obtain ⟨l1, e1⟩ := List.getElem?_eq_some_iff.1 hx
            have := List.pairwise_iff_getElem.1 hr j (j + 1) hj l1 (by omega)
            rw [e1] at this
            exact this
          have hale : a.trip.id ≤ (s[j]'hj).trip.id := by
            obtain ⟨k, hk⟩ := List.getElem?_of_mem ha
            rw [List.getElem?_take] at hk
            split at hk
            · rename_i hlt
              obtain ⟨l1, e1⟩ := List.getElem?_eq_some_iff.1 hk
              rcases Nat.lt_or_ge k j with hkj | hkj
              · have := List.pairwise_iff_getElem.1 hr k j l1 hj hkj
                rw [e1] at this
                exact this
              · have : k = j := by omega
                subst this
                rw [e1]
                exact Int.le_refl _
            · cases hk
          have := hq _ hjm a hm (by omega)
          unfold dupB at hd
          simp only [hy] at hd
          rw [this] at hd
          rw [Change.beqC_iff.2 rfl] at hd
          cases hd

/-! The reference: put in one after another. -/

theorem asc_ext : ∀ {a b : List Change}, AscC a → AscC b → (∀ c, c ∈ a ↔ c ∈ b) → a = b
  | [], [], _, _, _ => rfl
  | [], y :: b, _, _, h => absurd ((h y).2 (by simp)) (by simp)
  | x :: a, [], _, _, h => absurd ((h x).1 (by simp)) (by simp)
  | x :: a, y :: b, ha, hb, h => by
    obtain ⟨ha1, ha2⟩ := List.pairwise_cons.1 ha
    obtain ⟨hb1, hb2⟩ := List.pairwise_cons.1 hb
    have hxy : x = y := by
      rcases List.mem_cons.1 ((h x).1 (by simp)) with h1 | h1
      · exact h1
      · rcases List.mem_cons.1 ((h y).2 (by simp)) with h2 | h2
        · exact h2.symm
        · have := hb1 x h1
          have := ha1 y h2
          omega
    subst hxy
    have ht : a = b := asc_ext ha2 hb2 fun c => by
      have := h c
      simp only [List.mem_cons] at this
      constructor
      · intro hc
        rcases this.1 (.inr hc) with h1 | h1
        · subst h1
          have := ha1 c hc
          omega
        · exact h1
      · intro hc
        rcases this.2 (.inr hc) with h1 | h1
        · subst h1
          have := hb1 c hc
          omega
        · exact h1
    rw [ht]

theorem asc_srt {s : List Change} (h : AscC s) : Srt chgLt s := h.imp fun {a b} h => by
  unfold chgLt
  simp only [decide_eq_false_iff_not]
  omega
theorem mem_insC {s : List Change} {x c : Change} : c ∈ insL chgLt s x ↔ c ∈ s ∨ c = x := by
  unfold insL
  rw [List.mem_append, List.mem_cons, List.mem_filter, List.mem_filter]
  constructor
  · rintro (h | h | h)
    · exact .inl h.1
    · exact .inr h
    · exact .inl h.1
  · rintro (h | h)
    · cases hl : chgLt x c with
      | true => exact .inr (.inr ⟨h, rfl⟩)
      | false => exact .inl ⟨h, rfl⟩
    · exact .inr (.inl h)
theorem ascC_ins {s : List Change} {x : Change} (h : AscC s) (hn : ∀ c ∈ s, c.trip.id ≠ x.trip.id) : AscC (insL chgLt s x) := by
  unfold insL
  refine List.pairwise_append.2 ⟨List.Pairwise.sublist List.filter_sublist h, List.pairwise_cons.2 ⟨fun b hb => ?_, List.Pairwise.sublist List.filter_sublist h⟩, fun a ha b hb => ?_⟩
  · have := (List.mem_filter.1 hb).2
    unfold chgLt at this
    simpa using this
  · obtain ⟨ha1, ha2⟩ := List.mem_filter.1 ha
    have hax : a.trip.id < x.trip.id := by
      unfold chgLt at ha2
      simp only [Bool.not_eq_true', decide_eq_false_iff_not] at ha2
      have := hn a ha1
      omega
    rcases List.mem_cons.1 hb with h1 | h1
    · rw [h1]; exact hax
    · have h2 := (List.mem_filter.1 h1).2
      unfold chgLt at h2
      simp only [decide_eq_true_eq] at h2
      omega

def mrN (xs ys : List Change) : Nat → List Change
  | 0 => xs
  | j + 1 => match ys[j]? with | some y => if 0 ≤ findC xs y.trip.id then mrN xs ys j else insL chgLt (mrN xs ys j) y | none => mrN xs ys j
def mrL (xs ys : List Change) : List Change := mrN xs ys ys.length
theorem mrN_next {xs ys : List Change} {j : Nat} {y : Change} (h : ys[j]? = some y) : mrN xs ys (j + 1) = if 0 ≤ findC xs y.trip.id then mrN xs ys j else insL chgLt (mrN xs ys j) y := by
  show (match ys[j]? with | some y => if 0 ≤ findC xs y.trip.id then mrN xs ys j else insL chgLt (mrN xs ys j) y | none => mrN xs ys j) = _
  rw [h]
theorem findC_neg {xs : List Change} {k : Int} : findC xs k < 0 ↔ ∀ y ∈ xs, y.trip.id ≠ k := by
  unfold findC
  have := idx_pos (p := fun y : Change => decide (y.trip.id = k)) (xs := xs)
  constructor
  · intro h y hy e
    have := this.2 ⟨y, hy, by simpa using e⟩
    omega
  · intro h
    rcases Int.lt_or_le (idxF (fun y : Change => decide (y.trip.id = k)) xs) 0 with h1 | h1
    · exact h1
    · obtain ⟨y, hy, e⟩ := this.1 h1
      exact absurd (by simpa using e) (h y hy)
theorem mrN_asc {xs ys : List Change} (hx : AscC xs) (hy : AscC ys) : ∀ (j : Nat), j ≤ ys.length → AscC (mrN xs ys j) ∧ (∀ c, c ∈ mrN xs ys j ↔ c ∈ xs ∨ (c ∈ ys.take j ∧ findC xs c.trip.id < 0)) ∧ (mrN xs ys j).length ≤ xs.length + j
  | 0, _ => ⟨hx, fun c => by simp [mrN], by simp [mrN]⟩
  | j + 1, hj => by
    obtain ⟨h1, h2, h3⟩ := mrN_asc hx hy j (by omega)
    have hq : ys[j]? = some (ys[j]'hj) := List.getElem?_eq_getElem hj
    have hlow : ∀ c ∈ ys.take j, c.trip.id < (ys[j]'hj).trip.id := fun c hc => by
      obtain ⟨k, hk⟩ := List.getElem?_of_mem hc
      rw [List.getElem?_take] at hk
      split at hk
      · rename_i hlt
        obtain ⟨l1, e1⟩ := List.getElem?_eq_some_iff.1 hk
        have := List.pairwise_iff_getElem.1 hy k j l1 hj hlt
        rw [e1] at this
        exact this
      · cases hk
    generalize ys[j]'hj = y at hq hlow
    rw [mrN_next hq, List.take_add_one, hq]
    simp only [Option.toList_some]
    by_cases hf : 0 ≤ findC xs y.trip.id
    · rw [if_pos hf]
      refine ⟨h1, fun c => ?_, by omega⟩
      rw [h2, List.mem_append, List.mem_singleton]
      constructor
      · rintro (h | ⟨h, h'⟩)
        · exact .inl h
        · exact .inr ⟨.inl h, h'⟩
      · rintro (h | ⟨h | h, h'⟩)
        · exact .inl h
        · exact .inr ⟨h, h'⟩
        · subst h; omega
    · rw [if_neg hf]
      have hn : ∀ c ∈ mrN xs ys j, c.trip.id ≠ y.trip.id := fun c hc => by
        rcases (h2 c).1 hc with h | ⟨h, _⟩
        · exact findC_neg.1 (by omega) c h
        · have := hlow c h; omega
      refine ⟨ascC_ins h1 hn, fun c => ?_, by rw [insL_len chgWeak (asc_srt h1)]; omega⟩
      rw [mem_insC, h2, List.mem_append, List.mem_singleton]
      constructor
      · rintro ((h | ⟨h, h'⟩) | h)
        · exact .inl h
        · exact .inr ⟨.inl h, h'⟩
        · subst h; exact .inr ⟨.inr rfl, by omega⟩
      · rintro (h | ⟨h | h, h'⟩)
        · exact .inl (.inl h)
        · exact .inl (.inr ⟨h, h'⟩)
        · exact .inr h
theorem mrL_len {xs ys : List Change} (hx : AscC xs) (hy : AscC ys) : (mrL xs ys).length ≤ xs.length + ys.length := (mrN_asc hx hy ys.length (Nat.le_refl _)).2.2

theorem clash_no {xs ys : List Change} (h : clashes xs ys = []) {x y : Change} (hx : x ∈ xs) (hy : y ∈ ys) (he : x.trip.id = y.trip.id) : x = y := by
  unfold clashes at h
  have h2 := List.map_eq_nil_iff.1 h
  have h3 := List.filter_eq_nil_iff.1 h2 x hx
  cases hb : x.beqC y with
  | true => exact Change.beqC_iff.1 hb
  | false =>
    exfalso
    exact h3 (List.any_eq_true.2 ⟨y, hy, by unfold clashB; rw [hb]; simp [he]⟩)
/-- Sorted, neighbors once: what the reference puts together. -/
theorem merge_same {xs ys s : List Change} (hx : AscC xs) (hy : AscC ys) (hc : clashes xs ys = []) (hp : s.Perm (xs ++ ys)) (hs : Srt chgLt s) : ddN s s.length = mrL xs ys := by
  have one : ∀ (zs : List Change), AscC zs → ∀ a ∈ zs, ∀ b ∈ zs, a.trip.id = b.trip.id → a = b := fun zs hz a ha b hb e => by
    obtain ⟨i, hi⟩ := List.getElem?_of_mem ha
    obtain ⟨j, hj⟩ := List.getElem?_of_mem hb
    have := ascC_one hz hi hj e
    subst this
    rw [hi] at hj
    injection hj
  have hmem : ∀ c, c ∈ s ↔ c ∈ xs ∨ c ∈ ys := fun c => by rw [hp.mem_iff, List.mem_append]
  have hq : ∀ a ∈ s, ∀ b ∈ s, a.trip.id = b.trip.id → a = b := fun a ha b hb e => by
    rcases (hmem a).1 ha with h1 | h1 <;> rcases (hmem b).1 hb with h2 | h2
    · exact one xs hx a h1 b h2 e
    · exact clash_no hc h1 h2 e
    · exact (clash_no hc h2 h1 e.symm).symm
    · exact one ys hy a h1 b h2 e
  obtain ⟨h1, h2⟩ := ddN_asc (srt_rises hs) hq s.length (Nat.le_refl _)
  obtain ⟨h3, h4, _⟩ := mrN_asc hx hy ys.length (Nat.le_refl _)
  refine asc_ext h1 h3 fun c => ?_
  show c ∈ ddN s s.length ↔ c ∈ mrN xs ys ys.length
  rw [h2, List.take_length, hmem, h4, List.take_length]
  constructor
  · rintro (h | h)
    · exact .inl h
    · rcases Int.lt_or_le (findC xs c.trip.id) 0 with hf | hf
      · exact .inr ⟨h, hf⟩
      · obtain ⟨j, x, _, hxj, e, _⟩ := findC_hit hf
        have hxm := List.mem_of_getElem? hxj
        have := clash_no hc hxm h e
        subst this
        exact .inl hxm
  · rintro (h | ⟨h, _⟩)
    · exact .inl h
    · exact .inr h
end Go.Proofs.YtekilollacmajaaGreatDoor

