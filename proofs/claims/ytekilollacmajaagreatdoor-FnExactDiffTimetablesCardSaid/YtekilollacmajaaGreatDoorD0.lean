/- The differences of two lists of trips: plain facts. -/
import Derived.Test.YtekilollacmajaaGreatDoorG0
namespace Go.Proofs.YtekilollacmajaaGreatDoor
open Go Go.Am Go.Proofs

def chgR (x : Trip) : Change := ⟨2, x, 0⟩
def chgA (x : Trip) : Change := ⟨1, x, 0⟩
def chgM (x y : Trip) : Change := ⟨3, x, y.start⟩

/-- What the program puts down for a trip of the first list; none: it gives up. -/
def entD (bs : List Trip) (x : Trip) : Option (List Change) :=
  match bs[(findT bs x.id).toNat]? with
  | some y => if findT bs x.id < 0 then some [chgR x] else if y.line ≠ x.line then none else if y.start ≠ x.start then some [chgM x y] else some []
  | none => some [chgR x]

def outD (bs : List Trip) : List Trip → Option (List Change)
  | [] => some []
  | x :: xs => match entD bs x, outD bs xs with | some a, some b => some (a ++ b) | _, _ => none
def addD (us bs : List Trip) : List Change := (bs.filter (fun y => decide (findT us y.id < 0))).map chgA

/-- The reference's list: a merge. -/
def mrgD : List Trip → List Trip → Option (List Change)
  | [], [] => some []
  | a :: us, [] => (mrgD us []).map (chgR a :: ·)
  | [], b :: bs => (mrgD [] bs).map (chgA b :: ·)
  | a :: us, b :: bs =>
    if a.id < b.id then (mrgD us (b :: bs)).map (chgR a :: ·)
    else if b.id < a.id then (mrgD (a :: us) bs).map (chgA b :: ·)
    else if a.line ≠ b.line then none
    else (mrgD us bs).map (fun r => if a.start ≠ b.start then chgM a b :: r else r)
termination_by us bs => us.length + bs.length

theorem entD_miss {bs : List Trip} {x : Trip} (h : findT bs x.id < 0) : entD bs x = some [chgR x] := by
  unfold entD
  split
  · rw [if_pos h]
  · rfl
theorem findT_hit {bs : List Trip} (hb : Asc bs) {y : Trip} (hy : y ∈ bs) : ∃ i : Nat, bs[i]? = some y ∧ findT bs y.id = i := by
  obtain ⟨i, hi⟩ := List.getElem?_of_mem hy
  exact ⟨i, hi, (asc_at hb hi).1⟩
theorem entD_hit {bs : List Trip} (hb : Asc bs) {x y : Trip} (hy : y ∈ bs) (he : y.id = x.id) : entD bs x = if y.line ≠ x.line then none else if y.start ≠ x.start then some [chgM x y] else some [] := by
  obtain ⟨i, hi, hf⟩ := findT_hit hb hy
  unfold entD
  rw [← he, hf]
  simp only [Int.toNat_natCast, hi]
  rw [if_neg (by omega)]

/-- What is in such a list. -/
def InD (us bs : List Trip) (c : Change) : Prop :=
  (∃ x ∈ us, (∀ y ∈ bs, y.id ≠ x.id) ∧ c = chgR x) ∨ (∃ y ∈ bs, (∀ x ∈ us, x.id ≠ y.id) ∧ c = chgA y) ∨ (∃ x ∈ us, ∃ y ∈ bs, x.id = y.id ∧ y.start ≠ x.start ∧ c = chgM x y)
/-- Two trips of one number on different lines. -/
def BadD (us bs : List Trip) : Prop := ∃ x ∈ us, ∃ y ∈ bs, x.id = y.id ∧ y.line ≠ x.line

theorem outD_none {bs : List Trip} (hb : Asc bs) : ∀ (us : List Trip), outD bs us = none ↔ BadD us bs
  | [] => by simp [outD, BadD]
  | x :: xs => by
    have ih := outD_none hb xs
    have key : BadD (x :: xs) bs ↔ (∃ y ∈ bs, x.id = y.id ∧ y.line ≠ x.line) ∨ BadD xs bs := by
      unfold BadD
      simp only [List.mem_cons, exists_eq_or_imp]
    have hO : outD bs (x :: xs) = match entD bs x, outD bs xs with | some a, some b => some (a ++ b) | _, _ => none := rfl
    rw [key, ← ih, hO]
    by_cases hm : findT bs x.id < 0
    · rw [entD_miss hm]
      have hno := findT_neg.1 hm
      cases outD bs xs with
      | none => simp
      | some b =>
        simp only [reduceCtorEq, false_iff, not_or, not_exists, not_and, Classical.not_not]
        exact ⟨fun y hy he => absurd he.symm (hno y hy), fun h => h⟩
    · obtain ⟨y, hy, he⟩ : ∃ y ∈ bs, y.id = x.id := Classical.byContradiction fun hn => hm (findT_neg.2 fun y hy he => hn ⟨y, hy, he⟩)
      rw [entD_hit hb hy he]
      have huniq : ∀ z ∈ bs, x.id = z.id → z = y := fun z hz hze => by
        obtain ⟨i, hi, hf⟩ := findT_hit hb hy
        obtain ⟨j, hj, hg⟩ := findT_hit hb hz
        have : (i : Int) = j := by rw [← hf, ← hg, he, hze]
        have : i = j := by omega
        subst this
        rw [hi] at hj
        exact (Option.some.inj hj).symm
      have hbad : (∃ z ∈ bs, x.id = z.id ∧ z.line ≠ x.line) ↔ y.line ≠ x.line := by
        constructor
        · rintro ⟨z, hz, h1, h2⟩
          rw [huniq z hz h1] at h2
          exact h2
        · exact fun h => ⟨y, hy, he.symm, h⟩
      rw [hbad]
      by_cases hl : y.line ≠ x.line
      · rw [if_pos hl]
        simp [hl]
      · rw [if_neg hl]
        by_cases hs : y.start ≠ x.start
        · rw [if_pos hs]
          cases outD bs xs <;> simp [hl]
        · rw [if_neg hs]
          cases outD bs xs <;> simp [hl]

theorem outD_mem {bs : List Trip} (hb : Asc bs) : ∀ (us : List Trip) (out : List Change), outD bs us = some out → ∀ c, c ∈ out ↔ (∃ x ∈ us, (∀ y ∈ bs, y.id ≠ x.id) ∧ c = chgR x) ∨ (∃ x ∈ us, ∃ y ∈ bs, x.id = y.id ∧ y.start ≠ x.start ∧ c = chgM x y)
  | [], out, h, c => by
    simp only [outD, Option.some.injEq] at h
    subst h
    simp
  | x :: xs, out, h, c => by
    unfold outD at h
    cases he : entD bs x with
    | none => rw [he] at h; cases h
    | some a =>
      cases ho : outD bs xs with
      | none => rw [he, ho] at h; cases h
      | some b =>
        rw [he, ho] at h
        simp only [Option.some.injEq] at h
        subst h
        have ih := outD_mem hb xs b ho c
        have hx : c ∈ a ↔ ((∀ y ∈ bs, y.id ≠ x.id) ∧ c = chgR x) ∨ (∃ y ∈ bs, x.id = y.id ∧ y.start ≠ x.start ∧ c = chgM x y) := by
          by_cases hm : findT bs x.id < 0
          · rw [entD_miss hm] at he
            cases he
            have hno := findT_neg.1 hm
            constructor
            · intro hc
              exact .inl ⟨hno, by simpa using hc⟩
            · rintro (⟨_, rfl⟩ | ⟨y, hy, h1, _⟩)
              · simp
              · exact absurd h1.symm (hno y hy)
          · obtain ⟨y, hy, hye⟩ : ∃ y ∈ bs, y.id = x.id := Classical.byContradiction fun hn => hm (findT_neg.2 fun y hy he => hn ⟨y, hy, he⟩)
            rw [entD_hit hb hy hye] at he
            have huniq : ∀ z ∈ bs, x.id = z.id → z = y := fun z hz hze => by
              obtain ⟨i, hi, hf⟩ := findT_hit hb hy
              obtain ⟨j, hj, hg⟩ := findT_hit hb hz
              have : (i : Int) = j := by rw [← hf, ← hg, hye, hze]
              have : i = j := by omega
              subst this
              rw [hi] at hj
              exact (Option.some.inj hj).symm
            split at he
            · cases he
            · split at he
              · rename_i hs
                cases he
                constructor
                · intro hc
                  exact .inr ⟨y, hy, hye.symm, hs, by simpa using hc⟩
                · rintro (⟨h1, _⟩ | ⟨z, hz, h1, h2, rfl⟩)
                  · exact absurd hye (h1 y hy)
                  · rw [huniq z hz h1]
                    simp
              · rename_i hs
                cases he
                constructor
                · intro hc
                  cases hc
                · rintro (⟨h1, _⟩ | ⟨z, hz, h1, h2, rfl⟩)
                  · exact absurd hye (h1 y hy)
                  · rw [huniq z hz h1] at h2
                    exact absurd h2 hs
        rw [List.mem_append, hx, ih]
        simp only [List.mem_cons, exists_eq_or_imp]
        constructor
        · rintro ((h | h) | (h | h))
          · exact .inl (.inl h)
          · exact .inr (.inl h)
          · exact .inl (.inr h)
          · exact .inr (.inr h)
        · rintro ((h | h) | (h | h))
          · exact .inl (.inl h)
          · exact .inr (.inl h)
          · exact .inl (.inr h)
          · exact .inr (.inr h)

theorem addD_mem {us bs : List Trip} {c : Change} : c ∈ addD us bs ↔ ∃ y ∈ bs, (∀ x ∈ us, x.id ≠ y.id) ∧ c = chgA y := by
  unfold addD
  simp only [List.mem_map, List.mem_filter, decide_eq_true_eq, findT_neg]
  constructor
  · rintro ⟨y, ⟨h1, h2⟩, rfl⟩
    exact ⟨y, h1, h2, rfl⟩
  · rintro ⟨y, h1, h2, rfl⟩
    exact ⟨y, ⟨h1, h2⟩, rfl⟩

/-- The merge: it fails where the program does; else it rises and holds the same. -/
theorem mrgD_spec : ∀ (us bs : List Trip), Asc us → Asc bs → (mrgD us bs = none ↔ BadD us bs) ∧ ∀ l, mrgD us bs = some l → AscC l ∧ ∀ c, c ∈ l ↔ InD us bs c := by
  intro us bs
  induction us, bs using mrgD.induct with
  | case1 =>
    intro _ _
    unfold mrgD
    refine ⟨by simp [BadD], fun l h => ?_⟩
    cases h
    exact ⟨List.Pairwise.nil, fun c => by simp [InD]⟩
  | case2 a us ih =>
    intro ha hb
    obtain ⟨ha1, ha2⟩ := List.pairwise_cons.1 ha
    obtain ⟨h1, h2⟩ := ih ha2 hb
    unfold mrgD
    refine ⟨by simp only [Option.map_eq_none_iff, h1]; simp [BadD], fun l h => ?_⟩
    obtain ⟨r, hr, rfl⟩ := Option.map_eq_some_iff.1 h
    obtain ⟨h3, h4⟩ := h2 r hr
    refine ⟨List.Pairwise.cons (fun c hc => ?_) h3, fun c => ?_⟩
    · rcases (h4 c).1 hc with ⟨x, hx, _, rfl⟩ | ⟨y, hy, _⟩ | ⟨x, _, y, hy, _⟩
      · exact ha1 x hx
      · cases hy
      · cases hy
    · rw [List.mem_cons, h4 c]
      simp [InD]
  | case3 b bs ih =>
    intro ha hb
    obtain ⟨hb1, hb2⟩ := List.pairwise_cons.1 hb
    obtain ⟨h1, h2⟩ := ih ha hb2
    unfold mrgD
    refine ⟨by simp only [Option.map_eq_none_iff, h1]; simp [BadD], fun l h => ?_⟩
    obtain ⟨r, hr, rfl⟩ := Option.map_eq_some_iff.1 h
    obtain ⟨h3, h4⟩ := h2 r hr
    refine ⟨List.Pairwise.cons (fun c hc => ?_) h3, fun c => ?_⟩
    · rcases (h4 c).1 hc with ⟨x, hx, _⟩ | ⟨y, hy, _, rfl⟩ | ⟨x, hx, _⟩
      · cases hx
      · exact hb1 y hy
      · cases hx
    · rw [List.mem_cons, h4 c]
      simp [InD]
  | case4 a us b bs hlt ih =>
    intro ha hb
    obtain ⟨ha1, ha2⟩ := List.pairwise_cons.1 ha
    obtain ⟨hb1, hb2⟩ := List.pairwise_cons.1 hb
    obtain ⟨h1, h2⟩ := ih ha2 hb
    have hno : ∀ y ∈ b :: bs, a.id < y.id := fun y hy => by
      rcases List.mem_cons.1 hy with rfl | hy
      · exact hlt
      · have := hb1 y hy; omega
    have hbad : BadD (a :: us) (b :: bs) ↔ BadD us (b :: bs) := by
      constructor
      · rintro ⟨x, hx, y, hy, h3, h4⟩
        rcases List.mem_cons.1 hx with rfl | hx
        · have := hno y hy; omega
        · exact ⟨x, hx, y, hy, h3, h4⟩
      · rintro ⟨x, hx, y, hy, h3⟩
        exact ⟨x, by simp [hx], y, hy, h3⟩
    unfold mrgD
    rw [if_pos hlt]
    refine ⟨by rw [Option.map_eq_none_iff, h1, hbad], fun l h => ?_⟩
    obtain ⟨r, hr, rfl⟩ := Option.map_eq_some_iff.1 h
    obtain ⟨h3, h4⟩ := h2 r hr
    refine ⟨List.Pairwise.cons (fun c hc => ?_) h3, fun c => ?_⟩
    · rcases (h4 c).1 hc with ⟨x, hx, _, rfl⟩ | ⟨y, hy, _, rfl⟩ | ⟨x, hx, y, hy, _, _, rfl⟩
      · exact ha1 x hx
      · exact hno y hy
      · exact ha1 x hx
    · rw [List.mem_cons, h4 c]
      unfold InD
      constructor
      · rintro (rfl | ⟨x, hx, h5, rfl⟩ | ⟨y, hy, h5, rfl⟩ | ⟨x, hx, y, hy, h5, h6, rfl⟩)
        · exact .inl ⟨a, by simp, fun y hy => by have := hno y hy; omega, rfl⟩
        · exact .inl ⟨x, by simp [hx], h5, rfl⟩
        · refine .inr (.inl ⟨y, hy, fun x hx => ?_, rfl⟩)
          rcases List.mem_cons.1 hx with rfl | hx
          · have := hno y hy; omega
          · exact h5 x hx
        · exact .inr (.inr ⟨x, by simp [hx], y, hy, h5, h6, rfl⟩)
      · rintro (⟨x, hx, h5, rfl⟩ | ⟨y, hy, h5, rfl⟩ | ⟨x, hx, y, hy, h5, h6, rfl⟩)
        · rcases List.mem_cons.1 hx with rfl | hx
          · exact .inl rfl
          · exact .inr (.inl ⟨x, hx, h5, rfl⟩)
        · exact .inr (.inr (.inl ⟨y, hy, fun x hx => h5 x (by simp [hx]), rfl⟩))
        · rcases List.mem_cons.1 hx with rfl | hx
          · have := hno y hy; omega
          · exact .inr (.inr (.inr ⟨x, hx, y, hy, h5, h6, rfl⟩))
  | case5 a us b bs hlt hgt ih =>
    intro ha hb
    obtain ⟨ha1, ha2⟩ := List.pairwise_cons.1 ha
    obtain ⟨hb1, hb2⟩ := List.pairwise_cons.1 hb
    obtain ⟨h1, h2⟩ := ih ha hb2
    have hno : ∀ x ∈ a :: us, b.id < x.id := fun x hx => by
      rcases List.mem_cons.1 hx with rfl | hx
      · exact hgt
      · have := ha1 x hx; omega
    have hbad : BadD (a :: us) (b :: bs) ↔ BadD (a :: us) bs := by
      constructor
      · rintro ⟨x, hx, y, hy, h3, h4⟩
        rcases List.mem_cons.1 hy with rfl | hy
        · have := hno x hx; omega
        · exact ⟨x, hx, y, hy, h3, h4⟩
      · rintro ⟨x, hx, y, hy, h3⟩
        exact ⟨x, hx, y, by simp [hy], h3⟩
    unfold mrgD
    rw [if_neg hlt, if_pos hgt]
    refine ⟨by rw [Option.map_eq_none_iff, h1, hbad], fun l h => ?_⟩
    obtain ⟨r, hr, rfl⟩ := Option.map_eq_some_iff.1 h
    obtain ⟨h3, h4⟩ := h2 r hr
    refine ⟨List.Pairwise.cons (fun c hc => ?_) h3, fun c => ?_⟩
    · rcases (h4 c).1 hc with ⟨x, hx, _, rfl⟩ | ⟨y, hy, _, rfl⟩ | ⟨x, hx, y, hy, _, _, rfl⟩
      · exact hno x hx
      · exact hb1 y hy
      · exact hno x hx
    · rw [List.mem_cons, h4 c]
      unfold InD
      constructor
      · rintro (rfl | ⟨x, hx, h5, rfl⟩ | ⟨y, hy, h5, rfl⟩ | ⟨x, hx, y, hy, h5, h6, rfl⟩)
        · exact .inr (.inl ⟨b, by simp, fun x hx => by have := hno x hx; omega, rfl⟩)
        · refine .inl ⟨x, hx, fun y hy => ?_, rfl⟩
          rcases List.mem_cons.1 hy with rfl | hy
          · have := hno x hx; omega
          · exact h5 y hy
        · exact .inr (.inl ⟨y, by simp [hy], h5, rfl⟩)
        · exact .inr (.inr ⟨x, hx, y, by simp [hy], h5, h6, rfl⟩)
      · rintro (⟨x, hx, h5, rfl⟩ | ⟨y, hy, h5, rfl⟩ | ⟨x, hx, y, hy, h5, h6, rfl⟩)
        · exact .inr (.inl ⟨x, hx, fun y hy => h5 y (by simp [hy]), rfl⟩)
        · rcases List.mem_cons.1 hy with rfl | hy
          · exact .inl rfl
          · exact .inr (.inr (.inl ⟨y, hy, h5, rfl⟩))
        · rcases List.mem_cons.1 hy with rfl | hy
          · have := hno x hx; omega
          · exact .inr (.inr (.inr ⟨x, hx, y, hy, h5, h6, rfl⟩))
  | case6 a us b bs hlt hgt hl =>
    intro ha hb
    unfold mrgD
    rw [if_neg hlt, if_neg hgt, if_pos hl]
    refine ⟨⟨fun _ => ⟨a, by simp, b, by simp, by omega, fun e => hl e.symm⟩, fun _ => rfl⟩, fun l h => by cases h⟩
  | case7 a us b bs hlt hgt hl ih =>
    intro ha hb
    obtain ⟨ha1, ha2⟩ := List.pairwise_cons.1 ha
    obtain ⟨hb1, hb2⟩ := List.pairwise_cons.1 hb
    obtain ⟨h1, h2⟩ := ih ha2 hb2
    have hid : a.id = b.id := by omega
    have hl' : a.line = b.line := Classical.not_not.1 hl
    have hA : ∀ x ∈ us, b.id < x.id := fun x hx => by have := ha1 x hx; omega
    have hB : ∀ y ∈ bs, a.id < y.id := fun y hy => by have := hb1 y hy; omega
    have hbad : BadD (a :: us) (b :: bs) ↔ BadD us bs := by
      constructor
      · rintro ⟨x, hx, y, hy, h3, h4⟩
        rcases List.mem_cons.1 hx with rfl | hx
        · rcases List.mem_cons.1 hy with rfl | hy
          · exact absurd hl'.symm h4
          · have := hB y hy; omega
        · rcases List.mem_cons.1 hy with rfl | hy
          · have := hA x hx; omega
          · exact ⟨x, hx, y, hy, h3, h4⟩
      · rintro ⟨x, hx, y, hy, h3⟩
        exact ⟨x, by simp [hx], y, by simp [hy], h3⟩
    have hin : ∀ c, InD (a :: us) (b :: bs) c ↔ (b.start ≠ a.start ∧ c = chgM a b) ∨ InD us bs c := by
      intro c
      unfold InD
      constructor
      · rintro (⟨x, hx, h5, rfl⟩ | ⟨y, hy, h5, rfl⟩ | ⟨x, hx, y, hy, h5, h6, rfl⟩)
        · rcases List.mem_cons.1 hx with rfl | hx
          · exact absurd hid.symm (h5 b (by simp))
          · exact .inr (.inl ⟨x, hx, fun y hy => h5 y (by simp [hy]), rfl⟩)
        · rcases List.mem_cons.1 hy with rfl | hy
          · exact absurd hid (h5 a (by simp))
          · exact .inr (.inr (.inl ⟨y, hy, fun x hx => h5 x (by simp [hx]), rfl⟩))
        · rcases List.mem_cons.1 hx with rfl | hx
          · rcases List.mem_cons.1 hy with rfl | hy
            · exact .inl ⟨h6, rfl⟩
            · have := hB y hy; omega
          · rcases List.mem_cons.1 hy with rfl | hy
            · have := hA x hx; omega
            · exact .inr (.inr (.inr ⟨x, hx, y, hy, h5, h6, rfl⟩))
      · rintro (⟨h6, rfl⟩ | ⟨x, hx, h5, rfl⟩ | ⟨y, hy, h5, rfl⟩ | ⟨x, hx, y, hy, h5, h6, rfl⟩)
        · exact .inr (.inr ⟨a, by simp, b, by simp, hid, h6, rfl⟩)
        · refine .inl ⟨x, by simp [hx], fun y hy => ?_, rfl⟩
          rcases List.mem_cons.1 hy with rfl | hy
          · have := hA x hx; omega
          · exact h5 y hy
        · refine .inr (.inl ⟨y, by simp [hy], fun x hx => ?_, rfl⟩)
          rcases List.mem_cons.1 hx with rfl | hx
          · have := hB y hy; omega
          · exact h5 x hx
        · exact .inr (.inr ⟨x, by simp [hx], y, by simp [hy], h5, h6, rfl⟩)
    unfold mrgD
    rw [if_neg hlt, if_neg hgt, if_neg hl]
    refine ⟨by rw [Option.map_eq_none_iff, h1, hbad], fun l h => ?_⟩
    obtain ⟨r, hr, rfl⟩ := Option.map_eq_some_iff.1 h
    obtain ⟨h3, h4⟩ := h2 r hr
    have hlow : ∀ c ∈ r, a.id < c.trip.id := fun c hc => by
      rcases (h4 c).1 hc with ⟨x, hx, _, rfl⟩ | ⟨y, hy, _, rfl⟩ | ⟨x, hx, y, hy, _, _, rfl⟩
      · exact ha1 x hx
      · exact hB y hy
      · exact ha1 x hx
    by_cases hs : a.start ≠ b.start
    · simp only [if_pos hs]
      refine ⟨List.Pairwise.cons (fun c hc => hlow c hc) h3, fun c => ?_⟩
      rw [List.mem_cons, h4 c, hin c]
      constructor
      · rintro (rfl | h5)
        · exact .inl ⟨fun e => hs e.symm, rfl⟩
        · exact .inr h5
      · rintro (⟨_, rfl⟩ | h5)
        · exact .inl rfl
        · exact .inr h5
    · simp only [if_neg hs]
      refine ⟨h3, fun c => ?_⟩
      rw [h4 c, hin c]
      constructor
      · exact .inr
      · rintro (⟨h5, _⟩ | h5)
        · exact absurd (fun e => h5 e.symm) hs
        · exact h5

theorem outD_ids {bs : List Trip} (hb : Asc bs) : ∀ (us : List Trip) (out : List Change), Asc us → outD bs us = some out → AscC out ∧ out.length ≤ us.length ∧ ∀ c ∈ out, ∃ x ∈ us, x.id = c.trip.id
  | [], out, _, h => by
    simp only [outD, Option.some.injEq] at h
    subst h
    exact ⟨List.Pairwise.nil, Nat.le_refl _, fun c hc => by cases hc⟩
  | x :: xs, out, ha, h => by
    obtain ⟨ha1, ha2⟩ := List.pairwise_cons.1 ha
    unfold outD at h
    cases he : entD bs x with
    | none => rw [he] at h; cases h
    | some a =>
      cases ho : outD bs xs with
      | none => rw [he, ho] at h; cases h
      | some b =>
        rw [he, ho] at h
        simp only [Option.some.injEq] at h
        subst h
        obtain ⟨i1, i2, i3⟩ := outD_ids hb xs b ha2 ho
        have hx : a = [] ∨ ∃ c, a = [c] ∧ c.trip.id = x.id := by
          unfold entD at he
          split at he
          · split at he
            · cases he; exact .inr ⟨_, rfl, rfl⟩
            · split at he
              · cases he
              · split at he
                · cases he; exact .inr ⟨_, rfl, rfl⟩
                · cases he; exact .inl rfl
          · cases he; exact .inr ⟨_, rfl, rfl⟩
        rcases hx with rfl | ⟨c, rfl, hc⟩
        · refine ⟨i1, by simp only [List.nil_append, List.length_cons]; omega, fun c hc => ?_⟩
          obtain ⟨y, hy, e⟩ := i3 c hc
          exact ⟨y, by simp [hy], e⟩
        · refine ⟨List.Pairwise.cons (fun d hd => ?_) i1, by simp only [List.length_append, List.length_cons, List.length_nil]; omega, fun d hd => ?_⟩
          · obtain ⟨y, hy, e⟩ := i3 d hd
            have := ha1 y hy
            omega
          · rcases List.mem_cons.1 hd with rfl | hd
            · exact ⟨x, by simp, hc.symm⟩
            · obtain ⟨y, hy, e⟩ := i3 d hd
              exact ⟨y, by simp [hy], e⟩

theorem dif_none {us bs : List Trip} (ha : Asc us) (hb : Asc bs) (h : outD bs us = none) : mrgD us bs = none := (mrgD_spec us bs ha hb).1.2 ((outD_none hb us).1 h)
theorem dif_some {us bs : List Trip} (ha : Asc us) (hb : Asc bs) {out s : List Change} (h : outD bs us = some out) (hp : s.Perm (out ++ addD us bs)) (hs : Srt chgLt s) : mrgD us bs = some s := by
  cases hm : mrgD us bs with
  | none =>
    have := (outD_none hb us).2 ((mrgD_spec us bs ha hb).1.1 hm)
    rw [h] at this
    cases this
  | some l =>
    obtain ⟨h1, h2⟩ := (mrgD_spec us bs ha hb).2 l hm
    obtain ⟨o1, o2, o3⟩ := outD_ids hb us out ha h
    have hadd : AscC (addD us bs) := by
      unfold addD AscC
      rw [List.pairwise_map]
      exact (List.Pairwise.filter _ hb).imp fun h => h
    have hne : (out ++ addD us bs).Pairwise fun a b => a.trip.id ≠ b.trip.id := by
      rw [List.pairwise_append]
      refine ⟨o1.imp fun h => by omega, hadd.imp fun h => by omega, fun c hc d hd => ?_⟩
      obtain ⟨x, hx, e⟩ := o3 c hc
      obtain ⟨y, hy, h3, rfl⟩ := addD_mem.1 hd
      rw [← e]
      exact h3 x hx
    have hne2 : s.Pairwise fun a b => a.trip.id ≠ b.trip.id := hp.symm.pairwise hne fun h => h.symm
    have hasc : AscC s := (List.Pairwise.and (srt_rises hs) hne2).imp fun {a b} h => by
      have h1 := h.1
      have h2 := h.2
      omega
    congr 1
    refine asc_ext h1 hasc fun c => ?_
    rw [h2 c, hp.mem_iff, List.mem_append, outD_mem hb us out h c, addD_mem]
    unfold InD
    constructor
    · rintro (h | h | h)
      · exact .inl (.inl h)
      · exact .inr h
      · exact .inl (.inr h)
    · rintro ((h | h) | h)
      · exact .inl h
      · exact .inr (.inr h)
      · exact .inr (.inl h)

theorem outD_next {bs us : List Trip} {i : Nat} {x : Trip} (h : us[i]? = some x) : outD bs (us.take (i + 1)) = match outD bs (us.take i), entD bs x with | some a, some b => some (a ++ b) | _, _ => none := by
  rw [List.take_add_one, h]
  generalize us.take i = l
  simp only [Option.toList_some]
  induction l with
  | nil =>
    simp only [List.nil_append, outD]
    cases entD bs x <;> simp
  | cons y l ih =>
    simp only [List.cons_append, outD, ih]
    cases entD bs y <;> cases outD bs l <;> cases entD bs x <;> simp
theorem outD_stop {bs us : List Trip} {i : Nat} (h : outD bs (us.take i) = none) : outD bs us = none := by
  rw [← List.take_append_drop i us]
  generalize us.take i = l at h
  generalize us.drop i = r
  induction l with
  | nil => cases h
  | cons y l ih =>
    simp only [List.cons_append, outD] at h ⊢
    cases he : entD bs y with
    | none => rfl
    | some a =>
      cases ho : outD bs l with
      | none => rw [ih ho]
      | some b => rw [he, ho] at h; cases h
def addN (us bs : List Trip) (i : Nat) : List Change := addD us (bs.take i)
theorem addN_next {us bs : List Trip} {i : Nat} {y : Trip} (h : bs[i]? = some y) : addN us bs (i + 1) = addN us bs i ++ (if findT us y.id < 0 then [chgA y] else []) := by
  unfold addN addD
  rw [List.take_add_one, h]
  simp only [Option.toList_some, List.filter_append, List.map_append]
  congr 1
  by_cases hb : findT us y.id < 0 <;> simp [hb]
theorem addN_all {us bs : List Trip} {i : Nat} (h : bs.length ≤ i) : addN us bs i = addD us bs := by
  unfold addN; rw [List.take_of_length_le h]
theorem addN_len (us bs : List Trip) (i : Nat) : (addN us bs i).length ≤ i := by
  unfold addN addD
  rw [List.length_map]
  have := List.length_filter_le (fun y => decide (findT us y.id < 0)) (bs.take i)
  rw [List.length_take] at this
  omega
theorem drop_at {α : Type} {xs : List α} {i : Nat} {x : α} (h : xs[i]? = some x) : xs.drop i = x :: xs.drop (i + 1) := by
  obtain ⟨h1, h2⟩ := List.getElem?_eq_some_iff.1 h
  rw [List.drop_eq_getElem_cons h1, h2]
theorem drop_no {α : Type} {xs : List α} {i : Nat} (h : xs[i]? = none) : xs.drop i = [] := List.drop_eq_nil_of_le (List.getElem?_eq_none_iff.1 h)

/-- The answer. -/
def dfO (ok : Bool) (us bs : List Trip) : Option (List Change) :=
  if ok then (match mrgD us bs with | some l => if 24 < l.length then none else some l | none => none) else none
end Go.Proofs.YtekilollacmajaaGreatDoor

