/- Matches of all vehicles: plain facts: the greedy choice, and the least free match again and again, are the same. -/
import Derived.Test.YtmbaalkeogckbaaGreatQ2
import Derived.Test.YtmbaalkeogckbaaGreatAmP
namespace Go.Proofs.YtmbaalkeogckbaaGreat
open Go Go.Am Go.Proofs
set_option maxRecDepth 100000

def nearM (limit : Int) (m : Match) : Bool := decide (absI m.delay ≤ limit)
def mC (x y : Match) : Int := orF [cmpI (absI x.delay) (absI y.delay), cmpI x.vehicle y.vehicle, cmpI x.id y.id]
def mLt (x y : Match) : Bool := decide (absI x.delay < absI y.delay) || (decide (absI x.delay = absI y.delay) && (decide (x.vehicle < y.vehicle) || (decide (x.vehicle = y.vehicle) && decide (x.id < y.id))))
theorem mLt_iff (x y : Match) : mLt x y = true ↔ absI x.delay < absI y.delay ∨ (absI x.delay = absI y.delay ∧ (x.vehicle < y.vehicle ∨ (x.vehicle = y.vehicle ∧ x.id < y.id))) := by
  unfold mLt
  simp only [decide_eq_true_eq, Bool.or_eq_true, Bool.and_eq_true]
theorem mLt_not (x y : Match) : mLt x y = false ↔ ¬ (absI x.delay < absI y.delay ∨ (absI x.delay = absI y.delay ∧ (x.vehicle < y.vehicle ∨ (x.vehicle = y.vehicle ∧ x.id < y.id)))) := by
  rw [← mLt_iff, Bool.not_eq_true]
theorem mWeak : Weak mLt := by
  refine ⟨fun x y h => ?_, fun x y z h1 h2 => ?_⟩
  · rw [mLt_iff] at h
    rw [mLt_not]
    omega
  · rw [mLt_not] at h1 h2 ⊢
    omega
theorem lex3 (a b c e f g : Int) : decide (orF [cmpI a b, cmpI c e, cmpI f g] < 0) = (decide (a < b) || (decide (a = b) && (decide (c < e) || (decide (c = e) && decide (f < g))))) := by
  by_cases h1 : a < b
  · have h : orF [cmpI a b, cmpI c e, cmpI f g] = -1 := by simp [orF, cmpI, h1]
    rw [h, decide_eq_true h1]
    rfl
  · by_cases h2 : b < a
    · have h : orF [cmpI a b, cmpI c e, cmpI f g] = 1 := by simp [orF, cmpI, h1, h2]
      have h3 : ¬ a = b := by omega
      rw [h, decide_eq_false h1, decide_eq_false h3]
      rfl
    · have h3 : a = b := by omega
      have h : orF [cmpI a b, cmpI c e, cmpI f g] = orF [cmpI c e, cmpI f g] := by subst h3; simp [orF, cmpI]
      rw [h, lex2, decide_eq_false h1, decide_eq_true h3]
      rfl
theorem mLt_eq : Go.Proofs.ltOf mC = mLt := by
  funext x y
  unfold Go.Proofs.ltOf mC mLt
  exact lex3 _ _ _ _ _ _
def vC (x y : Match) : Int := cmpI x.vehicle y.vehicle
def vLt (x y : Match) : Bool := decide (x.vehicle < y.vehicle)
theorem vLt_eq : Go.Proofs.ltOf vC = vLt := by
  funext x y
  unfold Go.Proofs.ltOf vC vLt cmpI
  generalize x.vehicle = a
  generalize y.vehicle = b
  by_cases h1 : a < b
  · simp [h1]
  · by_cases h2 : b < a <;> simp [h1, h2]
theorem vWeak : Weak vLt := by
  refine ⟨fun x y h => ?_, fun x y z h1 h2 => ?_⟩
  · unfold vLt at *
    simp only [decide_eq_true_eq, decide_eq_false_iff_not] at *
    omega
  · unfold vLt at *
    simp only [decide_eq_false_iff_not] at *
    omega

theorem srt_sameOn {α : Type} {lt : α → α → Bool} : ∀ {a b : List α}, (∀ x ∈ a, ∀ y ∈ a, lt x y = false → lt y x = false → x = y) → Srt lt a → Srt lt b → a.Perm b → a = b
  | [], _, _, _, _, h => List.Perm.nil_eq h
  | x :: a, [], _, _, _, h => absurd h.symm (by simp)
  | x :: a, y :: b, anti, ha, hb, h => by
    have hx : x ∈ y :: b := h.mem_iff.1 (by simp)
    have hy : y ∈ x :: a := h.mem_iff.2 (by simp)
    have e : x = y := by
      rcases List.mem_cons.1 hx with e | hx
      · exact e
      · rcases List.mem_cons.1 hy with e | hy2
        · exact e.symm
        · exact anti x (by simp) y hy ((List.pairwise_cons.1 hb).1 x hx) ((List.pairwise_cons.1 ha).1 y hy2)
    subst e
    rw [srt_sameOn (fun u hu v hv => anti u (by simp [hu]) v (by simp [hv])) (List.pairwise_cons.1 ha).2 (List.pairwise_cons.1 hb).2 (List.Perm.cons_inv h)]
theorem pdqL_eqOn {α : Type} [Inhabited α] {lt : α → α → Bool} (hw : Weak lt) (xs : List α) (anti : ∀ x ∈ xs, ∀ y ∈ xs, lt x y = false → lt y x = false → x = y) : pdqL lt xs = sortL lt xs := by
  have h := pdqL_sorts hw xs
  refine srt_sameOn (fun x hx y hy => anti x (h.1.mem_iff.1 hx) y (h.1.mem_iff.1 hy)) h.2 (sortL_srt hw xs) (h.1.trans (sortL_perm lt xs).symm)

def hitM (m n : Match) : Bool := decide (n.vehicle = m.vehicle) || decide (n.id = m.id)
def hasI (x v : Int) : Bool := decide (v = x)
def hits (C : List Match) (m : Match) : Bool := C.any (hitM m)
theorem hits_snoc (C : List Match) (m n : Match) : hits (C ++ [n]) m = (hits C m || hitM m n) := by simp [hits]
theorem hits_self (C : List Match) (m : Match) : hits (C ++ [m]) m = true := by rw [hits_snoc]; simp [hitM]
theorem hits_two (C : List Match) (m : Match) : hits C m = ((C.map Match.vehicle).any (hasI m.vehicle) || (C.map Match.id).any (hasI m.id)) := by
  unfold hits
  induction C with
  | nil => rfl
  | cons c C ih =>
    have e1 : decide (c.vehicle = m.vehicle) = hasI m.vehicle c.vehicle := rfl
    have e2 : decide (c.id = m.id) = hasI m.id c.id := rfl
    rw [List.any_cons, ih, List.map_cons, List.map_cons, List.any_cons, List.any_cons]
    unfold hitM
    rw [e1, e2]
    cases hasI m.vehicle c.vehicle <;> cases hasI m.id c.id <;> cases (C.map Match.vehicle).any (hasI m.vehicle) <;> cases (C.map Match.id).any (hasI m.id) <;> rfl
def stepG (C : List Match) (m : Match) : List Match := if hits C m then C else C ++ [m]
def greedy (P C : List Match) : List Match := P.foldl stepG C
theorem stepG_hit {C : List Match} {m : Match} (h : hits C m = true) : stepG C m = C := by unfold stepG; rw [if_pos h]
theorem stepG_free {C : List Match} {m : Match} (h : hits C m = false) : stepG C m = C ++ [m] := by unfold stepG; rw [if_neg (by simp [h])]
theorem greedy_next {P : List Match} {i : Nat} {m : Match} (h : P[i]? = some m) : greedy (P.take (i + 1)) [] = stepG (greedy (P.take i) []) m := by
  unfold greedy
  rw [List.take_add_one, h, List.foldl_append]
  rfl
/-- The first that is free is chosen next. -/
theorem greedy_find : ∀ (P C : List Match), greedy P C = match P.find? (fun m => !hits C m) with | some m => greedy P (C ++ [m]) | none => C
  | [], C => rfl
  | p :: P, C => by
    cases hp : hits C p with
    | true =>
      rw [List.find?_cons_of_neg (by simp [hp])]
      have h0 : greedy (p :: P) C = greedy P C := by
        show greedy P (stepG C p) = _
        rw [stepG_hit hp]
      rw [h0, greedy_find P C]
      cases hf : P.find? (fun m => !hits C m) with
      | none => rfl
      | some m =>
        show greedy P (C ++ [m]) = greedy P (stepG (C ++ [m]) p)
        rw [stepG_hit (by rw [hits_snoc, hp]; rfl)]
    | false =>
      rw [List.find?_cons_of_pos (by simp [hp])]
      show greedy P (stepG C p) = greedy P (stepG (C ++ [p]) p)
      rw [stepG_free hp, stepG_hit (hits_self C p)]
theorem greedy_len : ∀ (P C : List Match), C.length ≤ (greedy P C).length ∧ (greedy P C).length ≤ C.length + P.length
  | [], _ => ⟨Nat.le_refl _, Nat.le_refl _⟩
  | p :: P, C => by
    have h := greedy_len P (stepG C p)
    have e : greedy (p :: P) C = greedy P (stepG C p) := rfl
    have hl : (stepG C p).length = C.length ∨ (stepG C p).length = C.length + 1 := by
      unfold stepG
      split
      · exact .inl rfl
      · exact .inr (by simp)
    rw [e, List.length_cons]
    omega
theorem greedy_mem : ∀ (P C : List Match) {x : Match}, x ∈ greedy P C → x ∈ C ∨ x ∈ P
  | [], _, _, h => .inl h
  | p :: P, C, x, h => by
    rcases greedy_mem P (stepG C p) h with h | h
    · unfold stepG at h
      split at h
      · exact .inl h
      · rcases List.mem_append.1 h with h | h
        · exact .inl h
        · exact .inr (by simp at h; simp [h])
    · exact .inr (by simp [h])
theorem greedy_apart : ∀ (P C : List Match), C.Pairwise (fun a b => a.vehicle ≠ b.vehicle) → (greedy P C).Pairwise (fun a b => a.vehicle ≠ b.vehicle)
  | [], _, h => h
  | p :: P, C, h => by
    refine greedy_apart P (stepG C p) ?_
    cases hp : hits C p with
    | true => rw [stepG_hit hp]; exact h
    | false =>
      rw [stepG_free hp]
      refine List.pairwise_append.2 ⟨h, List.pairwise_singleton _ _, ?_⟩
      intro a ha b hb
      simp at hb
      subst hb
      unfold hits at hp
      have := List.any_eq_false.1 hp a ha
      simp [hitM] at this
      exact this.1
theorem apart_one {l : List Match} (h : l.Pairwise fun a b => a.vehicle ≠ b.vehicle) : ∀ x ∈ l, ∀ y ∈ l, x.vehicle = y.vehicle → x = y := by
  induction l with
  | nil => intro x hx; cases hx
  | cons a l ih =>
    obtain ⟨h1, h2⟩ := List.pairwise_cons.1 h
    intro x hx y hy e
    rcases List.mem_cons.1 hx with ex | hx
    · rcases List.mem_cons.1 hy with ey | hy
      · rw [ex, ey]
      · exact absurd (ex ▸ e) (h1 y hy)
    · rcases List.mem_cons.1 hy with ey | hy
      · exact absurd (ey ▸ e).symm (h1 x hx)
      · exact ih h2 x hx y hy e

def zeroM : Match := ⟨0, 0, 0⟩
def minB (b m : Match) : Match := if b.vehicle = 0 ∨ mLt m b = true then m else b
def stepB (limit : Int) (C : List Match) (b m : Match) : Match := if nearM limit m && !hits C m then minB b m else b
theorem fold_filter (limit : Int) (C : List Match) : ∀ (L : List Match) (b : Match), L.foldl (stepB limit C) b = (L.filter (fun m => nearM limit m && !hits C m)).foldl minB b
  | [], _ => rfl
  | m :: L, b => by
    rw [List.foldl_cons, fold_filter limit C L]
    cases h : (nearM limit m && !hits C m) with
    | true =>
      rw [List.filter_cons_of_pos (by simpa using h), List.foldl_cons]
      unfold stepB
      rw [h, if_pos rfl]
    | false =>
      rw [List.filter_cons_of_neg (by simp [h])]
      unfold stepB
      rw [h, if_neg (by simp)]
theorem head_insL {α : Type} {lt : α → α → Bool} (hw : Weak lt) {s : List α} (hs : Srt lt s) (x : α) : (insL lt s x).head? = match s with | [] => some x | y :: _ => if lt x y then some x else some y := by
  cases s with
  | nil => rfl
  | cons y s =>
    unfold insL
    cases h : lt x y with
    | true =>
      have hall : ∀ b ∈ s, lt x b = true := fun b hb => by
        cases hb' : lt x b with
        | true => rfl
        | false => rw [hw.neg x b y hb' ((List.pairwise_cons.1 hs).1 b hb)] at h; cases h
      have e1 : (y :: s).filter (fun y => !lt x y) = [] := List.filter_eq_nil_iff.2 fun b hb => by
        rcases List.mem_cons.1 hb with rfl | hb
        · simp [h]
        · simp [hall b hb]
      rw [e1]
      show some x = if lt x y = true then some x else some y
      rw [h]
      rfl
    | false =>
      rw [List.filter_cons_of_pos (by simp [h])]
      show some y = if lt x y = true then some x else some y
      rw [h]
      rfl
theorem fold_min : ∀ (F s : List Match) (b : Match), Srt mLt s → (∀ m ∈ F, m.vehicle ≠ 0) → (∀ m ∈ s, m.vehicle ≠ 0) → b = s.head?.getD zeroM → F.foldl minB b = (F.foldl (insL mLt) s).head?.getD zeroM
  | [], _, _, _, _, _, hb => hb
  | m :: F, s, b, hs, hF, hz, hb => by
    rw [List.foldl_cons, List.foldl_cons]
    refine fold_min F (insL mLt s m) (minB b m) (insL_srt mWeak hs m) (fun x hx => hF x (by simp [hx])) (fun x hx => ?_) ?_
    · rcases mem_insL hx with rfl | hx
      · exact hF _ (by simp)
      · exact hz x hx
    · rw [head_insL mWeak hs]
      subst hb
      cases s with
      | nil => rfl
      | cons y s =>
        have hy := hz y (by simp)
        unfold minB
        show (if y.vehicle = 0 ∨ mLt m y = true then m else y) = (if mLt m y = true then some m else some y).getD zeroM
        cases mLt m y <;> simp [hy]
/-- The least of the near and free ones is the first free one in order. -/
theorem fold_best (limit : Int) (C L : List Match) (h : ∀ m ∈ L, m.vehicle ≠ 0) : L.foldl (stepB limit C) zeroM = ((sortL mLt (L.filter (nearM limit))).find? (fun m => !hits C m)).getD zeroM := by
  rw [fold_filter, ← List.head?_filter, filter_sortL mWeak, List.filter_filter]
  have e : (fun a => !hits C a && nearM limit a) = (fun m => nearM limit m && !hits C m) := by funext a; exact Bool.and_comm _ _
  rw [e]
  exact fold_min _ [] zeroM List.Pairwise.nil (fun m hm => h m (List.mem_filter.1 hm).1) (fun m hm => by cases hm) rfl

/-! ### All matches -/
def allM (t : Timetable) (rs : List Report) : List Match := (lasts 100 rs).flatMap (fits t)
def nearL (t : Timetable) (rs : List Report) (limit : Int) : List Match := (allM t rs).filter (nearM limit)
def chosen (t : Timetable) (rs : List Report) (limit : Int) : List Match := greedy (sortL mLt (nearL t rs limit)) []
def matched (t : Timetable) (rs : List Report) (limit : Int) : List Match := sortL vLt (chosen t rs limit)
theorem flat_take {α β : Type} {l : List α} {i : Nat} {x : α} (f : α → List β) (h : l[i]? = some x) : (l.take (i + 1)).flatMap f = (l.take i).flatMap f ++ f x := by
  rw [List.take_add_one, h]
  simp
theorem lasts_mem {n : Nat} {rs : List Report} {r : Report} (h : r ∈ lasts n rs) : r ∈ rs ∧ lastR rs r.vehicle = some r := by
  obtain ⟨v, _, hv⟩ := List.mem_filterMap.1 h
  obtain ⟨h1, h2⟩ := lastR_some hv
  exact ⟨h1, by rw [h2]; exact hv⟩
theorem fits_mem {t : Timetable} {r : Report} {m : Match} (h : m ∈ fits t r) : ∃ x ∈ t.trips, m = mOf r x := by
  have := mem_sortL h
  obtain ⟨x, hx, e⟩ := List.mem_map.1 this
  exact ⟨x, (List.mem_filter.1 hx).1, e.symm⟩
theorem allM_mem {t : Timetable} {rs : List Report} {m : Match} (h : m ∈ allM t rs) : ∃ r x, r ∈ rs ∧ lastR rs r.vehicle = some r ∧ x ∈ t.trips ∧ m = mOf r x := by
  obtain ⟨r, hr, hm⟩ := List.mem_flatMap.1 h
  obtain ⟨h1, h2⟩ := lasts_mem hr
  obtain ⟨x, h3, h4⟩ := fits_mem hm
  exact ⟨r, x, h1, h2, h3, h4⟩
theorem trip_nextQ {t : Timetable} (hok : ttOk t = true) {i : Nat} {x y : Trip} (hx : t.trips[i]? = some x) (hy : t.trips[i + 1]? = some y) : x.id < y.id := by
  have h2 : tripsOk t = true := by unfold ttOk at hok; simp only [Bool.and_eq_true] at hok; exact hok.2
  unfold tripsOk at h2
  simp only [Bool.and_eq_true] at h2
  have h3 := (allI_iff.1 h2.2) _ _ hy
  have hp : prevId t (i + 1) = x.id := by show (match t.trips[i]? with | some y => y.id | none => 0) = x.id; rw [hx]
  unfold tripAt at h3
  rw [hp] at h3
  simp only [Bool.and_eq_true, decide_eq_true_eq] at h3
  exact h3.1
theorem trips_upQ {t : Timetable} (hok : ttOk t = true) : ∀ (n i : Nat) {x y : Trip}, t.trips[i]? = some x → t.trips[i + 1 + n]? = some y → x.id < y.id
  | 0, i, x, y, hx, hy => trip_nextQ hok hx hy
  | n + 1, i, x, y, hx, hy => by
    have hlt := lt_of_at hy
    obtain ⟨z, hz⟩ : ∃ z, t.trips[i + 1 + n]? = some z := ⟨_, List.getElem?_eq_getElem (by omega)⟩
    have h1 := trips_upQ hok n i hx hz
    have h2 := trip_nextQ hok hz hy
    omega
theorem trips_one {t : Timetable} (hok : ttOk t = true) {x y : Trip} (hx : x ∈ t.trips) (hy : y ∈ t.trips) (h : x.id = y.id) : x = y := by
  obtain ⟨i, hi⟩ := List.getElem?_of_mem hx
  obtain ⟨j, hj⟩ := List.getElem?_of_mem hy
  rcases Nat.lt_trichotomy i j with hl | hl | hl
  · have := trips_upQ hok (j - i - 1) i hi (by rw [show i + 1 + (j - i - 1) = j from by omega]; exact hj)
    omega
  · subst hl
    rw [hi] at hj
    injection hj
  · have := trips_upQ hok (i - j - 1) j hj (by rw [show j + 1 + (i - j - 1) = i from by omega]; exact hi)
    omega
theorem allM_one {t : Timetable} (hok : ttOk t = true) {rs : List Report} : ∀ x ∈ allM t rs, ∀ y ∈ allM t rs, x.vehicle = y.vehicle → x.id = y.id → x = y := by
  intro x hx y hy h1 h2
  obtain ⟨r, a, hr, hl, ha, rfl⟩ := allM_mem hx
  obtain ⟨s, b, hs, hm, hb, rfl⟩ := allM_mem hy
  have e1 : r.vehicle = s.vehicle := h1
  have e2 : r = s := by
    rw [e1, hm] at hl
    injection hl with hl
    exact hl.symm
  have e3 : a = b := trips_one hok ha hb h2
  rw [e2, e3]
theorem allM_veh {t : Timetable} {rs : List Report} (hv : vehOk rs) : ∀ m ∈ allM t rs, m.vehicle ≠ 0 := by
  intro m hm
  obtain ⟨r, a, hr, _, _, rfl⟩ := allM_mem hm
  have := hv r hr
  show r.vehicle ≠ 0
  omega
theorem nearL_anti {t : Timetable} (hok : ttOk t = true) (rs : List Report) (limit : Int) : ∀ x ∈ nearL t rs limit, ∀ y ∈ nearL t rs limit, mLt x y = false → mLt y x = false → x = y := by
  intro x hx y hy h1 h2
  rw [mLt_not] at h1 h2
  exact allM_one hok x (List.mem_filter.1 hx).1 y (List.mem_filter.1 hy).1 (by omega) (by omega)
theorem chosen_anti (t : Timetable) (rs : List Report) (limit : Int) : ∀ x ∈ chosen t rs limit, ∀ y ∈ chosen t rs limit, vLt x y = false → vLt y x = false → x = y := by
  intro x hx y hy h1 h2
  unfold vLt at h1 h2
  simp only [decide_eq_false_iff_not] at h1 h2
  exact apart_one (greedy_apart _ _ List.Pairwise.nil) x hx y hy (by omega)
theorem allM_len (t : Timetable) (rs : List Report) : (allM t rs).length ≤ 100 * t.trips.length := by
  unfold allM
  have h : ∀ (l : List Report), (l.flatMap (fits t)).length ≤ l.length * t.trips.length := by
    intro l
    induction l with
    | nil => simp
    | cons r l ih =>
      rw [List.flatMap_cons, List.length_append, List.length_cons, Nat.succ_mul]
      have := fits_len t r
      omega
  have h1 := h (lasts 100 rs)
  have h2 := lasts_len 100 rs
  have h3 := Nat.mul_le_mul_right t.trips.length h2
  omega
theorem nearL_len (t : Timetable) (rs : List Report) (limit : Int) : (nearL t rs limit).length ≤ 100 * t.trips.length := Nat.le_trans (List.length_filter_le _ _) (allM_len t rs)
theorem chosen_len (t : Timetable) (rs : List Report) (limit : Int) : (chosen t rs limit).length ≤ 100 * t.trips.length := by
  have h := (greedy_len (sortL mLt (nearL t rs limit)) []).2
  rw [sortL_len mWeak] at h
  have := nearL_len t rs limit
  unfold chosen
  simp at h
  omega
theorem matched_len (t : Timetable) (rs : List Report) (limit : Int) : (matched t rs limit).length ≤ 100 * t.trips.length := by
  unfold matched
  rw [sortL_len vWeak]
  exact chosen_len t rs limit
end Go.Proofs.YtmbaalkeogckbaaGreat

