/- Cheapest tickets: plain facts of the table of cheapest sums. -/
import Derived.Test.YtbegjabnkgennaaUI
namespace Go.Proofs.Ytbegjabnkgennaa
open Go Go.Am

def cmpL : List Int → List Int → Int
  | [], [] => 0
  | [], _ :: _ => -1
  | _ :: _, [] => 1
  | a :: x, b :: y => if cmpI a b = 0 then cmpL x y else cmpI a b

def nextOf (ds : List Int) (i : Nat) : Nat := i + ((ds.drop i).takeWhile fun d => decide (d < ds.getD i 0 + 7)).length
abbrev Ent := Int × List Int
def ent0 : Ent := (0, [])
def less2 (s2 s1 : Int) (b w : List Int) : Bool := decide (orF [cmpI s2 s1, cmpL b w] < 0)
def entry (W : Int) (ds cs : List Int) (i : Nat) (tl : List Ent) : Ent :=
  if less2 (W + (tl.getD (nextOf ds i - (i + 1)) ent0).1) (cs.getD i 0 + (tl.getD 0 ent0).1) (ds.getD i 0 :: (tl.getD (nextOf ds i - (i + 1)) ent0).2) (tl.getD 0 ent0).2
  then (W + (tl.getD (nextOf ds i - (i + 1)) ent0).1, ds.getD i 0 :: (tl.getD (nextOf ds i - (i + 1)) ent0).2)
  else (cs.getD i 0 + (tl.getD 0 ent0).1, (tl.getD 0 ent0).2)
def tab (W : Int) (ds cs : List Int) : Nat → List Ent
  | 0 => [ent0]
  | k + 1 => entry W ds cs (ds.length - (k + 1)) (tab W ds cs k) :: tab W ds cs k
def full (W : Int) (ds cs : List Int) : List Ent := tab W ds cs ds.length
def fAt (W : Int) (ds cs : List Int) (i : Nat) : Ent := (full W ds cs).getD i ent0
def pl (cs : List Int) (i : Nat) : Int := (cs.drop i).sum

structure OkT (W : Int) (ds cs : List Int) : Prop where
  len : cs.length = ds.length
  asc : ∀ i j, i < j → j < ds.length → ds.getD i 0 < ds.getD j 0
  cost : ∀ i, 0 ≤ cs.getD i 0 ∧ cs.getD i 0 ≤ 10000
  few : ds.length ≤ 20
  w0 : 0 ≤ W
  w1 : W ≤ 10000
  day : ∀ i, 0 ≤ ds.getD i 0 ∧ ds.getD i 0 ≤ 60

section
variable {W : Int} {ds cs : List Int}
theorem tab_len (k : Nat) : (tab W ds cs k).length = k + 1 := by
  induction k with
  | zero => rfl
  | succ k ih => simp only [tab, List.length_cons, ih]
theorem full_len : (full W ds cs).length = ds.length + 1 := tab_len _
theorem tab_drop (k : Nat) : ∀ j, (tab W ds cs (j + k)).drop j = tab W ds cs k
  | 0 => by simp
  | j + 1 => by
    rw [show j + 1 + k = (j + k) + 1 from by omega]
    simp only [tab, List.drop_succ_cons]
    exact tab_drop k j
theorem full_drop {i : Nat} (hi : i ≤ ds.length) : (full W ds cs).drop i = tab W ds cs (ds.length - i) := by
  have h := tab_drop (W := W) (ds := ds) (cs := cs) (ds.length - i) i
  rw [show i + (ds.length - i) = ds.length from by omega] at h
  exact h
theorem drop_getD {α : Type} (l : List α) (a i : Nat) (x : α) : (l.drop a).getD i x = l.getD (a + i) x := by
  simp [List.getD_eq_getElem?_getD, List.getElem?_drop]
theorem next_le {i : Nat} (hi : i ≤ ds.length) : nextOf ds i ≤ ds.length := by
  unfold nextOf
  have h := (List.takeWhile_prefix (l := ds.drop i) fun d => decide (d < ds.getD i 0 + 7)).length_le
  rw [List.length_drop] at h
  omega
theorem next_gt {i : Nat} (hi : i < ds.length) : i < nextOf ds i := by
  unfold nextOf
  rw [List.drop_eq_getElem_cons hi, List.takeWhile_cons]
  have e : ds.getD i 0 = ds[i] := by simp [List.getD_eq_getElem?_getD, hi]
  rw [if_pos (by rw [e]; simp; omega)]
  simp
theorem takeWhile_len {p : Int → Bool} : ∀ (l : List Int) (k : Nat), (∀ j, j < k → ∃ x, l[j]? = some x ∧ p x = true) → (k = l.length ∨ ∃ x, l[k]? = some x ∧ p x = false) → (l.takeWhile p).length = k
  | [], k, h, h2 => by
    rcases h2 with h2 | ⟨x, h2, _⟩
    · simp at h2; simp [h2]
    · simp at h2
  | a :: l, 0, h, h2 => by
    rcases h2 with h2 | ⟨x, h2, h3⟩
    · simp at h2
    · simp at h2; subst h2; simp [List.takeWhile_cons, h3]
  | a :: l, k + 1, h, h2 => by
    obtain ⟨x, h3, h4⟩ := h 0 (by omega)
    simp at h3
    subst h3
    rw [List.takeWhile_cons, if_pos h4, List.length_cons, takeWhile_len l k (fun j hj => by simpa using h (j + 1) (by omega)) ?_]
    rcases h2 with h2 | ⟨x, h2, h3⟩
    · left; simpa using h2
    · right; exact ⟨x, by simpa using h2, h3⟩
theorem next_stop {i k : Nat} (hi : i ≤ k) (hk : k ≤ ds.length) (h : ∀ j, i ≤ j → j < k → ds.getD j 0 < ds.getD i 0 + 7) (h2 : k = ds.length ∨ ds.getD i 0 + 7 ≤ ds.getD k 0) : nextOf ds i = k := by
  have e : ((ds.drop i).takeWhile fun d => decide (d < ds.getD i 0 + 7)).length = k - i := by
    refine takeWhile_len (ds.drop i) (k - i) (fun j hj => ?_) ?_
    · have hlt : i + j < ds.length := by omega
      refine ⟨ds[i + j], by rw [List.getElem?_drop]; exact List.getElem?_eq_getElem hlt, ?_⟩
      have := h (i + j) (by omega) (by omega)
      rw [show ds.getD (i + j) 0 = ds[i + j] from by simp [List.getD_eq_getElem?_getD, hlt]] at this
      exact decide_eq_true this
    · by_cases he : k = ds.length
      · left; rw [List.length_drop]; omega
      · right
        have hlt : k < ds.length := by omega
        refine ⟨ds[k], by rw [List.getElem?_drop, show i + (k - i) = k from by omega]; exact List.getElem?_eq_getElem hlt, ?_⟩
        rcases h2 with h2 | h2
        · exact absurd h2 he
        · rw [show ds.getD k 0 = ds[k] from by simp [List.getD_eq_getElem?_getD, hlt]] at h2
          exact decide_eq_false (by omega)
  unfold nextOf
  omega

theorem fAt_end : fAt W ds cs ds.length = ent0 := by
  unfold fAt
  have h := full_drop (W := W) (ds := ds) (cs := cs) (i := ds.length) (Nat.le_refl _)
  have h2 := drop_getD (full W ds cs) ds.length 0 ent0
  rw [h, Nat.sub_self] at h2
  rw [Nat.add_zero] at h2
  rw [← h2]
  rfl
theorem fAt_step {i : Nat} (hi : i < ds.length) : fAt W ds cs i =
    if less2 (W + (fAt W ds cs (nextOf ds i)).1) (cs.getD i 0 + (fAt W ds cs (i + 1)).1) (ds.getD i 0 :: (fAt W ds cs (nextOf ds i)).2) (fAt W ds cs (i + 1)).2
    then (W + (fAt W ds cs (nextOf ds i)).1, ds.getD i 0 :: (fAt W ds cs (nextOf ds i)).2)
    else (cs.getD i 0 + (fAt W ds cs (i + 1)).1, (fAt W ds cs (i + 1)).2) := by
  have h1 := full_drop (W := W) (ds := ds) (cs := cs) (i := i) (by omega)
  have h2 := full_drop (W := W) (ds := ds) (cs := cs) (i := i + 1) (by omega)
  rw [show ds.length - i = (ds.length - (i + 1)) + 1 from by omega] at h1
  unfold tab at h1
  rw [← h2, show ds.length - (ds.length - (i + 1) + 1) = i from by omega] at h1
  have h3 : fAt W ds cs i = entry W ds cs i ((full W ds cs).drop (i + 1)) := by
    unfold fAt
    have := drop_getD (full W ds cs) i 0 ent0
    rw [h1, show i + 0 = i from rfl] at this
    rw [← this]
    rfl
  have hg := next_gt hi
  rw [h3]
  unfold entry
  simp only [drop_getD, Nat.add_zero]
  rw [show i + 1 + (nextOf ds i - (i + 1)) = nextOf ds i from by omega]
  rfl

theorem less2_t {s2 s1 : Int} {b w : List Int} (h : less2 s2 s1 b w = true) : s2 < s1 ∨ (s2 = s1 ∧ cmpL b w < 0) := by
  have h := of_decide_eq_true h
  unfold orF cmpI at h
  by_cases h1 : s2 < s1
  · exact .inl h1
  · rw [if_neg h1] at h
    by_cases h2 : s1 < s2
    · rw [if_pos h2] at h
      simp at h
    · rw [if_neg h2] at h
      rw [if_pos rfl] at h
      refine .inr ⟨by omega, ?_⟩
      unfold orF at h
      split at h
      · rename_i h0; unfold orF at h; omega
      · exact h
theorem less2_f {s2 s1 : Int} {b w : List Int} (h : less2 s2 s1 b w = false) : s1 < s2 ∨ (s2 = s1 ∧ 0 ≤ cmpL b w) := by
  have h := of_decide_eq_false h
  unfold orF cmpI at h
  by_cases h1 : s2 < s1
  · rw [if_pos h1] at h
    simp at h
  · rw [if_neg h1] at h
    by_cases h2 : s1 < s2
    · exact .inl h2
    · rw [if_neg h2] at h
      rw [if_pos rfl] at h
      refine .inr ⟨by omega, ?_⟩
      unfold orF at h
      split at h
      · rename_i h0; omega
      · omega

theorem fAt_fst {i : Nat} (hi : i < ds.length) : (fAt W ds cs i).1 = if cs.getD i 0 + (fAt W ds cs (i + 1)).1 < W + (fAt W ds cs (nextOf ds i)).1 then cs.getD i 0 + (fAt W ds cs (i + 1)).1 else W + (fAt W ds cs (nextOf ds i)).1 := by
  rw [fAt_step hi]
  split
  · rename_i h
    rcases less2_t h with h | h <;> rw [if_neg (by omega)]
  · rename_i h
    rcases less2_f (Bool.eq_false_iff.2 h) with h | h
    · rw [if_pos h]
    · rw [if_neg (by omega)]; exact h.1.symm

theorem pl_at (h : cs.length = ds.length) {i : Nat} (hi : i < ds.length) : pl cs i = cs.getD i 0 + pl cs (i + 1) := by
  unfold pl
  have hi' : i < cs.length := by omega
  rw [List.drop_eq_getElem_cons hi', List.sum_cons]
  simp [List.getD_eq_getElem?_getD, hi']
theorem pl_end (h : cs.length = ds.length) : pl cs ds.length = 0 := by
  unfold pl
  rw [← h, List.drop_length]
  rfl

/-- What is told of each place. -/
structure Good1 (W : Int) (ds cs : List Int) (i : Nat) : Prop where
  ge : 0 ≤ (fAt W ds cs i).1
  le : (fAt W ds cs i).1 ≤ 10000 * ((ds.length - i : Nat) : Int)
  pl : (fAt W ds cs i).1 ≤ pl cs i
  iff : (fAt W ds cs i).2 = [] ↔ Go.Proofs.Ytbegjabnkgennaa.pl cs i = (fAt W ds cs i).1
  head : (fAt W ds cs i).2 = [] ∨ ∃ j t, i ≤ j ∧ j < ds.length ∧ (fAt W ds cs i).2 = ds.getD j 0 :: t
  len : (fAt W ds cs i).2.length ≤ ds.length - i

theorem good_all (h : OkT W ds cs) : ∀ (k i : Nat), ds.length - i = k → i ≤ ds.length → Good1 W ds cs i := by
  intro k
  induction k using Nat.strongRecOn with
  | ind k ih =>
    intro i hk hi
    by_cases he : i = ds.length
    · subst he
      have hp := pl_end h.len
      refine ⟨?_, ?_, ?_, ?_, ?_, ?_⟩ <;> rw [fAt_end]
      · exact Int.le_refl _
      · show (0 : Int) ≤ _; omega
      · rw [hp]; exact Int.le_refl _
      · rw [hp]; exact ⟨fun _ => rfl, fun _ => rfl⟩
      · exact .inl rfl
      · exact Nat.zero_le _
    · have hlt : i < ds.length := by omega
      have hg := next_gt hlt
      have hl := next_le (ds := ds) (i := i) (by omega)
      have g1 := ih (ds.length - (i + 1)) (by omega) (i + 1) rfl (by omega)
      have g2 := ih (ds.length - nextOf ds i) (by omega) (nextOf ds i) rfl hl
      have hp := pl_at h.len hlt
      have hc := h.cost i
      have hs := fAt_step (W := W) (cs := cs) hlt
      have hw := h.w0
      have e1 : ((ds.length - i : Nat) : Int) = ((ds.length - (i + 1) : Nat) : Int) + 1 := by omega
      obtain ⟨a1, a2, a3, a4, a5, a6⟩ := g1
      obtain ⟨b1, b2, b3, b4, b5, b6⟩ := g2
      cases hb : less2 (W + (fAt W ds cs (nextOf ds i)).1) (cs.getD i 0 + (fAt W ds cs (i + 1)).1) (ds.getD i 0 :: (fAt W ds cs (nextOf ds i)).2) (fAt W ds cs (i + 1)).2 with
      | true =>
        rw [hb, if_pos rfl] at hs
        have ht := less2_t hb
        have h1 : (fAt W ds cs i).1 = W + (fAt W ds cs (nextOf ds i)).1 := by rw [hs]
        have h2 : (fAt W ds cs i).2 = ds.getD i 0 :: (fAt W ds cs (nextOf ds i)).2 := by rw [hs]
        refine ⟨by omega, by omega, by omega, ?_, .inr ⟨i, _, Nat.le_refl _, hlt, h2⟩, by rw [h2, List.length_cons]; omega⟩
        rw [h2]
        refine ⟨fun e => by simp at e, fun e => ?_⟩
        exfalso
        rcases ht with ht | ⟨ht, hcm⟩
        · omega
        · have : (fAt W ds cs (i + 1)).2 = [] := a4.2 (by omega)
          rw [this] at hcm
          simp [cmpL] at hcm
      | false =>
        rw [hb, if_neg (by simp)] at hs
        have ht := less2_f hb
        have h1 : (fAt W ds cs i).1 = cs.getD i 0 + (fAt W ds cs (i + 1)).1 := by rw [hs]
        have h2 : (fAt W ds cs i).2 = (fAt W ds cs (i + 1)).2 := by rw [hs]
        refine ⟨by omega, by omega, by omega, ?_, ?_, by rw [h2]; omega⟩
        · rw [h2, a4]; omega
        · rw [h2]
          rcases a5 with a5 | ⟨j, t, a5, a7, a8⟩
          · exact .inl a5
          · exact .inr ⟨j, t, by omega, a7, a8⟩

theorem good_at (h : OkT W ds cs) {i : Nat} (hi : i ≤ ds.length) : Good1 W ds cs i := good_all h _ i rfl hi

/-- The reference's greedy walk: it stops, takes a week, or goes on. -/
theorem gr_stop (h : OkT W ds cs) {i : Nat} (hi : i ≤ ds.length) (hp : pl cs i = (fAt W ds cs i).1) : (fAt W ds cs i).2 = [] := (good_at h hi).iff.2 hp
theorem gr_take (h : OkT W ds cs) {i : Nat} (hi : i < ds.length) (hp : pl cs i ≠ (fAt W ds cs i).1) (hw : W + (fAt W ds cs (nextOf ds i)).1 = (fAt W ds cs i).1) : (fAt W ds cs i).2 = ds.getD i 0 :: (fAt W ds cs (nextOf ds i)).2 := by
  have hs := fAt_step (W := W) (cs := cs) hi
  have g1 := good_at h (i := i + 1) (by omega)
  cases hb : less2 (W + (fAt W ds cs (nextOf ds i)).1) (cs.getD i 0 + (fAt W ds cs (i + 1)).1) (ds.getD i 0 :: (fAt W ds cs (nextOf ds i)).2) (fAt W ds cs (i + 1)).2 with
  | true => rw [hb, if_pos rfl] at hs; rw [hs]
  | false =>
    exfalso
    rw [hb, if_neg (by simp)] at hs
    have h1 : (fAt W ds cs i).1 = cs.getD i 0 + (fAt W ds cs (i + 1)).1 := by rw [hs]
    rcases less2_f hb with ht | ⟨ht, hcm⟩
    · omega
    · rcases g1.head with h3 | ⟨j, t, h3, h4, h5⟩
      · have h6 := g1.iff.1 h3
        have := pl_at h.len hi
        omega
      · rw [h5] at hcm
        have := h.asc i j (by omega) h4
        have e : cmpI (ds.getD i 0) (ds.getD j 0) = -1 := by unfold cmpI; rw [if_pos this]
        unfold cmpL at hcm
        rw [e] at hcm
        simp at hcm
theorem gr_next (h : OkT W ds cs) {i : Nat} (hi : i < ds.length) (hw : W + (fAt W ds cs (nextOf ds i)).1 ≠ (fAt W ds cs i).1) : (fAt W ds cs i).2 = (fAt W ds cs (i + 1)).2 := by
  have hs := fAt_step (W := W) (cs := cs) hi
  cases hb : less2 (W + (fAt W ds cs (nextOf ds i)).1) (cs.getD i 0 + (fAt W ds cs (i + 1)).1) (ds.getD i 0 :: (fAt W ds cs (nextOf ds i)).2) (fAt W ds cs (i + 1)).2 with
  | true =>
    rw [hb, if_pos rfl] at hs
    exact absurd (by rw [hs]) hw
  | false => rw [hb, if_neg (by simp)] at hs; rw [hs]
end

/-! Rides by days. -/
def dayStep (g : List (Int × Int)) (r : Ride) : List (Int × Int) :=
  if 0 < g.length ∧ (g.getD (g.length - 1) (0, 0)).1 = r.day then g.set (g.length - 1) (r.day, (g.getD (g.length - 1) (0, 0)).2 + r.fare) else g ++ [(r.day, r.fare)]
def dayL (rs : List Ride) : List (Int × Int) := rs.foldl dayStep []
theorem dayL_next {rs : List Ride} {i : Nat} {r : Ride} (h : rs[i]? = some r) : dayL (rs.take (i + 1)) = dayStep (dayL (rs.take i)) r := by
  unfold dayL
  rw [List.take_add_one, h]
  simp
def capL (c : Int) (g : List (Int × Int)) : List Int := g.map fun x => if x.2 < c then x.2 else c
def rideAt (rs : List Ride) (i : Nat) (r : Ride) : Bool := (inR r.day 0 60 && (inR r.time 0 1799 && inR r.fare 0 10000)) &&
  (decide (i = 0) || !(decide (r.day < (rs.getD (i - 1) ⟨0, 0, 0⟩).day) || (decide ((rs.getD (i - 1) ⟨0, 0, 0⟩).day = r.day) && decide (r.time < (rs.getD (i - 1) ⟨0, 0, 0⟩).time))))
def ridesOk (rs : List Ride) : Bool := allI (rideAt rs) rs && decide (rs.length ≤ 20)

/-- What is told of the days of the first rides. -/
structure DaysI (rs : List Ride) (i : Nat) (g : List (Int × Int)) : Prop where
  len : g.length ≤ i
  day : ∀ x ∈ g, 0 ≤ x.1 ∧ x.1 ≤ 60
  fare : ∀ x ∈ g, 0 ≤ x.2 ∧ x.2 ≤ 10000 * (i : Int)
  asc : ∀ (a b : Nat) (x y : Int × Int), a < b → g[a]? = some x → g[b]? = some y → x.1 < y.1
  last : 0 < i → 0 < g.length ∧ (g.getD (g.length - 1) (0, 0)).1 = (rs.getD (i - 1) ⟨0, 0, 0⟩).day

theorem days_step {rs : List Ride} {i : Nat} {g : List (Int × Int)} {r : Ride} (hr : rs[i]? = some r) (hok : rideAt rs i r = true) (h : DaysI rs i g) : DaysI rs (i + 1) (dayStep g r) := by
  obtain ⟨h1, h2, h3, h4, h5⟩ := h
  unfold rideAt at hok
  simp only [Bool.and_eq_true, inR_iff] at hok
  obtain ⟨⟨⟨d0, d1⟩, _, f0, f1⟩, hord⟩ := hok
  have hlast : ∀ {g' : List (Int × Int)} {n : Nat} {c : Int}, g'[n]? = some (r.day, c) → g'.length = n + 1 → 0 < g'.length ∧ (g'.getD (g'.length - 1) (0, 0)).1 = (rs.getD (i + 1 - 1) ⟨0, 0, 0⟩).day := fun {g' n c} hg hl => by
    refine ⟨by omega, ?_⟩
    rw [hl, Nat.add_sub_cancel, Nat.add_sub_cancel]
    simp [List.getD_eq_getElem?_getD, hg, hr]
  unfold dayStep
  split
  · rename_i hc
    obtain ⟨hc0, hc1⟩ := hc
    have hx : g[g.length - 1]? = some g[g.length - 1] := List.getElem?_eq_getElem (by omega)
    have hxd : g.getD (g.length - 1) (0, 0) = g[g.length - 1] := by simp [List.getD_eq_getElem?_getD, hx]
    rw [hxd] at hc1 ⊢
    have hm := List.mem_of_getElem? hx
    have hf := h3 _ hm
    refine ⟨by rw [List.length_set]; omega, fun x hx' => ?_, fun x hx' => ?_, fun a b x y hab ha hb => ?_, fun _ => hlast (n := g.length - 1) (c := g[g.length - 1].2 + r.fare) (by rw [List.getElem?_set, if_pos rfl, if_pos (by omega)]) (by rw [List.length_set]; omega)⟩
    · rcases List.mem_or_eq_of_mem_set hx' with hx' | rfl
      · exact h2 x hx'
      · exact ⟨d0, d1⟩
    · rcases List.mem_or_eq_of_mem_set hx' with hx' | rfl
      · have := h3 x hx'; omega
      · show 0 ≤ _ + r.fare ∧ _ + r.fare ≤ _
        omega
    · have hbl : b < g.length := by
        have := (List.getElem?_eq_some_iff.1 hb).1
        rwa [List.length_set] at this
      have hal : a < g.length := by omega
      have hane : g.length - 1 ≠ a := by omega
      rw [List.getElem?_set_ne hane] at ha
      by_cases e : g.length - 1 = b
      · subst e
        rw [List.getElem?_set, if_pos rfl, if_pos (by omega)] at hb
        injection hb with hb
        subst hb
        have := h4 a _ x _ hab ha hx
        rw [hc1] at this
        exact this
      · rw [List.getElem?_set_ne e] at hb
        exact h4 a b x y hab ha hb
  · rename_i hc
    refine ⟨by rw [List.length_append, List.length_singleton]; omega, fun x hx' => ?_, fun x hx' => ?_, fun a b x y hab ha hb => ?_, fun _ => hlast (n := g.length) (c := r.fare) (by rw [List.getElem?_append_right (Nat.le_refl _), Nat.sub_self]; rfl) (by rw [List.length_append, List.length_singleton])⟩
    · rcases List.mem_append.1 hx' with hx' | hx'
      · exact h2 x hx'
      · rw [List.mem_singleton] at hx'; subst hx'; exact ⟨d0, d1⟩
    · rcases List.mem_append.1 hx' with hx' | hx'
      · have := h3 x hx'; omega
      · rw [List.mem_singleton] at hx'; subst hx'
        show 0 ≤ r.fare ∧ r.fare ≤ _
        omega
    · have hbl : b < g.length + 1 := by
        have := (List.getElem?_eq_some_iff.1 hb).1
        rwa [List.length_append, List.length_singleton] at this
      rw [List.getElem?_append_left (by omega)] at ha
      by_cases e : b = g.length
      · subst e
        rw [List.getElem?_append_right (Nat.le_refl _), Nat.sub_self] at hb
        simp at hb
        subst hb
        show x.1 < r.day
        have hi0 : 0 < i := by
          have := (List.getElem?_eq_some_iff.1 ha).1
          omega
        obtain ⟨hg0, hgl⟩ := h5 hi0
        have hne : (g.getD (g.length - 1) (0, 0)).1 ≠ r.day := fun e => hc ⟨hg0, e⟩
        have hord' : ¬ r.day < (rs.getD (i - 1) ⟨0, 0, 0⟩).day := by
          intro hlt
          simp only [Bool.or_eq_true, decide_eq_true_eq, Bool.not_eq_true', Bool.or_eq_false_iff, decide_eq_false_iff_not] at hord
          rcases hord with h | h
          · omega
          · exact h.1 hlt
        have hx : g[g.length - 1]? = some g[g.length - 1] := List.getElem?_eq_getElem (by omega)
        have hxd : g.getD (g.length - 1) (0, 0) = g[g.length - 1] := by simp [List.getD_eq_getElem?_getD, hx]
        rw [hxd] at hne hgl
        have hle : x.1 ≤ g[g.length - 1].1 := by
          by_cases e2 : a = g.length - 1
          · subst e2
            rw [hx] at ha
            injection ha with ha
            rw [ha]
            exact Int.le_refl _
          · exact Int.le_of_lt (h4 a _ x _ (by omega) ha hx)
        omega
      · rw [List.getElem?_append_left (by omega)] at hb
        exact h4 a b x y hab ha hb
theorem days_0 (rs : List Ride) : DaysI rs 0 [] := ⟨Nat.le_refl _, (fun x h => by cases h), (fun x h => by cases h), (fun a b x y _ h => by simp at h), (fun h => by omega)⟩
theorem days_all {rs : List Ride} (h : allI (rideAt rs) rs = true) : ∀ i, i ≤ rs.length → DaysI rs i (dayL (rs.take i))
  | 0, _ => days_0 rs
  | i + 1, hi => by
    have hr := List.getElem?_eq_getElem (l := rs) (i := i) (by omega)
    rw [dayL_next hr]
    exact days_step hr (allI_iff.1 h _ _ hr) (days_all h i (by omega))
theorem okT_of {rs : List Ride} (h : ridesOk rs = true) {W c : Int} (hw : inR W 0 10000 = true) (hc : inR c 0 10000 = true) : OkT W ((dayL rs).map (·.1)) (capL c (dayL rs)) := by
  unfold ridesOk at h
  simp only [Bool.and_eq_true, decide_eq_true_eq] at h
  have hd := days_all h.1 rs.length (Nat.le_refl _)
  rw [List.take_length] at hd
  rw [inR_iff] at hw hc
  obtain ⟨h1, h2, h3, h4, _⟩ := hd
  refine ⟨by simp [capL], fun i j hij hj => ?_, fun i => ?_, by rw [List.length_map]; omega, hw.1, hw.2, fun i => ?_⟩
  · rw [List.length_map] at hj
    have ei := List.getElem?_eq_getElem (l := dayL rs) (i := i) (by omega)
    have ej := List.getElem?_eq_getElem (l := dayL rs) (i := j) hj
    have := h4 i j _ _ hij ei ej
    simpa [List.getD_eq_getElem?_getD, ei, ej] using this
  · unfold capL
    rw [List.getD_eq_getElem?_getD, List.getElem?_map]
    cases e : (dayL rs)[i]? with
    | none => simp
    | some x =>
      have := (h3 x (List.mem_of_getElem? e)).1
      simp only [Option.map_some, Option.getD_some]
      split <;> omega
  · rw [List.getD_eq_getElem?_getD, List.getElem?_map]
    cases e : (dayL rs)[i]? with
    | none => simp
    | some x => simpa using h2 x (List.mem_of_getElem? e)
end Go.Proofs.Ytbegjabnkgennaa

