/- Depots: parking, taking, what stands behind a vehicle: plain facts. -/
import Derived.Test.YtkjigbbbobijnaaN2
namespace Go.Proofs.Ytkjigbbbobijnaa
open Go Go.Am

structure Depot where
  sizes : List Int
  tracks : List (List Int)
def Depot.enc (d : Depot) : List D := [.list (d.sizes.map intRow), .list (d.tracks.map intsRow)]
def Depot.fit (d : Depot) : Prop := d.sizes.length ≤ 1000 ∧ d.tracks.length ≤ 1000 ∧ ∀ t ∈ d.tracks, t.length ≤ 1000
def dNone : Depot := ⟨[], []⟩
def trk (ts : List (List Int)) (i : Nat) : List Int := ts.getD i []

def vOk (seen : List Int) (v : Int) : Bool := inR v 1 99 && !(seen.any (pInt v))
def scanT : List Int → List Int → Option (List Int)
  | seen, [] => some seen
  | seen, v :: vs => if vOk seen v then scanT (seen ++ [v]) vs else none
def scanD : List Int → List Int → List (List Int) → Option (List Int)
  | seen, [], _ => some seen
  | seen, s :: ss, ts => if inR s 0 8 && decide (((ts.headD []).length : Int) ≤ s) then (match scanT seen (ts.headD []) with | some seen' => scanD seen' ss ts.tail | none => none) else none
def depOk (d : Depot) : Bool := inR d.sizes.length 1 4 && decide (d.tracks.length = d.sizes.length) && (scanD [] d.sizes d.tracks).isSome

theorem any_pInt {xs : List Int} {v : Int} : xs.any (pInt v) = true ↔ v ∈ xs := by
  rw [List.any_eq_true]
  constructor
  · rintro ⟨y, hy, he⟩
    have : v = y := by simpa [pInt] using he
    rw [this]; exact hy
  · intro h
    exact ⟨v, h, by simp [pInt]⟩
theorem vOk_iff {seen : List Int} {v : Int} : vOk seen v = true ↔ inR v 1 99 = true ∧ v ∉ seen := by
  unfold vOk
  rw [Bool.and_eq_true, Bool.not_eq_true', ← any_pInt]
  simp
theorem scanT_iff : ∀ {vs seen s' : List Int}, scanT seen vs = some s' ↔ s' = seen ++ vs ∧ (∀ v ∈ vs, inR v 1 99 = true) ∧ (∀ v ∈ vs, v ∉ seen) ∧ vs.Nodup
  | [], seen, s' => by
    show some seen = some s' ↔ _
    refine ⟨fun h => ?_, fun h => by rw [h.1, List.append_nil]⟩
    injection h with h
    subst h
    simp
  | v :: vs, seen, s' => by
    unfold scanT
    by_cases h : vOk seen v = true
    · rw [if_pos h, scanT_iff (vs := vs)]
      rw [vOk_iff] at h
      simp only [List.mem_cons, forall_eq_or_imp, List.nodup_cons, List.mem_append, List.not_mem_nil, or_false, not_or, List.append_assoc, List.singleton_append]
      constructor
      · rintro ⟨h1, h2, h3, h4⟩
        exact ⟨h1, ⟨h.1, h2⟩, ⟨h.2, fun u hu => (h3 u hu).1⟩, fun hv => (h3 v hv).2 rfl, h4⟩
      · rintro ⟨h1, ⟨_, h2⟩, ⟨_, h3⟩, h5, h4⟩
        exact ⟨h1, h2, fun u hu => ⟨h3 u hu, fun e => h5 (e ▸ hu)⟩, h4⟩
    · rw [if_neg h]
      rw [vOk_iff] at h
      constructor
      · intro e; cases e
      · rintro ⟨_, h2, h3, _⟩
        exact absurd ⟨h2 v (by simp), h3 v (by simp)⟩ h

def szOk : List Int → List (List Int) → Prop
  | [], _ => True
  | s :: ss, ts => (inR s 0 8 = true ∧ ((ts.headD []).length : Int) ≤ s) ∧ szOk ss ts.tail
theorem szOk_at : ∀ {ss : List Int} {ts : List (List Int)} {i : Nat} {s : Int}, szOk ss ts → ss[i]? = some s → (0 ≤ s ∧ s ≤ 8) ∧ ((trk ts i).length : Int) ≤ s
  | [], _, i, s, _, h => by simp at h
  | x :: ss, ts, 0, s, h, hi => by
    simp at hi
    subst hi
    obtain ⟨⟨h1, h2⟩, _⟩ := h
    refine ⟨by simpa [inR] using h1, ?_⟩
    cases ts <;> simpa [trk] using h2
  | x :: ss, ts, i + 1, s, h, hi => by
    have := szOk_at (i := i) h.2 (by simpa using hi)
    cases ts with
    | nil => simpa [trk] using this
    | cons t ts => simpa [trk] using this
theorem szOk_set : ∀ {ss : List Int} {ts : List (List Int)} {i : Nat} {t : List Int}, szOk ss ts → (∀ s, ss[i]? = some s → (t.length : Int) ≤ s) → szOk ss (ts.set i t)
  | [], _, _, _, _, _ => trivial
  | s :: ss, [], i, t, h, _ => by simpa using h
  | s :: ss, x :: ts, 0, t, h, ht => ⟨⟨h.1.1, by simpa using ht s rfl⟩, h.2⟩
  | s :: ss, x :: ts, i + 1, t, h, ht => ⟨h.1, szOk_set (ts := ts) h.2 fun s' hs => ht s' (by simpa using hs)⟩

theorem scanD_iff : ∀ {ss : List Int} {ts : List (List Int)} {seen s' : List Int}, ts.length = ss.length →
    (scanD seen ss ts = some s' ↔ s' = seen ++ ts.flatten ∧ szOk ss ts ∧ (∀ v ∈ ts.flatten, inR v 1 99 = true) ∧ (∀ v ∈ ts.flatten, v ∉ seen) ∧ ts.flatten.Nodup)
  | [], [], seen, s', _ => by
    show some seen = some s' ↔ s' = seen ++ [] ∧ True ∧ _
    refine ⟨fun h => ?_, fun h => by rw [h.1, List.append_nil]⟩
    injection h with h
    subst h
    simp
  | [], t :: ts, seen, s', h => by simp at h
  | s :: ss, [], seen, s', h => by simp at h
  | s :: ss, t :: ts, seen, s', h => by
    unfold scanD
    by_cases hc : (inR s 0 8 && decide (((t :: ts).headD []).length ≤ s)) = true
    · rw [if_pos hc]
      have hc' : inR s 0 8 = true ∧ ((t.length : Int)) ≤ s := by simpa using hc
      simp only [List.headD_cons, List.tail_cons, List.flatten_cons]
      cases hs : scanT seen t with
      | none =>
        have hn : ¬ ((∀ v ∈ t, inR v 1 99 = true) ∧ (∀ v ∈ t, v ∉ seen) ∧ t.Nodup) := fun h3 => by
          have := (scanT_iff (vs := t) (seen := seen) (s' := seen ++ t)).2 ⟨rfl, h3⟩
          rw [hs] at this; cases this
        constructor
        · intro e; cases e
        · rintro ⟨_, _, h2, h3, h4⟩
          exact absurd ⟨fun v hv => h2 v (by simp [hv]), fun v hv => h3 v (by simp [hv]), (List.nodup_append.1 h4).1⟩ hn
      | some s1 =>
        obtain ⟨e1, a1, a2, a3⟩ := scanT_iff.1 hs
        subst e1
        simp only
        rw [scanD_iff (ss := ss) (ts := ts) (by simpa using h)]
        constructor
        · rintro ⟨b1, b2, b3, b4, b5⟩
          refine ⟨by rw [b1, List.append_assoc], ⟨hc', b2⟩, fun v hv => ?_, fun v hv => ?_, List.nodup_append.2 ⟨a3, b5, fun u hu v hv e => ?_⟩⟩
          · rcases List.mem_append.1 hv with hv | hv
            · exact a1 v hv
            · exact b3 v hv
          · rcases List.mem_append.1 hv with hv | hv
            · exact a2 v hv
            · exact fun h => b4 v hv (by simp [h])
          · exact b4 v hv (by rw [← e]; simp [hu])
        · rintro ⟨b1, b2, b3, b4, b5⟩
          obtain ⟨c1, c2, c3⟩ := List.nodup_append.1 b5
          refine ⟨by rw [b1, List.append_assoc], b2.2, fun v hv => b3 v (by simp [hv]), fun v hv h1 => ?_, c2⟩
          rcases List.mem_append.1 h1 with h1 | h1
          · exact b4 v (by simp [hv]) h1
          · exact c3 v h1 v hv rfl
    · rw [if_neg hc]
      constructor
      · intro e; cases e
      · rintro ⟨_, b2, _⟩
        exact absurd (by simpa using b2.1) hc
theorem depOk_iff {d : Depot} : depOk d = true ↔ (1 ≤ d.sizes.length ∧ d.sizes.length ≤ 4) ∧ d.tracks.length = d.sizes.length ∧ szOk d.sizes d.tracks ∧ (∀ v ∈ d.tracks.flatten, inR v 1 99 = true) ∧ d.tracks.flatten.Nodup := by
  unfold depOk
  rw [Bool.and_eq_true, Bool.and_eq_true, decide_eq_true_eq]
  have e1 : inR d.sizes.length 1 4 = true ↔ (1 ≤ d.sizes.length ∧ d.sizes.length ≤ 4) := by simp only [inR, Bool.and_eq_true, decide_eq_true_eq]; omega
  rw [e1]
  constructor
  · rintro ⟨⟨h1, h2⟩, h3⟩
    obtain ⟨s', hs⟩ := Option.isSome_iff_exists.1 h3
    obtain ⟨_, q1, q2, _, q3⟩ := (scanD_iff h2).1 hs
    exact ⟨h1, h2, q1, q2, q3⟩
  · rintro ⟨h1, h2, q1, q2, q3⟩
    refine ⟨⟨h1, h2⟩, ?_⟩
    have := (scanD_iff (seen := []) (s' := [] ++ d.tracks.flatten) h2).2 ⟨rfl, q1, q2, (fun _ _ h => by cases h), q3⟩
    rw [this]; rfl

/-- The track and the place of a vehicle. -/
def plcF : Nat → List (List Int) → Int → Option (Nat × Nat)
  | _, [], _ => none
  | i, t :: ts, v => if 0 ≤ idxF (pInt v) t then some (i, (idxF (pInt v) t).toNat) else plcF (i + 1) ts v
def plc (ts : List (List Int)) (v : Int) : Option (Nat × Nat) := plcF 0 ts v
theorem idx_iff {t : List Int} {v : Int} : 0 ≤ idxF (pInt v) t ↔ v ∈ t := by
  have h := idxF_ge (pInt v) t
  rw [← any_pInt, ← h]
  simp
theorem plcF_none : ∀ {ts : List (List Int)} {i : Nat} {v : Int}, plcF i ts v = none ↔ ∀ t ∈ ts, v ∉ t
  | [], _, _ => by simp [plcF]
  | t :: ts, i, v => by
    unfold plcF
    by_cases h : 0 ≤ idxF (pInt v) t
    · rw [if_pos h]
      have := idx_iff.1 h
      constructor
      · intro e; cases e
      · intro h2; exact absurd this (h2 t (by simp))
    · rw [if_neg h, plcF_none (ts := ts)]
      rw [idx_iff] at h
      simp [h]
theorem plcF_some : ∀ {ts : List (List Int)} {i : Nat} {v : Int} {j k : Nat}, plcF i ts v = some (j, k) → i ≤ j ∧ j - i < ts.length ∧ idxF (pInt v) (trk ts (j - i)) = k ∧ k < (trk ts (j - i)).length
  | [], _, _, _, _, h => by simp [plcF] at h
  | t :: ts, i, v, j, k, h => by
    unfold plcF at h
    by_cases h0 : 0 ≤ idxF (pInt v) t
    · rw [if_pos h0] at h
      injection h with h
      injection h with h1 h2
      subst h1 h2
      have hm := idx_iff.1 h0
      have hlt : idxF (pInt v) t < t.length := by
        rcases idx_hi (pInt v) t with h3 | h3
        · exact h3
        · rw [h3] at hm; cases hm
      refine ⟨Nat.le_refl _, by simp, ?_, ?_⟩
      · rw [Nat.sub_self]; show idxF (pInt v) t = _; omega
      · rw [Nat.sub_self]; show _ < t.length; omega
    · rw [if_neg h0] at h
      obtain ⟨h1, h2, h3, h4⟩ := plcF_some h
      have e : j - i = (j - (i + 1)) + 1 := by omega
      rw [e]
      exact ⟨by omega, by simp; omega, h3, h4⟩
theorem plcF_set : ∀ {ts : List (List Int)} {i j : Nat} {v : Int} {tr : List Int}, (∀ t ∈ ts, v ∉ t) → ts[i]? = some tr → plcF j (ts.set i (tr ++ [v])) v = some (j + i, tr.length)
  | [], i, j, v, tr, _, h => by simp at h
  | t :: ts, 0, j, v, tr, hn, h => by
    simp at h
    subst h
    have h1 : v ∉ t := hn t (by simp)
    have h2 : idxF (pInt v) (t ++ [v]) = (t.length : Nat) := by
      refine idxF_hit (v := v) (by simp) (by simp [pInt]) ?_
      rw [List.take_left' rfl]
      cases ha : t.any (pInt v) with
      | false => rfl
      | true => exact absurd (any_pInt.1 ha) h1
    show (if 0 ≤ idxF (pInt v) (t ++ [v]) then some (j, (idxF (pInt v) (t ++ [v])).toNat) else _) = _
    rw [h2, if_pos (by omega)]
    simp
  | t :: ts, i + 1, j, v, tr, hn, h => by
    have h1 : v ∉ t := hn t (by simp)
    show (if 0 ≤ idxF (pInt v) t then _ else plcF (j + 1) (ts.set i (tr ++ [v])) v) = _
    rw [if_neg (fun h2 => h1 (idx_iff.1 h2)), plcF_set (fun t ht => hn t (by simp [ht])) (by simpa using h)]
    congr 2
    omega

def parkD (d : Depot) (v t : Int) : Option Depot :=
  if 0 ≤ t ∧ t < d.tracks.length ∧ ((trk d.tracks t.toNat).length : Int) < d.sizes.getD t.toNat 0 ∧ inR v 1 99 = true ∧ plc d.tracks v = none then some ⟨d.sizes, d.tracks.set t.toNat (trk d.tracks t.toNat ++ [v])⟩ else none
def takeD (d : Depot) (v : Int) : Option Depot :=
  match plc d.tracks v with
  | some (i, k) => if k + 1 = (trk d.tracks i).length then some ⟨d.sizes, d.tracks.set i ((trk d.tracks i).take k)⟩ else none
  | none => none
def blkL (d : Depot) (v : Int) : List Int :=
  match plc d.tracks v with
  | some (i, k) => ((trk d.tracks i).drop (k + 1)).reverse
  | none => []
def freeL : List Int → List (List Int) → Int
  | [], _ => 0
  | s :: ss, ts => (s - (ts.headD []).length) + freeL ss ts.tail

theorem trk_at {ts : List (List Int)} {i : Nat} (h : i < ts.length) : ts[i]? = some (trk ts i) := by
  unfold trk
  rw [List.getD_eq_getElem?_getD, List.getElem?_eq_getElem h]; rfl
theorem flat_set_perm : ∀ {ts : List (List Int)} {i : Nat} {tr : List Int} {v : Int}, ts[i]? = some tr → ((ts.set i (tr ++ [v])).flatten).Perm (v :: ts.flatten)
  | [], i, tr, v, h => by simp at h
  | t :: ts, 0, tr, v, h => by
    simp at h
    subst h
    simp only [List.set_cons_zero, List.flatten_cons, List.append_assoc, List.singleton_append]
    exact List.perm_middle
  | t :: ts, i + 1, tr, v, h => by
    have ih := flat_set_perm (v := v) (ts := ts) (i := i) (by simpa using h)
    simp only [List.set_cons_succ, List.flatten_cons]
    exact (ih.append_left t).trans List.perm_middle
theorem freeL_set : ∀ {ss : List Int} {ts : List (List Int)} {i : Nat} {tr : List Int} {v : Int}, ts.length = ss.length → ts[i]? = some tr → freeL ss ts = freeL ss (ts.set i (tr ++ [v])) + 1
  | [], [], i, tr, v, _, h => by simp at h
  | [], t :: ts, i, tr, v, hl, h => by simp at hl
  | s :: ss, [], i, tr, v, hl, h => by simp at h
  | s :: ss, t :: ts, 0, tr, v, _, h => by
    simp at h
    subst h
    simp only [freeL, List.set_cons_zero, List.headD_cons, List.tail_cons, List.length_append, List.length_cons, List.length_nil]
    omega
  | s :: ss, t :: ts, i + 1, tr, v, hl, h => by
    have ih := freeL_set (v := v) (ss := ss) (ts := ts) (i := i) (by simpa using hl) (by simpa using h)
    simp only [freeL, List.set_cons_succ, List.headD_cons, List.tail_cons]
    omega
theorem freeL_bd : ∀ {ss : List Int} {ts : List (List Int)}, szOk ss ts → 0 ≤ freeL ss ts ∧ freeL ss ts ≤ 8 * (ss.length : Int)
  | [], _, _ => by simp [freeL]
  | s :: ss, ts, h => by
    have ih := freeL_bd h.2
    have h1 : 0 ≤ s ∧ s ≤ 8 := by simpa [inR] using h.1.1
    have h2 := h.1.2
    simp only [freeL, List.length_cons]
    omega

/-- What is parked can be taken again. -/
structure Parked (d p : Depot) (v : Int) : Prop where
  ok : depOk p = true
  back : takeD p v = some d
  free : freeL d.sizes d.tracks = freeL p.sizes p.tracks + 1
  blk : plc p.tracks v ≠ none ∧ blkL p v = []
theorem park_law {d p : Depot} {v t : Int} (hd : depOk d = true) (h : parkD d v t = some p) : Parked d p v := by
  obtain ⟨h1, h2, h3, h4, h5⟩ := depOk_iff.1 hd
  unfold parkD at h
  split at h
  · rename_i hc
    obtain ⟨c1, c2, c3, c4, c5⟩ := hc
    injection h with h
    subst h
    have hlt : t.toNat < d.tracks.length := by omega
    have hat := trk_at hlt
    have hn := plcF_none.1 c5
    have hv : v ∉ d.tracks.flatten := fun h => by
      obtain ⟨tr, h6, h7⟩ := List.mem_flatten.1 h
      exact hn tr h6 h7
    have hperm := flat_set_perm (v := v) hat
    have hpl : plc (d.tracks.set t.toNat (trk d.tracks t.toNat ++ [v])) v = some (t.toNat, (trk d.tracks t.toNat).length) := by
      unfold plc
      rw [plcF_set hn hat, Nat.zero_add]
    have htr : trk (d.tracks.set t.toNat (trk d.tracks t.toNat ++ [v])) t.toNat = trk d.tracks t.toNat ++ [v] := by
      unfold trk
      simp [List.getD_eq_getElem?_getD, hlt]
    refine ⟨depOk_iff.2 ⟨h1, by simpa using h2, szOk_set h3 fun s hs => ?_, fun u hu => ?_, hperm.nodup_iff.2 (List.nodup_cons.2 ⟨hv, h5⟩)⟩, ?_, freeL_set h2 hat, by rw [hpl]; simp, ?_⟩
    · have e : d.sizes.getD t.toNat 0 = s := by rw [List.getD_eq_getElem?_getD, hs]; rfl
      rw [e] at c3
      simp only [List.length_append, List.length_cons, List.length_nil]
      omega
    · rcases List.mem_cons.1 (hperm.mem_iff.1 hu) with rfl | hu
      · exact c4
      · exact h4 u hu
    · unfold takeD
      simp only [hpl]
      rw [htr, if_pos (by simp), List.take_left' rfl, List.set_set]
      congr 2
      refine List.ext_getElem? fun j => ?_
      rw [List.getElem?_set]
      split
      · rename_i e
        subst e
        exact hat.symm
      · rfl
    · unfold blkL
      simp only [hpl]
      rw [htr, List.drop_eq_nil_of_le (by simp)]
      rfl
  · cases h
theorem take_law (d : Depot) (v : Int) : (takeD d v).isSome = ((plc d.tracks v).isSome && decide ((blkL d v).length = 0)) := by
  unfold takeD blkL
  cases h : plc d.tracks v with
  | none => rfl
  | some x =>
    obtain ⟨i, k⟩ := x
    obtain ⟨_, h2, _, h4⟩ := plcF_some h
    rw [Nat.sub_zero] at h2 h4
    simp only [Option.isSome_some, Bool.true_and, List.length_reverse, List.length_drop]
    by_cases e : k + 1 = (trk d.tracks i).length
    · rw [if_pos e]; simp; omega
    · rw [if_neg e]; simp; omega
end Go.Proofs.Ytkjigbbbobijnaa

