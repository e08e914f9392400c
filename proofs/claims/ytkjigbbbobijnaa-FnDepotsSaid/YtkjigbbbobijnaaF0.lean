/- The draw of depots: what is drawn, as functions. -/
import Derived.Test.YtkjigbbbobijnaaE0
import Derived.Test.YtkjigbbbobijnaaCU
namespace Go.Proofs.Ytkjigbbbobijnaa
open Go Go.Am

def kS : List Int := [1, 2, 3, 3, 4, 0]
def kN : List Int := [9, 2]
def kV : List Int := [1, 0, 100, 50]
theorem in_kS {x : Int} (h : x ∈ kS) : 0 ≤ x ∧ x ≤ 4 := by
  simp only [kS, List.mem_cons, List.not_mem_nil, or_false] at h
  omega
/-- A track while it is drawn. -/
structure Di where
  l : List Int
  v : Int
  c : Cu
noncomputable def iStep (xs : List Int) (a : Di) : Di := ⟨a.l ++ [a.v], IntKind.i64.wrap (IntKind.i64.wrap (a.v + 1) + (pk xs a.c 2).1), (pk xs a.c 2).2⟩
noncomputable def iAt (xs : List Int) (a : Di) : Nat → Di
  | 0 => a
  | i + 1 => iStep xs (iAt xs a i)
def iGo (v : Int) (k : Nat) (i : Nat) (a : Di) : Prop := a.l.length = i ∧ (v ≤ a.v ∧ a.v ≤ v + 2 * (i : Int)) ∧ a.c.k ≤ k + 2 * i
theorem iStep_go {xs : List Int} (hx : areB xs) {v : Int} {k i : Nat} (hv : 0 ≤ v ∧ v ≤ 1000) (hk : k ≤ 10000) (hi : i ≤ 100) {a : Di} (h : iGo v k i a) : iGo v k (i + 1) (iStep xs a) := by
  obtain ⟨h1, h2, h3⟩ := h
  obtain ⟨p1, p2, _⟩ := pk_ok hx (c := a.c) (by omega) 2
  have p3 := p1.2 (by omega)
  refine ⟨by simp [iStep, h1], ?_, by simp only [iStep]; omega⟩
  simp only [iStep]
  rw [wrap_small (n := a.v + 1) (by omega) (by omega), wrap_small (by omega) (by omega)]
  omega
theorem iAt_go {xs : List Int} (hx : areB xs) {v : Int} {k : Nat} (hv : 0 ≤ v ∧ v ≤ 1000) (hk : k ≤ 10000) {a : Di} (h : iGo v k 0 a) : ∀ i : Nat, i ≤ 100 → iGo v k i (iAt xs a i)
  | 0, _ => h
  | i + 1, hi => iStep_go hx hv hk (by omega) (iAt_go hx hv hk h i (by omega))

/-- A depot while it is drawn. -/
structure Ds where
  sz : List Int
  tr : List (List Int)
  v : Int
  c : Cu
noncomputable def dSz (xs : List Int) (a : Ds) : Int × Cu := am xs a.c kS
noncomputable def dK (xs : List Int) (a : Ds) : Int × Cu := pk xs (dSz xs a).2 (IntKind.i64.wrap ((dSz xs a).1 + 1))
noncomputable def dI0 (xs : List Int) (a : Ds) : Di := ⟨[], a.v, (dK xs a).2⟩
noncomputable def dI (xs : List Int) (a : Ds) : Di := iAt xs (dI0 xs a) (dK xs a).1.toNat
noncomputable def dStep (xs : List Int) (a : Ds) : Ds := ⟨a.sz ++ [(dSz xs a).1], a.tr ++ [(dI xs a).l], (dI xs a).v, (dI xs a).c⟩
noncomputable def dAt (xs : List Int) (a : Ds) : Nat → Ds
  | 0 => a
  | i + 1 => dStep xs (dAt xs a i)
def dGo (i : Nat) (a : Ds) : Prop := (a.sz.length = i ∧ a.tr.length = i ∧ ∀ t ∈ a.tr, t.length ≤ 4) ∧ (0 ≤ a.v ∧ a.v ≤ 1 + 8 * (i : Int)) ∧ a.c.k ≤ 100 + 12 * i
/-- What one round draws. -/
theorem dOne {xs : List Int} (hx : areB xs) {i : Nat} (hi : i ≤ 10) {a : Ds} (h : dGo i a) :
    AmongP xs a.c kS (dSz xs a) ∧ (0 ≤ (dSz xs a).1 ∧ (dSz xs a).1 ≤ 4) ∧ PickP xs (dSz xs a).2 (IntKind.i64.wrap ((dSz xs a).1 + 1)) (dK xs a) ∧ (0 ≤ (dK xs a).1 ∧ (dK xs a).1 ≤ 4) ∧ (dK xs a).2.k ≤ a.c.k + 4 := by
  obtain ⟨_, _, h3⟩ := h
  have hA : AmongP xs a.c kS (dSz xs a) := am_ok hx (c := a.c) (by omega) (by decide) (by decide)
  have z := in_kS hA.1
  have h4 := hA.2.1
  have hP : PickP xs (dSz xs a).2 (IntKind.i64.wrap ((dSz xs a).1 + 1)) (dK xs a) := pk_ok hx (c := (dSz xs a).2) (by omega) _
  have hw : IntKind.i64.wrap ((dSz xs a).1 + 1) = (dSz xs a).1 + 1 := wrap_small (by omega) (by omega)
  have h5 := hP.1
  rw [hw] at h5
  have h6 := h5.2 (by omega)
  have h7 := hP.2.1
  exact ⟨hA, z, hP, by omega, by omega⟩
theorem dI_go {xs : List Int} (hx : areB xs) {i : Nat} (hi : i ≤ 10) {a : Ds} (h : dGo i a) (j : Nat) (hj : j ≤ 100) : iGo a.v (a.c.k + 4) j (iAt xs (dI0 xs a) j) := by
  obtain ⟨_, _, _, _, h5⟩ := dOne hx hi h
  obtain ⟨_, h2, h3⟩ := h
  exact iAt_go hx (by omega) (by omega) ⟨rfl, ⟨by simp [dI0], by simp [dI0]⟩, by simpa [dI0] using h5⟩ j hj
theorem dStep_go {xs : List Int} (hx : areB xs) {i : Nat} (hi : i ≤ 10) {a : Ds} (h : dGo i a) : dGo (i + 1) (dStep xs a) := by
  obtain ⟨_, _, _, h4, _⟩ := dOne hx hi h
  obtain ⟨i1, i2, i3⟩ := dI_go hx hi h (dK xs a).1.toNat (by omega)
  obtain ⟨⟨h1, h2, h3⟩, h5, h6⟩ := h
  refine ⟨⟨by simp [dStep, h1], by simp [dStep, h2], fun t ht => ?_⟩, ?_, ?_⟩
  · rcases List.mem_append.1 ht with ht | ht
    · exact h3 t ht
    · rw [List.mem_singleton] at ht
      subst ht
      show (iAt xs (dI0 xs a) (dK xs a).1.toNat).l.length ≤ 4
      omega
  · show 0 ≤ (iAt xs (dI0 xs a) (dK xs a).1.toNat).v ∧ (iAt xs (dI0 xs a) (dK xs a).1.toNat).v ≤ _
    omega
  · show (iAt xs (dI0 xs a) (dK xs a).1.toNat).c.k ≤ _
    omega
theorem dAt_go {xs : List Int} (hx : areB xs) {a : Ds} (h : dGo 0 a) : ∀ i : Nat, i ≤ 10 → dGo i (dAt xs a i)
  | 0, _ => h
  | i + 1, hi => dStep_go hx (by omega) (dAt_go hx h i (by omega))
/-- The depot at the end, and the reader. -/
noncomputable def dFin (xs : List Int) (a : Ds) : Depot × Cu :=
  if (pk xs a.c 40).1 = 0 then (⟨a.sz ++ [(am xs (pk xs a.c 40).2 kN).1], a.tr⟩, (am xs (pk xs a.c 40).2 kN).2)
  else if (pk xs a.c 40).1 = 1 then (⟨a.sz, a.tr.set 0 (trk a.tr 0 ++ [(am xs (pk xs a.c 40).2 kV).1])⟩, (am xs (pk xs a.c 40).2 kV).2)
  else (⟨a.sz, a.tr⟩, (pk xs a.c 40).2)
noncomputable def d0 (xs : List Int) (c : Cu) : Ds := ⟨[], [], 1, (pk xs c 3).2⟩
noncomputable def dN (xs : List Int) (c : Cu) : Nat := (1 + (pk xs c 3).1).toNat
noncomputable def depF (xs : List Int) (c : Cu) : Depot × Cu := dFin xs (dAt xs (d0 xs c) (dN xs c))
theorem dN_ok {xs : List Int} (hx : areB xs) {c : Cu} (hk : c.k ≤ 90) : PickP xs c 3 (pk xs c 3) ∧ (1 ≤ dN xs c ∧ dN xs c ≤ 3) ∧ ((dN xs c : Nat) : Int) = 1 + (pk xs c 3).1 ∧ dGo 0 (d0 xs c) := by
  have hP := pk_ok hx (c := c) (by omega) 3
  have h1 := hP.1
  have h2 := h1.2 (by omega)
  have h3 := hP.2.1
  have e : dN xs c = (1 + (pk xs c 3).1).toNat := rfl
  refine ⟨hP, by omega, by omega, ⟨rfl, rfl, fun t ht => by cases ht⟩, by simp [d0], by simp only [d0]; omega⟩
theorem depF_ok {xs : List Int} (hx : areB xs) {c : Cu} (hk : c.k ≤ 90) : (depF xs c).1.fit ∧ (depF xs c).2.k ≤ 300 := by
  obtain ⟨_, h2, _, h4⟩ := dN_ok hx hk
  obtain ⟨⟨g1, g2, g3⟩, _, g5⟩ := dAt_go hx h4 (dN xs c) (by omega)
  unfold depF
  generalize dAt xs (d0 xs c) (dN xs c) = a at *
  have hP := pk_ok hx (c := a.c) (by omega) 40
  have p := hP.2.1
  have hA := am_ok hx (c := (pk xs a.c 40).2) (l := kN) (by omega) (by decide) (by decide)
  have hB := am_ok hx (c := (pk xs a.c 40).2) (l := kV) (by omega) (by decide) (by decide)
  have q1 := hA.2.1
  have q2 := hB.2.1
  have h0 : (trk a.tr 0).length ≤ 4 := g3 _ (List.mem_of_getElem? (trk_at (by omega)))
  unfold dFin
  split
  · refine ⟨⟨?_, ?_, ?_⟩, ?_⟩
    · simp only [List.length_append, List.length_cons, List.length_nil]; omega
    · simp only; omega
    · intro t ht; have := g3 t ht; omega
    · simp only; omega
  · split
    · refine ⟨⟨?_, ?_, ?_⟩, ?_⟩
      · simp only; omega
      · simp only [List.length_set]; omega
      · intro t ht
        rcases List.mem_or_eq_of_mem_set ht with ht | rfl
        · have := g3 t ht; omega
        · simp only [List.length_append, List.length_cons, List.length_nil]; omega
      · simp only; omega
    · refine ⟨⟨?_, ?_, ?_⟩, ?_⟩
      · simp only; omega
      · simp only; omega
      · intro t ht; have := g3 t ht; omega
      · simp only; omega
end Go.Proofs.Ytkjigbbbobijnaa

