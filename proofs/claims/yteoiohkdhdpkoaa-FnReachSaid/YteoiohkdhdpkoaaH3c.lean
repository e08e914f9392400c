/- The draw of any network, as functions. -/
import Derived.Test.YteoiohkdhdpkoaaH3b
namespace Go.Proofs.Yteoiohkdhdpkoaa
open Go Go.Am

def OfP (xs : List Int) (c : Cu) (l : List ByteArray) (x : ByteArray × Cu) : Prop := x.1 ∈ l ∧ (c.k ≤ x.2.k ∧ x.2.k ≤ c.k + 2) ∧
  CallOk Try.prog 31 [.box 48 (cu xs c), .imm (.list (l.map strRow))] { res := [.imm (.str x.1)], muts := [.box 48 ((cu xs x.2).map .imm)], sep := false }
open Classical in
noncomputable def ofF (xs : List Int) (c : Cu) (l : List ByteArray) : ByteArray × Cu := if h : ∃ x, OfP xs c l x then Classical.choose h else (ByteArray.empty, c)
theorem ofF_ok {xs : List Int} (hx : areB xs) {c : Cu} (hk : c.k ≤ 999000) {l : List ByteArray} (hl : 1 ≤ l.length) (hl2 : l.length ≤ 1000) : OfP xs c l (ofF xs c l) := by
  have h : ∃ x, OfP xs c l x := by
    obtain ⟨v, k', s', h1, h2, h3⟩ := of_ok xs hx c.k hk c.s l hl hl2
    exact ⟨(v, ⟨k', s'⟩), h1, h2, h3⟩
  unfold ofF
  rw [dif_pos h]
  exact Classical.choose_spec h
def lnZ : Line := ⟨ByteArray.empty, [], []⟩
noncomputable def nwB (xs : List Int) (c : Cu) : Bool × Cu := on xs (nwA xs c).c 2
noncomputable def nwL (xs : List Int) (c : Cu) : List Line := if (nwB xs c).1 then (nwA xs c).ls ++ [backL ((nwA xs c).ls.getD 0 lnZ)] else (nwA xs c).ls
noncomputable def nwN (xs : List Int) (c : Cu) : Network := ⟨six.take (nwO xs c), nwL xs c⟩
theorem nwL_ok {xs : List Int} (hx : areB xs) {c : Cu} (hk : c.k ≤ 1000) : (1 ≤ (nwL xs c).length ∧ (nwL xs c).length ≤ 4) ∧ (∀ l ∈ nwL xs c, lnSm l) ∧ (nwB xs c).2.k ≤ c.k + 130 ∧ OneP xs (nwA xs c).c 2 (nwB xs c) := by
  obtain ⟨_, _, _, hm, _, g1, g2, g3⟩ := nwA_ok hx hk
  have hO := on_ok hx (c := (nwA xs c).c) (by omega) 2
  have h0 : (nwA xs c).ls.getD 0 lnZ ∈ (nwA xs c).ls := by
    rw [List.getD_eq_getElem?_getD, List.getElem?_eq_getElem (by omega)]
    exact List.getElem_mem _
  have hs := g2 _ h0
  refine ⟨?_, fun l hl => ?_, by have := hO.1; show (on xs (nwA xs c).c 2).2.k ≤ _; omega, hO⟩
  · unfold nwL
    split
    · rw [List.length_append, List.length_singleton]; omega
    · omega
  · unfold nwL at hl
    split at hl
    · rcases List.mem_append.1 hl with hl | hl
      · exact g2 l hl
      · rw [List.mem_singleton] at hl
        subst hl
        obtain ⟨_, h2, h3⟩ := hs
        exact ⟨by show r1nm.size ≤ 100; decide, by simpa [backL] using h2, by simpa [backL] using h3⟩
    · exact g2 l hl

/-- Lines that are drawn behind: as many as fuel allows. -/
noncomputable def moG (xs : List Int) (o : Nat) : Nat → Nat → Ns → Ns
  | 0, _, a => ⟨a.ls, (pk xs a.c 2).2⟩
  | f + 1, k, a => if (a.ls.length : Int) < IntKind.i64.wrap (5 + (pk xs a.c 2).1) then moG xs o f (k + 1) ⟨a.ls ++ [(lnF xs (xnm k) o (pk xs a.c 2).2).1], (lnF xs (xnm k) o (pk xs a.c 2).2).2⟩ else ⟨a.ls, (pk xs a.c 2).2⟩
theorem xnm_sz (j : Nat) : (xnm j).size ≤ 100 := lnm_sz j
def moOk (K k : Nat) (a : Ns) : Prop := a.ls.length ≤ 4 + k ∧ (∀ l ∈ a.ls, lnSm l) ∧ a.c.k ≤ K + 42 * k
theorem moOk_step {xs : List Int} (hx : areB xs) {o : Nat} (ho : 1 ≤ o ∧ o ≤ 1000) {K k : Nat} (hK : K ≤ 4000) (hk : k ≤ 50) {a : Ns} (h : moOk K k a) : moOk K (k + 1) ⟨a.ls ++ [(lnF xs (xnm k) o (pk xs a.c 2).2).1], (lnF xs (xnm k) o (pk xs a.c 2).2).2⟩ := by
  obtain ⟨h1, h2, h3⟩ := h
  obtain ⟨_, p2, _⟩ := pk_ok hx (c := a.c) (by omega) 2
  obtain ⟨_, _, l3⟩ := lnF_ok hx ho (c := (pk xs a.c 2).2) (by omega) (xnm k)
  refine ⟨?_, fun l hl => ?_, ?_⟩
  · show (a.ls ++ [_]).length ≤ _
    rw [List.length_append, List.length_singleton]; omega
  · rcases List.mem_append.1 hl with hl | hl
    · exact h2 l hl
    · rw [List.mem_singleton] at hl
      subst hl
      exact lnF_sm hx ho (by omega) (xnm_sz k)
  · show (lnF xs (xnm k) o (pk xs a.c 2).2).2.k ≤ _
    omega
theorem moG_ok {xs : List Int} (hx : areB xs) {o : Nat} (ho : 1 ≤ o ∧ o ≤ 1000) {K : Nat} (hK : K ≤ 4000) : ∀ (f k : Nat) {a : Ns}, f + k ≤ 50 → moOk K k a → moOk (K + 100) (k + f) (moG xs o f k a)
  | 0, k, a, hf, h => by
    obtain ⟨h1, h2, h3⟩ := h
    obtain ⟨_, p2, _⟩ := pk_ok hx (c := a.c) (by omega) 2
    exact ⟨h1, h2, by show (pk xs a.c 2).2.k ≤ _; omega⟩
  | f + 1, k, a, hf, h => by
    unfold moG
    split
    · have := moG_ok hx ho hK f (k + 1) (by omega) (moOk_step hx ho hK (by omega) h)
      rw [show k + (f + 1) = k + 1 + f from by omega]
      exact this
    · obtain ⟨h1, h2, h3⟩ := h
      obtain ⟨_, p2, _⟩ := pk_ok hx (c := a.c) (by omega) 2
      exact ⟨by show a.ls.length ≤ _; omega, h2, by show (pk xs a.c 2).2.k ≤ _; omega⟩
def st0 : List ByteArray := [ofL [109, 105, 108, 108], ByteArray.empty, ofL [65], ofL [97, 98, 99, 100, 101, 102, 103, 104], ofL [97, 98, 99, 100, 101, 102, 103, 104, 105]]
def st1 : List ByteArray := [r1nm, ofL [108, 49], ByteArray.empty, ofL [88]]
def rn3 : List Int := [0, 60, 61, -1]
/-- What is spoilt. -/
noncomputable def anG (xs : List Int) (ss : List ByteArray) (L : List Line) (i : Nat) (l : Line) (v : Int) (c : Cu) : Network × Cu :=
  if v = 0 then (⟨ss.set 0 (ofF xs c st0).1, L⟩, (ofF xs c st0).2)
  else if v = 1 then (⟨ss, L.set i ⟨(ofF xs c st1).1, l.stops, l.runs⟩⟩, (ofF xs c st1).2)
  else if v = 2 then (⟨ss, L.set i ⟨l.name, l.stops.set (pk xs c l.stops.length).1.toNat (IntKind.i64.wrap ((pk xs (pk xs c l.stops.length).2 10).1 - 1)), l.runs⟩⟩, (pk xs (pk xs c l.stops.length).2 10).2)
  else if v = 3 then (⟨ss, L.set i ⟨l.name, l.stops, l.runs.set (pk xs c l.runs.length).1.toNat (am xs (pk xs c l.runs.length).2 rn3).1⟩⟩, (am xs (pk xs c l.runs.length).2 rn3).2)
  else if v = 4 then (⟨ss, L.set i ⟨l.name, l.stops, l.runs ++ [3]⟩⟩, c)
  else if v = 5 then (⟨ss, []⟩, c)
  else if v = 6 then (⟨ss, (moG xs ss.length 7 0 ⟨L, c⟩).ls⟩, (moG xs ss.length 7 0 ⟨L, c⟩).c)
  else (⟨ss, L⟩, c)
noncomputable def anP (xs : List Int) (c : Cu) : Int × Cu := pk xs (nwB xs c).2 (nwL xs c).length
noncomputable def anF (xs : List Int) (c : Cu) : Network × Cu := anG xs (six.take (nwO xs c)) (nwL xs c) (anP xs c).1.toNat ((nwL xs c).getD (anP xs c).1.toNat lnZ) (pk xs (anP xs c).2 24).1 (pk xs (anP xs c).2 24).2
theorem lnSm.fit {l : Line} (h : lnSm l) : l.fit := ⟨by have := h.1; omega, by have := h.2.1.2; omega, by have := h.2.2.2; omega⟩
theorem six_fit : ∀ x ∈ six, x.size ≤ 1048576 := by
  intro x hx
  simp only [six, List.mem_cons, List.not_mem_nil, or_false] at hx
  rcases hx with rfl | rfl | rfl | rfl | rfl | rfl <;> decide
theorem st0_fit : ∀ x ∈ st0, x.size ≤ 1048576 := by
  intro x hx
  simp only [st0, List.mem_cons, List.not_mem_nil, or_false] at hx
  rcases hx with rfl | rfl | rfl | rfl | rfl <;> decide
theorem st1_fit : ∀ x ∈ st1, x.size ≤ 1048576 := by
  intro x hx
  simp only [st1, List.mem_cons, List.not_mem_nil, or_false] at hx
  rcases hx with rfl | rfl | rfl | rfl <;> decide
theorem fit_set {ss : List ByteArray} {L : List Line} (h1 : ss.length ≤ 6) (h2 : ∀ x ∈ ss, x.size ≤ 1048576) (h3 : L.length ≤ 100) (h4 : ∀ l ∈ L, lnSm l) {i : Nat} {l : Line} (hl : l.fit) : (⟨ss, L.set i l⟩ : Network).fit := by
  refine ⟨by show ss.length ≤ _; omega, h2, by show (L.set i l).length ≤ _; rw [List.length_set]; omega, fun x hx => ?_⟩
  rcases List.mem_or_eq_of_mem_set hx with hx | rfl
  · exact (h4 x hx).fit
  · exact hl
theorem anG_ok {xs : List Int} (hx : areB xs) {ss : List ByteArray} {L : List Line} {i : Nat} {l : Line} (v : Int) {c : Cu} (hc : c.k ≤ 1000) (hs : 1 ≤ ss.length ∧ ss.length ≤ 6) (hs2 : ∀ x ∈ ss, x.size ≤ 1048576) (hL : L.length ≤ 4) (hL2 : ∀ l ∈ L, lnSm l) (hl : lnSm l) :
    (anG xs ss L i l v c).1.fit ∧ (anG xs ss L i l v c).2.k ≤ c.k + 500 := by
  have hl3 := hl
  obtain ⟨l1, ⟨l2, l2'⟩, l3, l3'⟩ := hl3
  have f0 : (⟨ss, L⟩ : Network).fit := ⟨by show ss.length ≤ _; omega, hs2, by show L.length ≤ _; omega, fun x hx => (hL2 x hx).fit⟩
  unfold anG
  split
  · obtain ⟨q1, q2, _⟩ := ofF_ok hx (c := c) (by omega) (l := st0) (by decide) (by decide)
    refine ⟨⟨by show (ss.set 0 _).length ≤ _; rw [List.length_set]; omega, fun x hx => ?_, f0.2.2.1, f0.2.2.2⟩, by show (ofF xs c st0).2.k ≤ _; omega⟩
    rcases List.mem_or_eq_of_mem_set hx with hx | rfl
    · exact hs2 x hx
    · exact st0_fit _ q1
  split
  · obtain ⟨q1, q2, _⟩ := ofF_ok hx (c := c) (by omega) (l := st1) (by decide) (by decide)
    exact ⟨fit_set hs.2 hs2 (by omega) hL2 ⟨st1_fit _ q1, by show l.stops.length ≤ _; omega, by show l.runs.length ≤ _; omega⟩, by show (ofF xs c st1).2.k ≤ _; omega⟩
  split
  · obtain ⟨_, p2, _⟩ := pk_ok hx (c := c) (by omega) (l.stops.length : Int)
    obtain ⟨_, q2, _⟩ := pk_ok hx (c := (pk xs c (l.stops.length : Int)).2) (by omega) 10
    exact ⟨fit_set hs.2 hs2 (by omega) hL2 ⟨by show l.name.size ≤ _; omega, by show (l.stops.set _ _).length ≤ _; rw [List.length_set]; omega, by show l.runs.length ≤ _; omega⟩, by show (pk xs (pk xs c (l.stops.length : Int)).2 10).2.k ≤ _; omega⟩
  split
  · obtain ⟨_, p2, _⟩ := pk_ok hx (c := c) (by omega) (l.runs.length : Int)
    obtain ⟨_, q2, _⟩ := am_ok hx (c := (pk xs c (l.runs.length : Int)).2) (by omega) (l := rn3) (by decide) (by decide)
    exact ⟨fit_set hs.2 hs2 (by omega) hL2 ⟨by show l.name.size ≤ _; omega, by show l.stops.length ≤ _; omega, by show (l.runs.set _ _).length ≤ _; rw [List.length_set]; omega⟩, by show (am xs (pk xs c (l.runs.length : Int)).2 rn3).2.k ≤ _; omega⟩
  split
  · exact ⟨fit_set hs.2 hs2 (by omega) hL2 ⟨by show l.name.size ≤ _; omega, by show l.stops.length ≤ _; omega, by show (l.runs ++ [3]).length ≤ _; rw [List.length_append, List.length_singleton]; omega⟩, by show c.k ≤ _; omega⟩
  split
  · exact ⟨⟨f0.1, hs2, Nat.zero_le _, fun x hx => by cases hx⟩, by show c.k ≤ _; omega⟩
  split
  · obtain ⟨m1, m2, m3⟩ := moG_ok hx (o := ss.length) (by omega) (K := c.k) (by omega) 7 0 (a := ⟨L, c⟩) (by omega) ⟨by show L.length ≤ _; omega, hL2, by show c.k ≤ _; omega⟩
    exact ⟨⟨f0.1, hs2, by show (moG xs ss.length 7 0 ⟨L, c⟩).ls.length ≤ _; omega, fun x hx => (m2 x hx).fit⟩, by show (moG xs ss.length 7 0 ⟨L, c⟩).c.k ≤ _; omega⟩
  · exact ⟨f0, by show c.k ≤ _; omega⟩
theorem anF_ok {xs : List Int} (hx : areB xs) {c : Cu} (hk : c.k ≤ 100) : (anF xs c).1.fit ∧ (anF xs c).2.k ≤ 2000 := by
  obtain ⟨_, _, ho, _⟩ := nwA_ok hx (c := c) (by omega)
  obtain ⟨n1, n2, n3, _⟩ := nwL_ok hx (c := c) (by omega)
  obtain ⟨p1, p2, _⟩ := pk_ok hx (c := (nwB xs c).2) (by omega) ((nwL xs c).length : Int)
  obtain ⟨_, q2, _⟩ := pk_ok hx (c := (anP xs c).2) (by show (pk xs (nwB xs c).2 (nwL xs c).length).2.k ≤ _; omega) 24
  have p3 := p1.2 (by omega)
  have e : (anP xs c).2 = (pk xs (nwB xs c).2 (nwL xs c).length).2 := rfl
  rw [← e] at p2
  have hsl : (six.take (nwO xs c)).length = nwO xs c := by rw [List.length_take]; show min _ 6 = _; omega
  have hi : (anP xs c).1.toNat < (nwL xs c).length := by show (pk xs (nwB xs c).2 (nwL xs c).length).1.toNat < _; omega
  have hl : (nwL xs c).getD (anP xs c).1.toNat lnZ ∈ nwL xs c := by
    rw [List.getD_eq_getElem?_getD, List.getElem?_eq_getElem hi]
    exact List.getElem_mem _
  obtain ⟨r1, r2⟩ := anG_ok hx (ss := six.take (nwO xs c)) (L := nwL xs c) (i := (anP xs c).1.toNat) (l := (nwL xs c).getD (anP xs c).1.toNat lnZ) (pk xs (anP xs c).2 24).1 (c := (pk xs (anP xs c).2 24).2) (by omega) (by omega) (fun x hx => six_fit x (List.mem_of_mem_take hx)) n1.2 n2 (n2 _ hl)
  exact ⟨r1, by show (anG ..).2.k ≤ _; omega⟩
end Go.Proofs.Yteoiohkdhdpkoaa

