/- The draw of a line. -/
import Derived.Test.YteoiohkdhdpkoaaG8
import Derived.Test.YteoiohkdhdpkoaaAmHD
namespace Go.Proofs.Yteoiohkdhdpkoaa
open Go Go.Am
set_option maxRecDepth 100000
set_option maxHeartbeats 16000000
attribute [local irreducible] amOps amC opCall opIndexAddr opPick retQ opMake opStore amDraw opAppend opLoad opNilCmp opIndex opSlice xQ

/-- A line's stops while they are drawn. -/
structure Ls where
  l : List Int
  v : Int
  c : Cu
noncomputable def lsStep (xs : List Int) (o : Nat) (a : Ls) : Ls :=
  ⟨if idxF (pInt a.v) a.l < 0 then a.l ++ [a.v] else a.l, (IntKind.i64.wrap (IntKind.i64.wrap (a.v + 1) + (pk xs a.c 2).1)).tmod (o : Int), (pk xs a.c 2).2⟩
noncomputable def lsAt (xs : List Int) (o : Nat) (a : Ls) : Nat → Ls
  | 0 => a
  | i + 1 => lsStep xs o (lsAt xs o a i)
def lsGo (o i : Nat) (k : Nat) (a : Ls) : Prop := (a.l.length ≤ i ∧ (1 ≤ i → 1 ≤ a.l.length) ∧ ∀ y ∈ a.l, 0 ≤ y ∧ y < o) ∧ (0 ≤ a.v ∧ a.v < o) ∧ a.c.k ≤ k + 2 * i
theorem lsStep_go {xs : List Int} (hx : areB xs) {o i k : Nat} (ho : 1 ≤ o ∧ o ≤ 1000) (hk : k ≤ 10000) (hi : i ≤ 100) {a : Ls} (h : lsGo o i k a) : lsGo o (i + 1) k (lsStep xs o a) := by
  obtain ⟨⟨h1, h2, h3⟩, h4, h5⟩ := h
  obtain ⟨p1, p2, _⟩ := pk_ok hx (c := a.c) (by omega) 2
  have p3 := p1.2 (by omega)
  refine ⟨⟨?_, fun _ => ?_, fun y hy => ?_⟩, ?_, ?_⟩
  · simp only [lsStep]; split
    · rw [List.length_append, List.length_singleton]; omega
    · omega
  · simp only [lsStep]; split
    · simp
    · rename_i hc
      obtain ⟨j, _, hj⟩ := idx_at (xs := a.l) (y := a.v) (by omega)
      have := (List.getElem?_eq_some_iff.1 hj).1
      omega
  · simp only [lsStep] at hy
    split at hy
    · rcases List.mem_append.1 hy with hy | hy
      · exact h3 y hy
      · rw [List.mem_singleton] at hy; subst hy; exact h4
    · exact h3 y hy
  · simp only [lsStep]
    rw [wrap_small (n := a.v + 1) (by omega) (by omega), wrap_small (by omega) (by omega)]
    exact tmod_in (by omega) (by omega)
  · simp only [lsStep]; omega
theorem lsAt_go {xs : List Int} (hx : areB xs) {o k : Nat} (ho : 1 ≤ o ∧ o ≤ 1000) (hk : k ≤ 10000) {a : Ls} (h : lsGo o 0 k a) : ∀ i : Nat, i ≤ 100 → lsGo o i k (lsAt xs o a i)
  | 0, _ => h
  | i + 1, hi => lsStep_go hx ho hk (by omega) (lsAt_go hx ho hk h i (by omega))
/-- Its times. -/
structure Lr where
  r : List Int
  c : Cu
noncomputable def lrStep (xs : List Int) (a : Lr) : Lr := ⟨a.r ++ [IntKind.i64.wrap (3 + (pk xs a.c 12).1)], (pk xs a.c 12).2⟩
noncomputable def lrAt (xs : List Int) (a : Lr) : Nat → Lr
  | 0 => a
  | i + 1 => lrStep xs (lrAt xs a i)
theorem lrAt_go {xs : List Int} (hx : areB xs) {c : Cu} (hk : c.k ≤ 20000) : ∀ i : Nat, i ≤ 100 → (lrAt xs ⟨[], c⟩ i).r.length = i ∧ (lrAt xs ⟨[], c⟩ i).c.k ≤ c.k + 2 * i
  | 0, _ => ⟨rfl, Nat.le_refl _⟩
  | i + 1, hi => by
    obtain ⟨h1, h2⟩ := lrAt_go hx hk i (by omega)
    obtain ⟨_, p2, _⟩ := pk_ok hx (c := (lrAt xs ⟨[], c⟩ i).c) (by omega) 12
    refine ⟨?_, ?_⟩
    · show ((lrAt xs ⟨[], c⟩ i).r ++ [_]).length = _
      rw [List.length_append, h1]; rfl
    · show (pk xs (lrAt xs ⟨[], c⟩ i).c 12).2.k ≤ _
      omega
noncomputable def lnA (xs : List Int) (o : Nat) (c : Cu) : Ls := lsAt xs o ⟨[], (pk xs c o).1, (pk xs (pk xs c o).2 3).2⟩ (2 + (pk xs (pk xs c o).2 3).1).toNat
noncomputable def lnL (xs : List Int) (o : Nat) (c : Cu) : List Int := if (lnA xs o c).l.length < 2 then (lnA xs o c).l ++ [(IntKind.i64.wrap ((lnA xs o c).l.getD 0 0 + 1)).tmod (o : Int)] else (lnA xs o c).l
noncomputable def lnF (xs : List Int) (nm : ByteArray) (o : Nat) (c : Cu) : Line × Cu :=
  (⟨nm, lnL xs o c, (lrAt xs ⟨[], (lnA xs o c).c⟩ ((lnL xs o c).length - 1)).r⟩, (lrAt xs ⟨[], (lnA xs o c).c⟩ ((lnL xs o c).length - 1)).c)
theorem lnA_go {xs : List Int} (hx : areB xs) {o : Nat} (ho : 1 ≤ o ∧ o ≤ 1000) {c : Cu} (hk : c.k ≤ 9000) : PickP xs c o (pk xs c o) ∧ PickP xs (pk xs c o).2 3 (pk xs (pk xs c o).2 3) ∧ lsGo o 0 (c.k + 4) ⟨[], (pk xs c o).1, (pk xs (pk xs c o).2 3).2⟩ ∧
    (2 ≤ (2 + (pk xs (pk xs c o).2 3).1).toNat ∧ (2 + (pk xs (pk xs c o).2 3).1).toNat ≤ 4) := by
  have hP := pk_ok hx (c := c) (by omega) (o : Int)
  have h1 := hP.1
  have h1' := h1.2 (by omega)
  have h2 := hP.2.1
  have hQ := pk_ok hx (c := (pk xs c o).2) (by omega) 3
  have h3 := hQ.1
  have h3' := h3.2 (by omega)
  have h4 := hQ.2.1
  exact ⟨hP, hQ, ⟨⟨Nat.le_refl _, (fun h => by omega), (fun y hy => by cases hy)⟩, ⟨h1.1, h1'⟩, by show (pk xs (pk xs c o).2 3).2.k ≤ _; omega⟩, by omega, by omega⟩
theorem lnF_ok {xs : List Int} (hx : areB xs) {o : Nat} (ho : 1 ≤ o ∧ o ≤ 1000) {c : Cu} (hk : c.k ≤ 9000) (nm : ByteArray) : (2 ≤ (lnF xs nm o c).1.stops.length ∧ (lnF xs nm o c).1.stops.length ≤ 5) ∧ (lnF xs nm o c).1.runs.length + 1 = (lnF xs nm o c).1.stops.length ∧ (lnF xs nm o c).2.k ≤ c.k + 40 := by
  obtain ⟨_, _, g0, g1⟩ := lnA_go hx ho hk
  obtain ⟨⟨a1, a2, _⟩, _, a4⟩ := lsAt_go hx ho (by omega) g0 (2 + (pk xs (pk xs c o).2 3).1).toNat (by omega)
  have a2 := a2 (by omega)
  have e : lsAt xs o ⟨[], (pk xs c o).1, (pk xs (pk xs c o).2 3).2⟩ (2 + (pk xs (pk xs c o).2 3).1).toNat = lnA xs o c := rfl
  rw [e] at a1 a2 a4
  have hL : 2 ≤ (lnL xs o c).length ∧ (lnL xs o c).length ≤ 5 := by
    unfold lnL
    split
    · rw [List.length_append, List.length_singleton]; omega
    · omega
  obtain ⟨r1, r2⟩ := lrAt_go hx (c := (lnA xs o c).c) (by omega) ((lnL xs o c).length - 1) (by omega)
  refine ⟨hL, ?_, ?_⟩
  · show (lrAt xs ⟨[], (lnA xs o c).c⟩ ((lnL xs o c).length - 1)).r.length + 1 = (lnL xs o c).length
    omega
  · show (lrAt xs ⟨[], (lnA xs o c).c⟩ ((lnL xs o c).length - 1)).c.k ≤ _
    omega
def lnOut (xs : List Int) (x : Line × Cu) : Out := { res := [.imm (.str x.1.name), .imm (.list (x.1.stops.map intRow)), .imm (.list (x.1.runs.map intRow))], muts := [.box 48 ((cu xs x.2).map .imm)], sep := false, agg := true }
end Go.Proofs.Yteoiohkdhdpkoaa

