/- The draw of a network, as functions. -/
import Derived.Test.YteoiohkdhdpkoaaH2
namespace Go.Proofs.Yteoiohkdhdpkoaa
open Go Go.Am

def lnm (j : Nat) : ByteArray := ofL [108] ++ ofL (dig1 j)
def xnm (j : Nat) : ByteArray := ofL [120] ++ ofL (dig1 j)
def r1nm : ByteArray := ofL [114, 49]
/-- A network's lines while they are drawn. -/
structure Ns where
  ls : List Line
  c : Cu
noncomputable def nsStep (xs : List Int) (nm : Nat → ByteArray) (o : Nat) (i : Nat) (a : Ns) : Ns := ⟨a.ls ++ [(lnF xs (nm i) o a.c).1], (lnF xs (nm i) o a.c).2⟩
noncomputable def nsAt (xs : List Int) (nm : Nat → ByteArray) (o : Nat) (a : Ns) : Nat → Ns
  | 0 => a
  | i + 1 => nsStep xs nm o i (nsAt xs nm o a i)
def lnSm (l : Line) : Prop := l.name.size ≤ 100 ∧ (1 ≤ l.stops.length ∧ l.stops.length ≤ 6) ∧ (1 ≤ l.runs.length ∧ l.runs.length ≤ 7)
def nsGo (m i : Nat) (k : Nat) (a : Ns) : Prop := a.ls.length = m + i ∧ (∀ l ∈ a.ls, lnSm l) ∧ a.c.k ≤ k + 40 * i
theorem lnF_sm {xs : List Int} (hx : areB xs) {o : Nat} (ho : 1 ≤ o ∧ o ≤ 1000) {c : Cu} (hk : c.k ≤ 9000) {nm : ByteArray} (hn : nm.size ≤ 100) : lnSm (lnF xs nm o c).1 := by
  obtain ⟨⟨h1, h2⟩, h3, _⟩ := lnF_ok hx ho hk nm
  exact ⟨hn, by omega, by omega⟩
theorem nsAt_go {xs : List Int} (hx : areB xs) {nm : Nat → ByteArray} (hn : ∀ i, (nm i).size ≤ 100) {o : Nat} (ho : 1 ≤ o ∧ o ≤ 1000) {m k : Nat} (hk : k ≤ 4000) {a : Ns} (h : nsGo m 0 k a) : ∀ i : Nat, i ≤ 100 → nsGo m i k (nsAt xs nm o a i)
  | 0, _ => h
  | i + 1, hi => by
    obtain ⟨h1, h2, h3⟩ := nsAt_go hx hn ho hk h i (by omega)
    obtain ⟨_, _, l3⟩ := lnF_ok hx ho (c := (nsAt xs nm o a i).c) (by omega) (nm i)
    refine ⟨?_, fun l hl => ?_, ?_⟩
    · show ((nsAt xs nm o a i).ls ++ [_]).length = _
      rw [List.length_append, h1]; rfl
    · have hl : l ∈ (nsAt xs nm o a i).ls ++ [(lnF xs (nm i) o (nsAt xs nm o a i).c).1] := hl
      rcases List.mem_append.1 hl with hl | hl
      · exact h2 l hl
      · rw [List.mem_singleton] at hl
        subst hl
        exact lnF_sm hx ho (by omega) (hn i)
    · show (lnF xs (nm i) o (nsAt xs nm o a i).c).2.k ≤ _
      omega
def OneP (xs : List Int) (c : Cu) (n : Int) (x : Bool × Cu) : Prop := (c.k ≤ x.2.k ∧ x.2.k ≤ c.k + 2) ∧
  CallOk Try.prog 42 [.box 48 (cu xs c), .imm (.int .i64 n)] { res := [.imm (.bool x.1)], muts := [.box 48 ((cu xs x.2).map .imm)], sep := false }
open Classical in
noncomputable def on (xs : List Int) (c : Cu) (n : Int) : Bool × Cu := if h : ∃ x, OneP xs c n x then Classical.choose h else (false, c)
theorem on_ok {xs : List Int} (hx : areB xs) {c : Cu} (hk : c.k ≤ 999000) (n : Int) : OneP xs c n (on xs c n) := by
  have h : ∃ x, OneP xs c n x := by
    obtain ⟨b, k', s', h1, h2⟩ := one_ok xs hx c.k hk c.s n
    exact ⟨(b, ⟨k', s'⟩), h1, h2⟩
  unfold on
  rw [dif_pos h]
  exact Classical.choose_spec h
def six : List ByteArray := [ofL [112, 111, 114, 116], ofL [109, 105, 108, 108], ofL [112, 97, 114, 107], ofL [104, 97, 108, 108], ofL [100, 111, 99, 107], ofL [102, 97, 105, 114]]
noncomputable def nwO (xs : List Int) (c : Cu) : Nat := (2 + (pk xs c 5).1).toNat
noncomputable def nwM (xs : List Int) (c : Cu) : Nat := (1 + (pk xs (pk xs c 5).2 3).1).toNat
noncomputable def nwA (xs : List Int) (c : Cu) : Ns := nsAt xs (fun i => lnm (nwM xs c - i)) (nwO xs c) ⟨[], (pk xs (pk xs c 5).2 3).2⟩ (nwM xs c)
def backL (l : Line) : Line := ⟨r1nm, l.stops.reverse, l.runs.reverse⟩
theorem lnm_sz (j : Nat) : (lnm j).size ≤ 100 := by
  have e : (lnm j).size = 1 + (dig1 j).length := by
    unfold lnm
    rw [ByteArray.size_append]; rfl
  have : (dig1 j).length ≤ 10 := by
    unfold dig1
    rw [List.length_take, List.length_drop]
    have : dgs.length = 10 := rfl
    omega
  omega
theorem nwA_ok {xs : List Int} (hx : areB xs) {c : Cu} (hk : c.k ≤ 1000) : PickP xs c 5 (pk xs c 5) ∧ PickP xs (pk xs c 5).2 3 (pk xs (pk xs c 5).2 3) ∧ (2 ≤ nwO xs c ∧ nwO xs c ≤ 6) ∧ (1 ≤ nwM xs c ∧ nwM xs c ≤ 3) ∧
    nsGo 0 0 (c.k + 4) ⟨[], (pk xs (pk xs c 5).2 3).2⟩ ∧ nsGo 0 (nwM xs c) (c.k + 4) (nwA xs c) := by
  have hP := pk_ok hx (c := c) (by omega) 5
  have h1 := hP.1
  have h1' := h1.2 (by omega)
  have h2 := hP.2.1
  have hQ := pk_ok hx (c := (pk xs c 5).2) (by omega) 3
  have h3 := hQ.1
  have h3' := h3.2 (by omega)
  have h4 := hQ.2.1
  have ho : 2 ≤ nwO xs c ∧ nwO xs c ≤ 6 := by unfold nwO; omega
  have hm : 1 ≤ nwM xs c ∧ nwM xs c ≤ 3 := by unfold nwM; omega
  have h0 : nsGo 0 0 (c.k + 4) ⟨[], (pk xs (pk xs c 5).2 3).2⟩ := ⟨rfl, (fun l hl => by cases hl), by show (pk xs (pk xs c 5).2 3).2.k ≤ _; omega⟩
  exact ⟨hP, hQ, ho, hm, h0, nsAt_go hx (fun i => lnm_sz _) (by omega) (by omega) h0 _ (by omega)⟩
end Go.Proofs.Yteoiohkdhdpkoaa

