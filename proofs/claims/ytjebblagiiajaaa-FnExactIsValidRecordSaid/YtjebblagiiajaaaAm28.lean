/- The abstract machine, part 28: what an argument's reading gives: plain data of its type. -/
import Derived.Test.YtjebblagiiajaaaAm27
import Derived.ProofKit
import Derived.OpenShut
import Derived.Deep.Slices
import Derived.Below
import Derived.Carry
import Derived.ChangeSame
namespace Go.Am
open Go

/-- The cells of a value of a type. -/
inductive WTs (P : Program) : TypeId → List D → Prop
  | bool (t : TypeId) (b : Bool) : P.underlying t = some .bool → WTs P t [.bool b]
  | int (t : TypeId) (k : IntKind) (n : Int) : P.underlying t = some (.int k) → (Lit.int k n).wf = true → WTs P t [.int k n]
  | str (t : TypeId) (s : ByteArray) : P.underlying t = some .string → s.size ≤ maxLen → WTs P t [.str s]
  | slice (t e : TypeId) (rows : List (List D)) : P.underlying t = some (.slice e) → rows.length ≤ maxLen → (∀ r ∈ rows, WTs P e r) → WTs P t [.list rows]
  | struct (t : TypeId) (fs : Array Field) (ds : List D) : P.underlying t = some (.struct fs) → ds.length = P.cellsOf t → (∀ (i : Nat) (f : Field), fs[i]? = some f → WTs P f.type ((ds.drop f.offset).take (P.cellsOf f.type))) → WTs P t ds
  | array (t : TypeId) (n : Nat) (e : TypeId) (ds : List D) : P.underlying t = some (.array n e) → ds.length = P.cellsOf t → (∀ i, i < n → WTs P e ((ds.drop (i * P.cellsOf e)).take (P.cellsOf e))) → WTs P t ds

theorem wts_int {P : Program} {t : TypeId} {k : IntKind} {ds : List D} (ht : P.underlying t = some (.int k)) (h : WTs P t ds) : ∃ n, ds = [.int k n] ∧ (Lit.int k n).wf = true := by
  cases h with
  | int _ k' n h1 h2 => rw [ht] at h1; cases h1; exact ⟨n, rfl, h2⟩
  | bool _ b h1 => rw [ht] at h1; cases h1
  | str _ s h1 _ => rw [ht] at h1; cases h1
  | slice _ e rows h1 _ _ => rw [ht] at h1; cases h1
  | struct _ fs ds h1 _ _ => rw [ht] at h1; cases h1
  | array _ n e ds h1 _ _ => rw [ht] at h1; cases h1

theorem wts_bool {P : Program} {t : TypeId} {ds : List D} (ht : P.underlying t = some .bool) (h : WTs P t ds) : ∃ b, ds = [.bool b] := by
  cases h with
  | bool _ b h1 => exact ⟨b, rfl⟩
  | int _ k' n h1 h2 => rw [ht] at h1; cases h1
  | str _ s h1 _ => rw [ht] at h1; cases h1
  | slice _ e rows h1 _ _ => rw [ht] at h1; cases h1
  | struct _ fs ds h1 _ _ => rw [ht] at h1; cases h1
  | array _ n e ds h1 _ _ => rw [ht] at h1; cases h1

theorem wts_str {P : Program} {t : TypeId} {ds : List D} (ht : P.underlying t = some .string) (h : WTs P t ds) : ∃ s, ds = [.str s] ∧ s.size ≤ maxLen := by
  cases h with
  | str _ s h1 h2 => exact ⟨s, rfl, h2⟩
  | bool _ b h1 => rw [ht] at h1; cases h1
  | int _ k' n h1 h2 => rw [ht] at h1; cases h1
  | slice _ e rows h1 _ _ => rw [ht] at h1; cases h1
  | struct _ fs ds h1 _ _ => rw [ht] at h1; cases h1
  | array _ n e ds h1 _ _ => rw [ht] at h1; cases h1

theorem wts_slice {P : Program} {t e : TypeId} {ds : List D} (ht : P.underlying t = some (.slice e)) (h : WTs P t ds) : ∃ rows, ds = [.list rows] ∧ rows.length ≤ maxLen ∧ ∀ r ∈ rows, WTs P e r := by
  cases h with
  | slice _ e rows h1 h2 h3 => rw [ht] at h1; cases h1; exact ⟨rows, rfl, h2, h3⟩
  | bool _ b h1 => rw [ht] at h1; cases h1
  | int _ k' n h1 h2 => rw [ht] at h1; cases h1
  | str _ s h1 h2 => rw [ht] at h1; cases h1
  | struct _ fs ds h1 _ _ => rw [ht] at h1; cases h1
  | array _ n e ds h1 _ _ => rw [ht] at h1; cases h1

theorem wts_struct {P : Program} {t : TypeId} {fs : Array Field} {ds : List D} (ht : P.underlying t = some (.struct fs)) (h : WTs P t ds) : ds.length = P.cellsOf t ∧ ∀ (i : Nat) (f : Field), fs[i]? = some f → WTs P f.type ((ds.drop f.offset).take (P.cellsOf f.type)) := by
  cases h with
  | struct _ fs ds h1 h2 h3 => rw [ht] at h1; cases h1; exact ⟨h2, h3⟩
  | bool _ b h1 => rw [ht] at h1; cases h1
  | int _ k' n h1 h2 => rw [ht] at h1; cases h1
  | str _ s h1 h2 => rw [ht] at h1; cases h1
  | slice _ e rows h1 _ _ => rw [ht] at h1; cases h1
  | array _ n e ds h1 _ _ => rw [ht] at h1; cases h1

/-- A slice of rows that are each somebody's. -/
theorem rows_of {α : Type} {P : Program} {e : TypeId} {f : α → List D} {ok : α → Prop} (hf : ∀ r, WTs P e r → ∃ x, ok x ∧ r = f x) : ∀ {rows : List (List D)}, (∀ r ∈ rows, WTs P e r) → ∃ xs : List α, rows = xs.map f ∧ ∀ x ∈ xs, ok x
  | [], _ => ⟨[], rfl, fun x h => by cases h⟩
  | r :: rows, h => by
    obtain ⟨x, h1, h2⟩ := hf r (h r (by simp))
    obtain ⟨xs, h3, h4⟩ := rows_of hf (rows := rows) fun r hr => h r (by simp [hr])
    refine ⟨x :: xs, by simp [h2, h3], fun y hy => ?_⟩
    rcases List.mem_cons.1 hy with rfl | hy
    · exact h1
    · exact h4 y hy

def tiles (P : Program) (total : Nat) : Nat → List Field → Bool
  | off, [] => Nat.beq off total
  | off, f :: fs => Nat.beq f.offset off && tiles P total (off + P.cellsOf f.type) fs

/-- Types of plain data: no pointer, map, function, interface. -/
def plainT (P : Program) : Nat → TypeId → Bool
  | 0, _ => false
  | n + 1, t =>
    match P.underlying t with
    | some .bool => true
    | some (.int _) => true
    | some .string => true
    | some (.slice e) => Nat.blt 0 (P.cellsOf e) && plainT P n e
    | some (.struct fs) => tiles P (P.cellsOf t) 0 fs.toList && fs.toList.all fun f => plainT P n f.type
    | _ => false

theorem list_of {α : Type} {p : Nat → α → Prop} : ∀ n, (∀ i, i < n → ∃ y, p i y) → ∃ l : List α, l.length = n ∧ ∀ (i : Nat) (y : α), l[i]? = some y → p i y
  | 0, _ => ⟨[], rfl, fun i y h => by simp at h⟩
  | n + 1, h => by
    obtain ⟨l, h1, h2⟩ := list_of n fun i hi => h i (by omega)
    obtain ⟨y, hy⟩ := h n (by omega)
    refine ⟨l ++ [y], by simp [h1], fun i z hz => ?_⟩
    by_cases hi : i < l.length
    · rw [List.getElem?_append_left hi] at hz; exact h2 i z hz
    · rw [List.getElem?_append_right (by omega)] at hz
      have : i - l.length = 0 := by
        have := (List.getElem?_eq_some_iff.1 hz).1
        simp at this; omega
      rw [this] at hz
      simp at hz; subst hz
      have : i = n := by omega
      rw [this]; exact hy

theorem flat_find {sz : Nat} : ∀ {rows : List (List D)}, (∀ r ∈ rows, r.length = sz) → ∀ (j : Nat) (d : D), rows.flatten[j]? = some d → ∃ i k r, rows[i]? = some r ∧ r[k]? = some d ∧ j = i * sz + k ∧ k < sz
  | [], _, j, d, h => by simp at h
  | r :: rows, hl, j, d, h => by
    have hr := hl r (by simp)
    simp only [List.flatten_cons] at h
    by_cases hj : j < r.length
    · rw [List.getElem?_append_left hj] at h
      exact ⟨0, j, r, rfl, h, by simp, by omega⟩
    · rw [List.getElem?_append_right (by omega)] at h
      obtain ⟨i, k, r', h1, h2, h3, h4⟩ := flat_find (fun r hr => hl r (by simp [hr])) _ _ h
      refine ⟨i + 1, k, r', by simpa using h1, h2, ?_, h4⟩
      rw [Nat.add_mul]
      omega

theorem cell_find {w : World} {a : Addr} {v : Value} (h : w.cell? a = some v) : a.block < w.heap.size ∧ a.spot = none := by
  unfold World.cell? at h
  split at h
  · rename_i c t fr hb
    refine ⟨(Array.getElem?_eq_some_iff.1 hb).1, ?_⟩
    cases hs : a.spot with
    | none => rfl
    | some s => rw [hs] at h; simp at h
  · cases h

section
variable {H : Type} {enc : TypeId × Value → H} {P : Program} {w : World} {base : Nat} {spare : Nat → Bool} {held : Bool} {B : Nat → Prop}

theorem tile_list {Pc : Program} {cs : List Value} {total : Nat} (hlen : cs.length = total) : ∀ (fs : List Field) (off : Nat), tiles Pc total off fs = true → off ≤ total →
    (∀ f ∈ fs, ∃ ds : List D, ds.length = ((cs.drop f.offset).take (Pc.cellsOf f.type)).length ∧ WTs Pc f.type ds ∧ ∀ (j : Nat) (d : D), ds[j]? = some d → ∃ v, ((cs.drop f.offset).take (Pc.cellsOf f.type))[j]? = some v ∧ Rep w B v d) →
    ∃ ds : List D, ds.length = total - off ∧ (∀ (i : Nat) (f : Field), fs[i]? = some f → off ≤ f.offset ∧ WTs Pc f.type ((ds.drop (f.offset - off)).take (Pc.cellsOf f.type))) ∧ ∀ (j : Nat) (d : D), ds[j]? = some d → ∃ v, cs[off + j]? = some v ∧ Rep w B v d
  | [], off, ht, _, _ => by
    have : off = total := Nat.eq_of_beq_eq_true ht
    exact ⟨[], by simp; omega, fun i f h => by simp at h, fun j d h => by simp at h⟩
  | f :: fs, off, ht, hle, hf => by
    simp only [tiles, Bool.and_eq_true] at ht
    have ho : f.offset = off := Nat.eq_of_beq_eq_true ht.1
    have hmono : ∀ (fs : List Field) (off : Nat), tiles Pc total off fs = true → off ≤ total := by
      intro fs
      induction fs with
      | nil => intro off h; exact Nat.le_of_eq (Nat.eq_of_beq_eq_true h)
      | cons g gs ih =>
        intro off h
        simp only [tiles, Bool.and_eq_true] at h
        have := ih _ h.2
        omega
    have hle2 := hmono _ _ ht.2
    obtain ⟨d1, p1, p2, p3⟩ := hf f (by simp)
    obtain ⟨d2, q1, q2, q3⟩ := tile_list hlen fs (off + Pc.cellsOf f.type) ht.2 hle2 fun g hg => hf g (by simp [hg])
    have hl1 : d1.length = Pc.cellsOf f.type := by rw [p1, List.length_take, List.length_drop]; omega
    refine ⟨d1 ++ d2, by simp [hl1, q1]; omega, fun i g hg => ?_, fun j d hj => ?_⟩
    · cases i with
      | zero =>
        simp at hg; subst hg
        refine ⟨by omega, ?_⟩
        rw [ho, Nat.sub_self, List.drop_zero, ← hl1, List.take_left]
        exact p2
      | succ i =>
        obtain ⟨r1, r2⟩ := q2 i g (by simpa using hg)
        refine ⟨by omega, ?_⟩
        rw [show g.offset - off = d1.length + (g.offset - (off + Pc.cellsOf f.type)) from by omega, ← List.drop_drop, List.drop_left]
        exact r2
    · by_cases hjl : j < d1.length
      · rw [List.getElem?_append_left hjl] at hj
        obtain ⟨v, h1, h2⟩ := p3 j d hj
        rw [List.getElem?_take] at h1
        split at h1
        · rw [List.getElem?_drop, ho] at h1; exact ⟨v, h1, h2⟩
        · cases h1
      · rw [List.getElem?_append_right (by omega)] at hj
        obtain ⟨v, h1, h2⟩ := q3 _ d hj
        exact ⟨v, by rw [← h1]; congr 1; omega, h2⟩

theorem trod_rep (hB : ∀ b, ¬ B b) : ∀ (n : Nat) (t : TypeId), plainT P n t = true → ∀ (fuel : Nat) (cs : List Value) (x : DataW H × List MemPlace), DataW.trod enc P w base spare held fuel t cs = some x →
    ∃ ds : List D, ds.length = cs.length ∧ WTs P t ds ∧ ∀ (j : Nat) (d : D), ds[j]? = some d → ∃ v, cs[j]? = some v ∧ Rep w B v d
  | 0, t, hp, _, _, _, _ => by cases hp
  | n + 1, t, hp, fuel, cs, x, h => by
    have one : ∀ {v : Value} {d : D}, Rep w B v d → ∀ (j : Nat) (d' : D), [d][j]? = some d' → ∃ v', [v][j]? = some v' ∧ Rep w B v' d' := fun hr j d' hj => by
      cases j with
      | zero => simp at hj; subst hj; exact ⟨_, rfl, hr⟩
      | succ j => simp at hj
    unfold plainT at hp
    split at hp
    · rename_i ht
      obtain ⟨b, rfl, _⟩ := DataW.trod_bool ht h
      exact ⟨[.bool b], rfl, .bool t b ht, one (.bool b)⟩
    · rename_i k ht
      obtain ⟨i, rfl, _, hw⟩ := DataW.trod_int ht h
      exact ⟨[.int k i], rfl, .int t k i ht hw, one (.int k i)⟩
    · rename_i ht
      obtain ⟨s, rfl, _, hs⟩ := DataW.trod_string ht h
      exact ⟨[.str s], rfl, .str t s ht hs, one (.str s)⟩
    · rename_i e ht
      simp only [Bool.and_eq_true] at hp
      have hpos : 0 < P.cellsOf e := Nat.le_of_ble_eq_true hp.1
      rcases Go.Deep.open_slice ht h with ⟨rfl, _⟩ | ⟨a, len, cap, m, n', D', Pl, rfl, hb, hl, hm, hmm, _, hat⟩
      · exact ⟨[.list []], rfl, .slice t e [] ht (by simp) (fun r hr => by cases hr), one (.nil _ _)⟩
      · have hlm : len ≤ m := by rw [hmm]; split <;> omega
        obtain ⟨rows, hr1, hr2⟩ := list_of (p := fun i (r : List D) => r.length = P.cellsOf e ∧ WTs P e r ∧ ∀ (j : Nat) (d : D), r[j]? = some d → ∃ v, w.cell? (a.add (i * P.cellsOf e + j)) = some v ∧ Rep w B v d) len fun i hi => by
          obtain ⟨cs', h1, h2⟩ := hat i (by omega)
          obtain ⟨_, hcl, hcat⟩ := World.cells?_some h1
          obtain ⟨ds, g1, g2, g3⟩ := trod_rep hB n e hp.2 _ _ _ h2
          refine ⟨ds, by rw [g1, hcl], g2, fun j d hj => ?_⟩
          obtain ⟨v, h3, h4⟩ := g3 j d hj
          refine ⟨v, ?_, h4⟩
          have := hcat j (by rw [← hcl]; exact (List.getElem?_eq_some_iff.1 h3).1)
          rw [add_add, h3] at this
          exact this
        have hrl : ∀ r ∈ rows, r.length = P.cellsOf e ∧ WTs P e r := fun r hr => by
          obtain ⟨i, hi⟩ := List.getElem?_of_mem hr
          exact ⟨(hr2 i r hi).1, (hr2 i r hi).2.1⟩
        refine ⟨[.list rows], rfl, .slice t e rows ht (by omega) (fun r hr => (hrl r hr).2), one ?_⟩
        have hcell : ∀ (j : Nat) (d : D), rows.flatten[j]? = some d → ∃ v, w.cell? (a.add j) = some v ∧ Rep w B v d := fun j d hj => by
          obtain ⟨i, k, r, h1, h2, h3, _⟩ := flat_find (fun r hr => (hrl r hr).1) j d hj
          rw [h3]
          exact (hr2 i r h1).2.2 k d h2
        by_cases h0 : len = 0
        · subst h0
          have : rows = [] := List.eq_nil_of_length_eq_zero hr1
          subst this
          exact .nil _ _
        · have h00 : ∃ d, rows.flatten[0]? = some d := by
            cases hr : rows with
            | nil => rw [hr] at hr1; simp at hr1; omega
            | cons r rs =>
              have := (hrl r (by rw [hr]; simp)).1
              cases r with
              | nil => simp at this; omega
              | cons d r => exact ⟨d, by simp⟩
          obtain ⟨d0, hd0⟩ := h00
          obtain ⟨v0, hv0, _⟩ := hcell 0 d0 hd0
          obtain ⟨hblk, hspot⟩ := cell_find hv0
          rw [block_add] at hblk
          have hspot' : a.spot = none := by
            have : (a.add 0) = a := by simp [Addr.add]
            rw [this] at hspot; exact hspot
          refine .list a len cap rows (P.cellsOf e) (fun j => (w.cell? (a.add j)).getD Go.undef) hr1.symm hl (fun r hr => (hrl r hr).1) hblk (hB _) hspot' (fun j d hj => ?_) (fun j d hj => ?_)
          · obtain ⟨v, h1, _⟩ := hcell j d hj
            rw [h1]; rfl
          · obtain ⟨v, h1, h2⟩ := hcell j d hj
            rw [h1]; exact h2
    · rename_i fs ht
      simp only [Bool.and_eq_true] at hp
      obtain ⟨xs, n', _, _, hlen, hxl, hf⟩ := DataW.trod_struct ht h
      obtain ⟨ds, h1, h2, h3⟩ := tile_list (w := w) (B := B) hlen fs.toList 0 hp.1 (Nat.zero_le _) fun f hfm => by
        obtain ⟨i, hi⟩ := List.getElem?_of_mem hfm
        have hi' : fs[i]? = some f := by simpa using hi
        have := hf i f hi'
        have hlt : i < xs.length := by rw [hxl]; exact (Array.getElem?_eq_some_iff.1 hi').1
        rw [List.getElem?_eq_getElem hlt] at this
        exact trod_rep hB n f.type ((List.all_eq_true.1 hp.2) f hfm) _ _ _ this
      refine ⟨ds, by rw [h1, hlen]; simp, .struct t fs ds ht (by rw [h1]; simp) (fun i f hi => ?_), fun j d hj => ?_⟩
      · have := (h2 i f (by simpa using hi)).2
        rwa [Nat.sub_zero] at this
      · have := h3 j d hj
        rwa [Nat.zero_add] at this
    · cases hp

end
end Go.Am
