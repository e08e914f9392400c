/- The abstract machine: more rules; rows. -/
import Derived.Test.YteoiohkdhdpkoaaAmB
import Derived.ProofKit
import Derived.OpenShut
import Derived.Deep.Slices
import Derived.Below
import Derived.Carry
import Derived.ChangeSame
import Derived.Lib.LaidTab
/-! The abstract machine, part 28: what an argument's reading gives: plain data of its type. -/
namespace Go.Am
open Go

/-- The cells of a value of a type. -/
inductive WTs (P : Program) : TypeId → List D → Prop
  | bool (t : TypeId) (b : Bool) : P.underlying t = some .bool → WTs P t [.bool b]
  | int (t : TypeId) (k : IntKind) (n : Int) : P.underlying t = some (.int k) → (Lit.int k n).wf = true → WTs P t [.int k n]
  | str (t : TypeId) (s : ByteArray) : P.underlying t = some .string → s.size ≤ maxLen → WTs P t [.str s]
  | slice (t e : TypeId) (rows : List (List D)) : P.underlying t = some (.slice e) → rows.length ≤ maxLen → (∀ r ∈ rows, WTs P e r) → WTs P t [.list rows]
  | struct (t : TypeId) (fs : Array Field) (ds : List D) : P.underlying t = some (.struct fs) → ds.length = P.cellsOf t → (∀ (i : Nat) (f : Field), fs[i]? = some f → WTs P f.type ((ds.drop f.offset).take (P.cellsOf f.type))) → WTs P t ds
  | array (t : TypeId) (n : Nat) (e : TypeId) (ds : List D) : P.underlying t = some (.array n e) → ds.length = P.cellsOf t → (∀ i, i < n → WTs P e ((ds.drop (i * P.cellsOf e)).take (P.cellsOf e))) → WTs P t ds

theorem wts_int {P : Program} {t : TypeId} {k : IntKind} {ds : List D} (ht : P.underlying t = some (.int k)) (h : WTs P t ds) : ∃ n, ds = [.int k n] ∧ (Lit.int k n).wf = true := by
  cases h with
  | int _ k' n h1 h2 => rw [ht] at h1; cases h1; exact ⟨n, rfl, h2⟩
  | bool _ b h1 => rw [ht] at h1; cases h1
  | str _ s h1 _ => rw [ht] at h1; cases h1
  | slice _ e rows h1 _ _ => rw [ht] at h1; cases h1
  | struct _ fs ds h1 _ _ => rw [ht] at h1; cases h1
  | array _ n e ds h1 _ _ => rw [ht] at h1; cases h1

theorem wts_bool {P : Program} {t : TypeId} {ds : List D} (ht : P.underlying t = some .bool) (h : WTs P t ds) : ∃ b, ds = [.bool b] := by
  cases h with
  | bool _ b h1 => exact ⟨b, rfl⟩
  | int _ k' n h1 h2 => rw [ht] at h1; cases h1
  | str _ s h1 _ => rw [ht] at h1; cases h1
  | slice _ e rows h1 _ _ => rw [ht] at h1; cases h1
  | struct _ fs ds h1 _ _ => rw [ht] at h1; cases h1
  | array _ n e ds h1 _ _ => rw [ht] at h1; cases h1

theorem wts_str {P : Program} {t : TypeId} {ds : List D} (ht : P.underlying t = some .string) (h : WTs P t ds) : ∃ s, ds = [.str s] ∧ s.size ≤ maxLen := by
  cases h with
  | str _ s h1 h2 => exact ⟨s, rfl, h2⟩
  | bool _ b h1 => rw [ht] at h1; cases h1
  | int _ k' n h1 h2 => rw [ht] at h1; cases h1
  | slice _ e rows h1 _ _ => rw [ht] at h1; cases h1
  | struct _ fs ds h1 _ _ => rw [ht] at h1; cases h1
  | array _ n e ds h1 _ _ => rw [ht] at h1; cases h1

theorem wts_slice {P : Program} {t e : TypeId} {ds : List D} (ht : P.underlying t = some (.slice e)) (h : WTs P t ds) : ∃ rows, ds = [.list rows] ∧ rows.length ≤ maxLen ∧ ∀ r ∈ rows, WTs P e r := by
  cases h with
  | slice _ e rows h1 h2 h3 => rw [ht] at h1; cases h1; exact ⟨rows, rfl, h2, h3⟩
  | bool _ b h1 => rw [ht] at h1; cases h1
  | int _ k' n h1 h2 => rw [ht] at h1; cases h1
  | str _ s h1 h2 => rw [ht] at h1; cases h1
  | struct _ fs ds h1 _ _ => rw [ht] at h1; cases h1
  | array _ n e ds h1 _ _ => rw [ht] at h1; cases h1

theorem wts_struct {P : Program} {t : TypeId} {fs : Array Field} {ds : List D} (ht : P.underlying t = some (.struct fs)) (h : WTs P t ds) : ds.length = P.cellsOf t ∧ ∀ (i : Nat) (f : Field), fs[i]? = some f → WTs P f.type ((ds.drop f.offset).take (P.cellsOf f.type)) := by
  cases h with
  | struct _ fs ds h1 h2 h3 => rw [ht] at h1; cases h1; exact ⟨h2, h3⟩
  | bool _ b h1 => rw [ht] at h1; cases h1
  | int _ k' n h1 h2 => rw [ht] at h1; cases h1
  | str _ s h1 h2 => rw [ht] at h1; cases h1
  | slice _ e rows h1 _ _ => rw [ht] at h1; cases h1
  | array _ n e ds h1 _ _ => rw [ht] at h1; cases h1

/-- A slice of rows that are each somebody's. -/
theorem rows_of {α : Type} {P : Program} {e : TypeId} {f : α → List D} {ok : α → Prop} (hf : ∀ r, WTs P e r → ∃ x, ok x ∧ r = f x) : ∀ {rows : List (List D)}, (∀ r ∈ rows, WTs P e r) → ∃ xs : List α, rows = xs.map f ∧ ∀ x ∈ xs, ok x
  | [], _ => ⟨[], rfl, fun x h => by cases h⟩
  | r :: rows, h => by
    obtain ⟨x, h1, h2⟩ := hf r (h r (by simp))
    obtain ⟨xs, h3, h4⟩ := rows_of hf (rows := rows) fun r hr => h r (by simp [hr])
    refine ⟨x :: xs, by simp [h2, h3], fun y hy => ?_⟩
    rcases List.mem_cons.1 hy with rfl | hy
    · exact h1
    · exact h4 y hy

def tiles (P : Program) (total : Nat) : Nat → List Field → Bool
  | off, [] => Nat.beq off total
  | off, f :: fs => Nat.beq f.offset off && tiles P total (off + P.cellsOf f.type) fs

/-- Types of plain data: no pointer, map, function, interface. -/
def plainT (P : Program) : Nat → TypeId → Bool
  | 0, _ => false
  | n + 1, t =>
    match P.underlying t with
    | some .bool => true
    | some (.int _) => true
    | some .string => true
    | some (.slice e) => Nat.blt 0 (P.cellsOf e) && plainT P n e
    | some (.struct fs) => tiles P (P.cellsOf t) 0 fs.toList && fs.toList.all fun f => plainT P n f.type
    | _ => false

theorem list_of {α : Type} {p : Nat → α → Prop} : ∀ n, (∀ i, i < n → ∃ y, p i y) → ∃ l : List α, l.length = n ∧ ∀ (i : Nat) (y : α), l[i]? = some y → p i y
  | 0, _ => ⟨[], rfl, fun i y h => by simp at h⟩
  | n + 1, h => by
    obtain ⟨l, h1, h2⟩ := list_of n fun i hi => h i (by omega)
    obtain ⟨y, hy⟩ := h n (by omega)
    refine ⟨l ++ [y], by simp [h1], fun i z hz => ?_⟩
    by_cases hi : i < l.length
    · rw [List.getElem?_append_left hi] at hz; exact h2 i z hz
    · rw [List.getElem?_append_right (by omega)] at hz
      have : i - l.length = 0 := by
        have := (List.getElem?_eq_some_iff.1 hz).1
        simp at this; omega
      rw [this] at hz
      simp at hz; subst hz
      have : i = n := by omega
      rw [this]; exact hy

theorem flat_find {sz : Nat} : ∀ {rows : List (List D)}, (∀ r ∈ rows, r.length = sz) → ∀ (j : Nat) (d : D), rows.flatten[j]? = some d → ∃ i k r, rows[i]? = some r ∧ r[k]? = some d ∧ j = i * sz + k ∧ k < sz
  | [], _, j, d, h => by simp at h
  | r :: rows, hl, j, d, h => by
    have hr := hl r (by simp)
    simp only [List.flatten_cons] at h
    by_cases hj : j < r.length
    · rw [List.getElem?_append_left hj] at h
      exact ⟨0, j, r, rfl, h, by simp, by omega⟩
    · rw [List.getElem?_append_right (by omega)] at h
      obtain ⟨i, k, r', h1, h2, h3, h4⟩ := flat_find (fun r hr => hl r (by simp [hr])) _ _ h
      refine ⟨i + 1, k, r', by simpa using h1, h2, ?_, h4⟩
      rw [Nat.add_mul]
      omega

theorem cell_find {w : World} {a : Addr} {v : Value} (h : w.cell? a = some v) : a.block < w.heap.size ∧ a.spot = none := by
  unfold World.cell? at h
  split at h
  · rename_i c t fr hb
    refine ⟨(Array.getElem?_eq_some_iff.1 hb).1, ?_⟩
    cases hs : a.spot with
    | none => rfl
    | some s => rw [hs] at h; simp at h
  · cases h

section
variable {H : Type} {enc : TypeId × Value → H} {P : Program} {w : World} {base : Nat} {spare : Nat → Bool} {held : Bool} {B : Nat → Prop}

theorem tile_list {Pc : Program} {cs : List Value} {total : Nat} (hlen : cs.length = total) : ∀ (fs : List Field) (off : Nat), tiles Pc total off fs = true → off ≤ total →
    (∀ f ∈ fs, ∃ ds : List D, ds.length = ((cs.drop f.offset).take (Pc.cellsOf f.type)).length ∧ WTs Pc f.type ds ∧ ∀ (j : Nat) (d : D), ds[j]? = some d → ∃ v, ((cs.drop f.offset).take (Pc.cellsOf f.type))[j]? = some v ∧ Rep w B v d) →
    ∃ ds : List D, ds.length = total - off ∧ (∀ (i : Nat) (f : Field), fs[i]? = some f → off ≤ f.offset ∧ WTs Pc f.type ((ds.drop (f.offset - off)).take (Pc.cellsOf f.type))) ∧ ∀ (j : Nat) (d : D), ds[j]? = some d → ∃ v, cs[off + j]? = some v ∧ Rep w B v d
  | [], off, ht, _, _ => by
    have : off = total := Nat.eq_of_beq_eq_true ht
    exact ⟨[], by simp; omega, fun i f h => by simp at h, fun j d h => by simp at h⟩
  | f :: fs, off, ht, hle, hf => by
    simp only [tiles, Bool.and_eq_true] at ht
    have ho : f.offset = off := Nat.eq_of_beq_eq_true ht.1
    have hmono : ∀ (fs : List Field) (off : Nat), tiles Pc total off fs = true → off ≤ total := by
      intro fs
      induction fs with
      | nil => intro off h; exact Nat.le_of_eq (Nat.eq_of_beq_eq_true h)
      | cons g gs ih =>
        intro off h
        simp only [tiles, Bool.and_eq_true] at h
        have := ih _ h.2
        omega
    have hle2 := hmono _ _ ht.2
    obtain ⟨d1, p1, p2, p3⟩ := hf f (by simp)
    obtain ⟨d2, q1, q2, q3⟩ := tile_list hlen fs (off + Pc.cellsOf f.type) ht.2 hle2 fun g hg => hf g (by simp [hg])
    have hl1 : d1.length = Pc.cellsOf f.type := by rw [p1, List.length_take, List.length_drop]; omega
    refine ⟨d1 ++ d2, by simp [hl1, q1]; omega, fun i g hg => ?_, fun j d hj => ?_⟩
    · cases i with
      | zero =>
        simp at hg; subst hg
        refine ⟨by omega, ?_⟩
        rw [ho, Nat.sub_self, List.drop_zero, ← hl1, List.take_left]
        exact p2
      | succ i =>
        obtain ⟨r1, r2⟩ := q2 i g (by simpa using hg)
        refine ⟨by omega, ?_⟩
        rw [show g.offset - off = d1.length + (g.offset - (off + Pc.cellsOf f.type)) from by omega, ← List.drop_drop, List.drop_left]
        exact r2
    · by_cases hjl : j < d1.length
      · rw [List.getElem?_append_left hjl] at hj
        obtain ⟨v, h1, h2⟩ := p3 j d hj
        rw [List.getElem?_take] at h1
        split at h1
        · rw [List.getElem?_drop, ho] at h1; exact ⟨v, h1, h2⟩
        · cases h1
      · rw [List.getElem?_append_right (by omega)] at hj
        obtain ⟨v, h1, h2⟩ := q3 _ d hj
        exact ⟨v, by rw [← h1]; congr 1; omega, h2⟩

theorem trod_rep (hB : ∀ b, ¬ B b) : ∀ (n : Nat) (t : TypeId), plainT P n t = true → ∀ (fuel : Nat) (cs : List Value) (x : DataW H × List MemPlace), DataW.trod enc P w base spare held fuel t cs = some x → w.noneFrozen x.2 →
    ∃ ds : List D, ds.length = cs.length ∧ WTs P t ds ∧ ∀ (j : Nat) (d : D), ds[j]? = some d → ∃ v, cs[j]? = some v ∧ Rep w B v d
  | 0, t, hp, _, _, _, _, _ => by cases hp
  | n + 1, t, hp, fuel, cs, x, h, hz => by
    have one : ∀ {v : Value} {d : D}, Rep w B v d → ∀ (j : Nat) (d' : D), [d][j]? = some d' → ∃ v', [v][j]? = some v' ∧ Rep w B v' d' := fun hr j d' hj => by
      cases j with
      | zero => simp at hj; subst hj; exact ⟨_, rfl, hr⟩
      | succ j => simp at hj
    unfold plainT at hp
    split at hp
    · rename_i ht
      obtain ⟨b, rfl, _⟩ := DataW.trod_bool ht h
      exact ⟨[.bool b], rfl, .bool t b ht, one (.bool b)⟩
    · rename_i k ht
      obtain ⟨i, rfl, _, hw⟩ := DataW.trod_int ht h
      exact ⟨[.int k i], rfl, .int t k i ht hw, one (.int k i)⟩
    · rename_i ht
      obtain ⟨s, rfl, _, hs⟩ := DataW.trod_string ht h
      exact ⟨[.str s], rfl, .str t s ht hs, one (.str s)⟩
    · rename_i e ht
      simp only [Bool.and_eq_true] at hp
      have hpos : 0 < P.cellsOf e := Nat.le_of_ble_eq_true hp.1
      rcases Go.Deep.open_slice ht h with ⟨rfl, _⟩ | ⟨a, len, cap, m, n', D', Pl, rfl, hb, hl, hm, hmm, hx, hat⟩
      · exact ⟨[.list []], rfl, .slice t e [] ht (by simp) (fun r hr => by cases hr), one (.nil _ _)⟩
      · have hlm : len ≤ m := by rw [hmm]; split <;> omega
        obtain ⟨rows, hr1, hr2⟩ := list_of (p := fun i (r : List D) => r.length = P.cellsOf e ∧ WTs P e r ∧ ∀ (j : Nat) (d : D), r[j]? = some d → ∃ v, w.cell? (a.add (i * P.cellsOf e + j)) = some v ∧ Rep w B v d) len fun i hi => by
          obtain ⟨cs', h1, h2⟩ := hat i (by omega)
          obtain ⟨_, hcl, hcat⟩ := World.cells?_some h1
          obtain ⟨ds, g1, g2, g3⟩ := trod_rep hB n e hp.2 _ _ _ h2 (fun b off hm' => hz b off (by
            rw [hx]
            exact List.mem_append_right _ (List.mem_flatMap.2 ⟨i, List.mem_range.2 (by omega), hm'⟩)))
          refine ⟨ds, by rw [g1, hcl], g2, fun j d hj => ?_⟩
          obtain ⟨v, h3, h4⟩ := g3 j d hj
          refine ⟨v, ?_, h4⟩
          have := hcat j (by rw [← hcl]; exact (List.getElem?_eq_some_iff.1 h3).1)
          rw [add_add, h3] at this
          exact this
        have hrl : ∀ r ∈ rows, r.length = P.cellsOf e ∧ WTs P e r := fun r hr => by
          obtain ⟨i, hi⟩ := List.getElem?_of_mem hr
          exact ⟨(hr2 i r hi).1, (hr2 i r hi).2.1⟩
        refine ⟨[.list rows], rfl, .slice t e rows ht (by omega) (fun r hr => (hrl r hr).2), one ?_⟩
        have hcell : ∀ (j : Nat) (d : D), rows.flatten[j]? = some d → ∃ v, w.cell? (a.add j) = some v ∧ Rep w B v d := fun j d hj => by
          obtain ⟨i, k, r, h1, h2, h3, _⟩ := flat_find (fun r hr => (hrl r hr).1) j d hj
          rw [h3]
          exact (hr2 i r h1).2.2 k d h2
        by_cases h0 : len = 0
        · subst h0
          have : rows = [] := List.eq_nil_of_length_eq_zero hr1
          subst this
          exact .nil _ _
        · have h00 : ∃ d, rows.flatten[0]? = some d := by
            cases hr : rows with
            | nil => rw [hr] at hr1; simp at hr1; omega
            | cons r rs =>
              have := (hrl r (by rw [hr]; simp)).1
              cases r with
              | nil => simp at this; omega
              | cons d r => exact ⟨d, by simp⟩
          obtain ⟨d0, hd0⟩ := h00
          obtain ⟨v0, hv0, _⟩ := hcell 0 d0 hd0
          obtain ⟨hblk, hspot⟩ := cell_find hv0
          rw [block_add] at hblk
          have hspot' : a.spot = none := by
            have : (a.add 0) = a := by simp [Addr.add]
            rw [this] at hspot; exact hspot
          refine .list a len cap rows (P.cellsOf e) (fun j => (w.cell? (a.add j)).getD Go.undef) hr1.symm hl (fun r hr => (hrl r hr).1) hblk (hB _) hspot' (fun j d hj => ?_) (fun j d hj => ?_)
          · obtain ⟨v, h1, _⟩ := hcell j d hj
            refine ⟨by rw [h1]; rfl, ?_⟩
            rw [add_spot hspot']
            refine hz _ _ ?_
            rw [hx]
            refine List.mem_append_left _ (List.mem_map.2 ⟨j, List.mem_range.2 ?_, rfl⟩)
            have hj1 := (List.getElem?_eq_some_iff.1 hj).1
            rw [flat_len (sz := P.cellsOf e) rows (fun r hr => (hrl r hr).1), hr1] at hj1
            exact Nat.lt_of_lt_of_le hj1 (Nat.mul_le_mul_right _ hlm)
          · obtain ⟨v, h1, h2⟩ := hcell j d hj
            rw [h1]; exact h2
    · rename_i fs ht
      simp only [Bool.and_eq_true] at hp
      obtain ⟨xs, n', _, hx, hlen, hxl, hf⟩ := DataW.trod_struct ht h
      obtain ⟨ds, h1, h2, h3⟩ := tile_list (w := w) (B := B) hlen fs.toList 0 hp.1 (Nat.zero_le _) fun f hfm => by
        obtain ⟨i, hi⟩ := List.getElem?_of_mem hfm
        have hi' : fs[i]? = some f := by simpa using hi
        have := hf i f hi'
        have hlt : i < xs.length := by rw [hxl]; exact (Array.getElem?_eq_some_iff.1 hi').1
        rw [List.getElem?_eq_getElem hlt] at this
        exact trod_rep hB n f.type ((List.all_eq_true.1 hp.2) f hfm) _ _ _ this (fun b off hm' => hz b off (by
          rw [hx]
          exact List.mem_flatMap.2 ⟨_, List.getElem_mem hlt, hm'⟩))
      refine ⟨ds, by rw [h1, hlen]; simp, .struct t fs ds ht (by rw [h1]; simp) (fun i f hi => ?_), fun j d hj => ?_⟩
      · have := (h2 i f (by simpa using hi)).2
        rwa [Nat.sub_zero] at this
      · have := h3 j d hj
        rwa [Nat.zero_add] at this
    · cases hp

end
end Go.Am

/-! The abstract machine, part 29: a law whose contract is 'true' fulfils its row's step. -/
namespace Go.Am
open Go Go.RowKit Go.WideShapes Go.ChangeShapes

/-- A value of a type, as a datum. -/
def WTv (P : Program) (t : TypeId) (dd : D) : Prop :=
  match P.underlying t with
  | some (.struct _) => ∃ ds, dd = .agg ds ∧ WTs P t ds
  | _ => WTs P t [dd]

section
variable {H : Type} {enc : TypeId × Value → H} {P : Program} {w : World} {base : Nat} {spare : Nat → Bool} {held : Bool} {B : Nat → Prop}

theorem val_rep (hB : ∀ b, ¬ B b) {n : Nat} {t : TypeId} (hp : plainT P n t = true) {r : Reach} {b0 : Nat} {v : Value} {d : DataW H} {ps : List MemPlace} (hval : Value.okWide P w r b0 t v) (h : DataW.Trod enc P w base spare held t v d ps) (hz : w.noneFrozen ps) :
    ∃ dd, Rep w B v dd ∧ WTv P t dd := by
  obtain ⟨fuel, hf⟩ := h
  obtain ⟨ds, h1, h2, h3⟩ := trod_rep hB n t hp fuel _ _ hf hz
  cases n with
  | zero => cases hp
  | succ n =>
    unfold plainT at hp
    have single : (∀ fs, P.underlying t ≠ some (.struct fs)) → v.cells.toList = [v] → ∃ dd, Rep w B v dd ∧ WTv P t dd := by
      intro hns hc
      rw [hc] at h1 h3
      match ds, h1 with
      | [dd], _ =>
        obtain ⟨v', hv', hr⟩ := h3 0 dd rfl
        simp at hv'; subst hv'
        refine ⟨dd, hr, ?_⟩
        unfold WTv
        split
        · rename_i fs hfs; exact absurd hfs (hns fs)
        · exact h2
    split at hp
    · rename_i ht
      obtain ⟨b, rfl⟩ := okWide_bool ht hval
      exact single (fun fs e => by rw [ht] at e; cases e) rfl
    · rename_i k ht
      obtain ⟨i, rfl⟩ := okWide_int ht hval
      exact single (fun fs e => by rw [ht] at e; cases e) rfl
    · rename_i ht
      obtain ⟨s, rfl⟩ := okWide_string ht hval
      exact single (fun fs e => by rw [ht] at e; cases e) rfl
    · rename_i e ht
      obtain ⟨a, len, cap, rfl⟩ := okWide_slice ht hval
      exact single (fun fs e => by rw [ht] at e; cases e) rfl
    · rename_i fs ht
      obtain ⟨cs, rfl, _⟩ := okWide_struct ht hval
      refine ⟨.agg ds, .agg cs ds ?_ (fun j d hj => ?_), ?_⟩
      · have : (Value.agg cs).cells = cs := rfl
        rw [this] at h1
        simpa using h1.symm
      · obtain ⟨v, hv, hr⟩ := h3 j d hj
        have : (Value.agg cs).cells = cs := rfl
        rw [this] at hv
        have hv' : cs[j]? = some v := by simpa using hv
        rw [Array.getD_eq_getD_getElem?, hv']
        exact hr
      · unfold WTv
        split
        · exact ⟨ds, rfl, h2⟩
        · rename_i hns; exact absurd ht (hns fs)
    · cases hp

theorem vals_rep (hB : ∀ b, ¬ B b) {n : Nat} {r : Reach} {b0 : Nat} : ∀ (ts : List TypeId) (vs : List Value) (ds : List (DataW H)) (ps : List MemPlace), (∀ t ∈ ts, plainT P n t = true) →
    (∀ (j : Nat) t v, ts[j]? = some t → vs[j]? = some v → Value.okWide P w r b0 t v) → DataW.TrodAll enc P w base spare held ts vs ds ps → w.noneFrozen ps →
    vs.length = ts.length ∧ ds.length = ts.length ∧ ∃ dds : List D, dds.length = ts.length ∧ ∀ (j : Nat) t dd, ts[j]? = some t → dds[j]? = some dd → WTv P t dd ∧ ∃ v, vs[j]? = some v ∧ Rep w B v dd
  | [], vs, ds, ps, _, _, h, _ => by
    obtain ⟨rfl, rfl, _⟩ := trodAll_nil h
    exact ⟨rfl, rfl, [], rfl, fun j t dd hj => by simp at hj⟩
  | t :: ts, vs, ds, ps, hp, hv, h, hz => by
    obtain ⟨v, vs', d, ds', p, q, rfl, rfl, rfl, h1, h2⟩ := trodAll_cons h
    obtain ⟨g1, g2, dds, g3, g4⟩ := vals_rep hB ts vs' ds' q (fun t ht => hp t (by simp [ht])) (fun j t v hj hv' => hv (j + 1) t v (by simpa using hj) (by simpa using hv')) h2 (fun b off hm => hz b off (List.mem_append_right _ hm))
    obtain ⟨dd, e1, e2⟩ := val_rep hB (hp t (by simp)) (hv 0 t v rfl rfl) h1 (fun b off hm => hz b off (List.mem_append_left _ hm))
    refine ⟨by simp [g1], by simp [g2], dd :: dds, by simp [g3], fun j t' dd' hj hd => ?_⟩
    cases j with
    | zero => simp at hj hd; subst hj hd; exact ⟨e2, v, rfl, e1⟩
    | succ j => exact g4 j t' dd' (by simpa using hj) (by simpa using hd)

theorem args_stay (hl : laidOutB P = true) {W W' : World} (hb : Below W.heap.size W W') {sp : Nat → Bool} : ∀ (ts : List TypeId) (vs : List Value) (ds : List (DataW H)) (ps : List MemPlace), (∀ t ∈ ts, P.readableRec t = true ∧ t < P.types.size) →
    (∀ p ∈ ps, p.block < W.heap.size) → (∀ p ∈ ps, sp p.block = true) → DataW.TrodAll enc P W 0 (fun _ => true) true ts vs ds ps → DataW.TrodAll enc P W' 0 sp true ts vs ds ps
  | [], vs, ds, ps, _, _, _, h => by
    obtain ⟨rfl, rfl, rfl⟩ := trodAll_nil h
    exact rfl
  | t :: ts, vs, ds, ps, hr, hlt, hsp, h => by
    obtain ⟨v, vs', d, ds', p, q, rfl, rfl, rfl, h1, h2⟩ := trodAll_cons h
    refine ⟨p, q, ?_, args_stay hl hb ts vs' ds' q (fun t ht => hr t (by simp [ht])) (fun x hx => hlt x (by simp [hx])) (fun x hx => hsp x (by simp [hx])) h2, rfl⟩
    exact WideElems.Trod_stays hl (hr t (by simp)).1 (hr t (by simp)).2 h1 (fun x hx => hb.same (hlt x (by simp [hx]))) (fun x hx => hsp x (by simp [hx]))

/-- The step of a row that says 'true, and the arguments read as they did'. -/
theorem law_step {f : Func} {s : ChangeSpec} {fid : FuncId} {ts : List TypeId} {tb : TypeId} (hp : f.params = ts.toArray) (hrt : f.resultTypes = #[tb]) (htb : P.underlying tb = some .bool) (hv : s.vars = [])
    (hs : ∀ ds : List (DataW H), ds.length = ts.length → s.fn H ds = { results := [.lit (.bool true)], args := ds }) (hl : laidOutB P = true)
    (hok : (ts.all fun t => P.readableRec t && decide (t < P.types.size) && plainT P 12 t) = true)
    (hcall : ∀ dds : List D, dds.length = ts.length → (∀ (j : Nat) t dd, ts[j]? = some t → dds[j]? = some dd → WTv P t dd) → CallOk P fid (dds.map .imm) { res := [.imm (.bool true)] })
    {W : World} {b0 : Nat} {args : Array Value} {ds gs : List (DataW H)} {before : List MemPlace}
    (hval : ∀ (j : Nat) t v, f.params[j]? = some t → args[j]? = some v → Value.okWide P W .any b0 t v)
    (hW : DataW.Whole enc P f.params.toList s.vars false W args.toList ds gs before) (hT : Tb W []) :
    Calls P fid args W fun e W' => ∃ v, e = .returned v ∧ s.post enc P f false true false false W args v W' := by
  have hok' : ∀ t ∈ ts, P.readableRec t = true ∧ t < P.types.size ∧ plainT P 12 t = true := fun t ht => by
    have := List.all_eq_true.1 hok t ht
    simp only [Bool.and_eq_true, decide_eq_true_eq] at this
    exact ⟨this.1.1, this.1.2, this.2⟩
  have hW' := hW
  obtain ⟨p, q, hA, hV, hps, hfz, hnd⟩ := hW
  rw [hp] at hA
  rw [hv] at hV
  obtain ⟨rfl, rfl⟩ := trodVars_none hV
  simp only [List.append_nil] at hps
  subst hps
  have hA' : DataW.TrodAll enc P W 0 (fun _ => true) true ts args.toList ds before := by simpa using hA
  obtain ⟨hl1, hl2, dds, hl3, hrep⟩ := vals_rep (B := Bl (fun _ => False) (fun _ => none) fun _ => none) (fun b hb => by
      rcases hb with hb | ⟨_, _, _, hb, _⟩
      · exact hb
      · cases hb) ts args.toList ds before (fun t ht => (hok' t ht).2.2) (fun j t v hj hv' => hval j t v (by rw [hp]; simpa using hj) (by simpa using hv')) hA' hfz
  obtain ⟨_, _, _, hC⟩ := hcall dds hl3 fun j t dd hj hd => (hrep j t dd hj hd).1
  have hins : ∀ j, (dds.map In.imm)[j]? = (dds[j]?).map In.imm := fun j => List.getElem?_map
  have hinM : inM (dds.map In.imm) = fun _ => none := by
    funext i
    unfold inM
    rw [hins]
    cases dds[i]? <;> rfl
  have hmi : mutIdx (dds.map In.imm) = [] := by
    unfold mutIdx
    refine List.filter_eq_nil_iff.2 fun i _ => ?_
    rw [hins]
    cases dds[i]? <;> simp [In.isMut]
  have hsz : args.size = dds.length := by rw [hl3, ← hl1]; simp
  have hsim : Sim W (fun _ => False) [] (fun _ => none) (inS (dds.map In.imm) args.size) ⟨args, []⟩ W := by
    refine { size := rfl, defers := rfl, slot := fun i => ?_, ob := fun id o ho => ?_, inj := fun id id' o o' l l' b h1 => ?_, new := fun id o l h1 => ?_, fr := Fr.refl _ _ hT, lt := fun b h => h.elim, pm := ?_ }
    · show AvRep W (Bl _ _ (inM (dds.map In.imm))) _ (inM (dds.map In.imm)) (inT (dds.map In.imm) i) (args.getD i Go.undef)
      rw [hinM]
      unfold inT
      rw [hins]
      cases hd : dds[i]? with
      | none =>
        have : args.size ≤ i := by rw [hsz]; exact List.getElem?_eq_none_iff.1 hd
        show args.getD i Go.undef = Go.undef
        simp [Array.getD, Nat.not_lt.2 this]
      | some dd =>
        have hlt : i < ts.length := by rw [← hl3]; exact (List.getElem?_eq_some_iff.1 hd).1
        obtain ⟨_, v, hv', hr⟩ := hrep i _ dd (List.getElem?_eq_getElem hlt) hd
        have : args[i]? = some v := by simpa using hv'
        rw [Array.getD_eq_getD_getElem?, this]
        exact hr
    · have : inM (dds.map In.imm) id = some o := ho
      rw [hinM] at this; cases this
    · have : inM (dds.map In.imm) id = some o := h1
      rw [hinM] at this; cases this
    · have : inM (dds.map In.imm) id = some o := h1
      rw [hinM] at this; cases this
    · refine ⟨by rw [show (inS (dds.map In.imm) args.size).pm = [] from hmi]; rfl, fun i id h => ?_⟩
      rw [show (inS (dds.map In.imm) args.size).pm = [] from hmi] at h
      simp at h
  refine (hC W _ _ _ args hsim (by simp [hsz])).mono ?_
  rintro e W' ⟨vals, β', rfl, hs2⟩
  have hsz2 : vals.size = 1 := hs2.size
  have hv0 := hs2.slot 0
  have hv1 : vals.getD 0 Go.undef = .bool true := rep_bool hv0
  have hpack : packO false vals = .bool true := by show packR vals = _; unfold packR; rw [if_pos hsz2]; exact hv1
  show ∃ v, Ending.returned (packO false vals) = Ending.returned v ∧ _
  rw [hpack]
  have hb : Below W.heap.size W W' := ⟨hs2.fr.os, hs2.fr.tape, hs2.fr.output, hs2.fr.size, fun k hk => hs2.fr.blk k hk fun l hl => by cases hl⟩
  refine ⟨_, rfl, ?_⟩
  have hlt : ∀ p ∈ before, p.block < W.heap.size := fun p hp => hW'.lt p hp
  have hfn : s.fn H (ds ++ []) = { results := [.lit (.bool true)], args := ds } := by rw [List.append_nil]; exact hs ds hl2
  refine ⟨ds, [], before, [], before, [], hW', ?_, ?_, ?_, World.keptBut_mono (fun p hp => ⟨hp, .inr (.inl hp)⟩) (hb.frame (· ∈ before)), fun h => by cases h⟩
  · rw [hfn, hrt]
    exact trodAll_mk1 (shut_bool htb true)
  · rw [hfn, hp]
    exact args_stay hl hb ts _ _ _ (fun t ht => ⟨(hok' t ht).1, (hok' t ht).2.1⟩) hlt (fun p hp => by simpa using hlt p hp) hA'
  · rw [hfn, hv]
    exact rfl

end
end Go.Am

/-! The abstract machine, part 30: more rules for walks: elements of this call's own arrays, what is lent, results of several kinds. -/
namespace Go.Am
open Go

section
variable {P : Program} {T : TypeId → Option TI} {t : Nat → AV} {m : Nat → Option O} {ep n : Nat} {pm : List Nat}

/-- What is read of a row. -/
def rowPart (ti : TI) (r : List D) (off : Nat) (K : Eff → Prop) : Prop :=
  match ti.agg with
  | true => off + ti.size ≤ r.length ∧ K ⟨.imm (.agg ((r.drop off).take ti.size)), []⟩
  | false => match r[off]? with | some d => K ⟨.imm d, []⟩ | none => False

theorem go_loadEl {tt : TypeId} {K : Eff → Prop} {id i off : Nat} {ty : TypeId} {sz : Nat} {rows : List (List D)} {ti : TI} {x : AV} {r : List D} (hx : x = .eptr id i off) (hm : m id = some (.arr ty sz rows)) (hT : T tt = some ti)
    (hr : rows[i]? = some r) (h : rowPart ti r off K) : opLoad T m tt x K := by
  subst hx
  unfold opLoad
  simp only [hT, hm, hr]
  exact h

theorem go_storeEl {tt : TypeId} {K : Eff → Prop} {id i off : Nat} {ty : TypeId} {sz : Nat} {rows rows' : List (List D)} {ti : TI} {x v : AV} {ds r : List D} (hx : x = .eptr id i off) (hm : m id = some (.arr ty sz rows)) (hT : T tt = some ti)
    (hd : dcells m v = some (ds, [])) (hr : rows[i]? = some r) (hl : Nat.beq ds.length ti.size = true) (hl' : Nat.ble (off + ti.size) r.length = true) (hrows : rows.set i (setAt r off ds) = rows') (h : K ⟨.undef, [(id, .arr ty sz rows')]⟩) : opStore T m tt x v K := by
  subst hx hrows
  unfold opStore
  simp only [hT, hm, hd, hr]
  exact ⟨Nat.eq_of_beq_eq_true hl, Nat.le_of_ble_eq_true hl', by simp, h⟩

theorem set_at {α : Type} {rows : List α} {i : Nat} {r : α} (h : i < rows.length) : (rows.set i r)[i]? = some r := by simp [h]

/-- append of a plain list to an array of this call's own. -/
theorem go_appImm {o : Oper} {d : Nat} {tt e ty : TypeId} {a1 b1 : Nat} {z1 : List D} {te : TI} {x y : AV} {id len sz : Nat} {rows rows2 : List (List D)} {K : Eff → Prop} (ho : o.dst = some d) (hT : T tt = some ⟨.slice e, a1, b1, z1⟩) (hx : x = .own id 0 len) (hE : T e = some te)
    (hm : m id = some (.arr ty sz rows)) (hte : ty = e) (hsz : sz = te.size) (hf : m (nid ep d) = none) (hy : y = .imm (.list rows2))
    (hone : ∀ r ∈ rows2, r.length = te.size ∧ r.all D.one = true) (hb : Nat.ble te.bytes 65536 = true) (hlen : len = rows.length) (hbound : rows.length + rows2.length ≤ 1073741824)
    (hk : K ⟨.own (nid ep d) 0 (len + rows2.length), [(id, .gone), (nid ep d, .arr e te.size (rows ++ rows2))]⟩) : opAppend T m ep o tt x y K := by
  subst hx hy hte hsz hlen
  unfold opAppend
  simp only [ho, hT, hE, hm]
  have hb' : te.bytes ≤ 65536 := Nat.le_of_ble_eq_true hb
  have hmul : (rows.length + rows2.length) * te.bytes ≤ 1073741824 * 65536 := Nat.mul_le_mul hbound hb'
  refine ⟨trivial, trivial, by omega, hf, hone, by omega, by omega, ?_⟩
  rw [List.drop_zero]
  exact hk

theorem argsIn_lent {md : List Nat} {id len : Nat} {r : List AV} {ty : TypeId} {sz : Nat} {rows : List (List D)} {is : List In} {vs fs : List Nat} {gs : List (Option Nat)} (hm : m id = some (.arr ty sz rows)) (hl : len = rows.length)
    (hr : argsIn m md r = some (is, vs, fs, gs)) : argsIn m (2 :: md) (.own id 0 len :: r) = some (.arr ty sz rows :: is, vs, fs, some id :: gs) := by
  have h1 : argIn m 2 (.own id 0 len) = some (.arr ty sz rows, [], [], some id) := by
    show (match m id with | some (.arr ty sz rows) => if len = rows.length then some (In.arr ty sz rows, [], [], some id) else none | _ => none) = _
    rw [hm]
    simp [hl]
  simp only [argsIn, List.headD_cons, List.tail_cons, h1, hr, List.nil_append]

/-- A result, whatever it is. -/
theorem ret_all {fn : Func} {ins : List In} {out : Out} {avs : List AV} {σ : S} (hav : fn.results.toList.map (retAV T σ) = avs) (h1 : RetAll σ out.sep avs out.res) (h2 : (ownIds avs).Nodup) (h3 : σ.pm.Nodup)
    (h4 : MutsOk σ out (mutIdx ins) σ.pm) (ha : out.agg = false := by rfl) : retQ T fn ins out .ret σ := by
  subst hav
  exact ret_go ha ⟨h1, h2, h3, h4⟩

/-- A struct, some of whose cells are arrays that nobody else holds. -/
theorem ret_agg {fn : Func} {ins : List In} {out : Out} {rv : ResultVar} {l : List AV} {σ : S} (ha : out.agg = true) (hr : fn.results.toList = [rv]) (hv : retAV T σ rv = .mix l) (h1 : RetAll σ out.sep l out.res) (h2 : (ownIds l).Nodup) (h3 : σ.pm.Nodup)
    (h4 : MutsOk σ out (mutIdx ins) σ.pm) : retQ T fn ins out .ret σ := by
  show RetOk T fn ins out σ
  unfold RetOk
  rw [ha]
  exact ⟨rv, l, hr, hv, h1, h2, h3, h4⟩

theorem ret1_arr {σ : S} {sep : Bool} {id off len : Nat} {ty sz : Nat} {rows rows' : List (List D)} (hm : σ.m id = some (.arr ty sz rows')) (hd : (rows'.drop off).take len = rows) (hg : ∀ x ∈ rows, x.all D.gr = true) (hp : id ∉ σ.pm) :
    Ret1 σ sep (.own id off len) (.arr ty sz rows) := by
  subst hd
  simp only [Ret1, hm]
  exact ⟨trivial, trivial, trivial, fun _ => hg, hp⟩

theorem ret1_own' {σ : S} {sep : Bool} {id off len : Nat} {ty sz : Nat} {rows rows' : List (List D)} (hm : σ.m id = some (.arr ty sz rows')) (hd : (rows'.drop off).take len = rows) (hg : ∀ x ∈ rows, x.all D.gr = true) (hp : id ∉ σ.pm) :
    Ret1 σ sep (.own id off len) (.imm (.list rows)) := by
  subst hd
  simp only [Ret1, hm]
  exact ⟨trivial, fun _ => hg, hp⟩

theorem ret1_imm {σ : S} {sep : Bool} {d d' : D} (h : d' = d) (hg : d.gr' = true) : Ret1 σ sep (.imm d') (.imm d) := ⟨h, fun _ => hg⟩

/-- A result in an array of its own, and data. -/
theorem ret_arr2 {fn : Func} {ins : List In} {r1 r2 : ResultVar} {id off len ty sz : Nat} {rows rows' : List (List D)} {d d' : D} {σ : S} (hr : fn.results.toList = [r1, r2]) (hm : mutIdx ins = []) (hp : σ.pm = []) (hv : retAV T σ r1 = .own id off len)
    (hmm : σ.m id = some (.arr ty sz rows')) (hd : (rows'.drop off).take len = rows) (hg : ∀ x ∈ rows, x.all D.gr = true) (hv2 : retAV T σ r2 = .imm d') (hd2 : d' = d) (hg2 : d.gr' = true) :
    retQ T fn ins { res := [.arr ty sz rows, .imm d] } .ret σ := by
  refine ret_all (avs := [.own id off len, .imm d']) (by rw [hr]; simp only [List.map_cons, List.map_nil, hv, hv2]) ⟨ret1_arr hmm hd hg (by rw [hp]; simp), ret1_imm hd2 hg2, trivial⟩ (by simp [ownIds]) (by rw [hp]; exact List.nodup_nil) (by rw [hm, hp]; trivial)

theorem mutOk_arr0 {ty sz : Nat} {rows rows' : List (List D)} {ins : List In} {res : List R0} (h : ins.all (fun x => !x.isMut) = true) (hl : rows.length ≤ rows'.length) :
    MutOk (.arr ty sz rows :: ins) { res := res, muts := [.arr ty sz rows'] } := by
  intro i o hi
  cases i with
  | zero =>
    injection hi with hi
    subst hi
    exact ⟨.inr ⟨ty, rows', rfl, hl⟩, .inl ⟨ty, sz, rows', rfl⟩⟩
  | succ i =>
    have h := List.all_eq_true.1 h
    unfold inM at hi
    split at hi
    · rename_i hx; have := h _ (List.mem_of_getElem? (by simpa using hx)); cases this
    · rename_i hx; have := h _ (List.mem_of_getElem? (by simpa using hx)); cases this
    · rename_i hx; have := h _ (List.mem_of_getElem? (by simpa using hx)); cases this
    · cases hi

/-- The one lent array comes back, with data. -/
theorem ret_mut0 {fn : Func} {ty sz : Nat} {rows rows' : List (List D)} {ins : List In} {id : Nat} {rv : ResultVar} {d d' : D} {σ : S} (hr : fn.results.toList = [rv]) (hmi : mutIdx (.arr ty sz rows :: ins) = [0]) (hp : σ.pm = [id])
    (hv : retAV T σ rv = .imm d') (hd : d' = d) (hg : d.gr' = true) (hm : σ.m id = some (.arr ty sz rows')) (hgr : ∀ x ∈ rows', x.all D.gr = true) :
    retQ T fn (.arr ty sz rows :: ins) { res := [.imm d], muts := [.arr ty sz rows'] } .ret σ := by
  refine ret_all (avs := [.imm d']) (by rw [hr]; simp only [List.map_cons, List.map_nil, hv]) ⟨ret1_imm hd hg, trivial⟩ (by simp [ownIds]) (by rw [hp]; simp) ?_
  rw [hmi, hp]
  refine ⟨hm, fun _ => ?_, trivial⟩
  show (rows'.all fun r => r.all D.gr) = true
  exact List.all_eq_true.2 hgr

theorem str_at {s : ByteArray} {i : Nat} {b : UInt8} (h : s.data.toList[i]? = some b) : s[i]? = some b := by
  obtain ⟨hi, hb⟩ := List.getElem?_eq_some_iff.1 h
  have hi' : i < s.size := by rw [Array.length_toList] at hi; exact hi
  rw [getElem?_pos s i hi']
  congr 1

/-- A byte of a string. -/
theorem go_idxStr {tt : TypeId} {K : Eff → Prop} {kd : IntKind} {i : Int} {s : ByteArray} {b : UInt8} {a1 b1 : Nat} {z1 : List D} {x y : AV} (hx : x = .imm (.str s)) (hy : y = .imm (.int kd i)) (hT : T tt = some ⟨.str, a1, b1, z1⟩)
    (h0 : 0 ≤ i) (hb : s.data.toList[i.toNat]? = some b) (h : K ⟨.imm (.int .u8 (b.toNat : Int)), []⟩) : opIndex T tt x y K := by
  subst hx hy
  unfold opIndex
  simp only [hT]
  refine ⟨h0, ?_⟩
  rw [str_at hb]
  exact h

/-- opLoad, which may be opened. -/
def opLoadB (T : TypeId → Option TI) (m : Nat → Option O) (t : TypeId) (x : AV) (K : Eff → Prop) : Prop :=
  match T t with
  | none => False
  | some ti =>
    match x with
    | .imm (.ptr ds) =>
      match ti.agg with
      | true => ti.size ≤ ds.length ∧ K ⟨.imm (.agg (ds.take ti.size)), []⟩
      | false => match ds with | d :: _ => K ⟨.imm d, []⟩ | [] => False
    | .box id off =>
      match m id with
      | some (.box _ cells) =>
        match ti.agg with
        | true => off + ti.size ≤ cells.length ∧ match imms ((cells.drop off).take ti.size) with | some ds => K ⟨.imm (.agg ds), []⟩ | none => (match tvAgg ((cells.drop off).take ti.size) with | some (id, ds) => K ⟨.tv id (.agg ds), []⟩ | none => K ⟨.mix ((cells.drop off).take ti.size), []⟩)
        | false => match cells[off]? with | some (.tup _) => False | some av => K ⟨av, []⟩ | none => False
      | _ => False
    | .tv id (.ptr ds) =>
      match m id with
      | some (.reg c) =>
        match ti.agg with
        | true => c = true ∧ ti.size ≤ ds.length ∧ K ⟨.tv id (.agg (ds.take ti.size)), []⟩
        | false => match ds with | d :: _ => (c || d.lst) = true ∧ K ⟨tvAV id d, []⟩ | [] => False
      | _ => False
    | _ => False

theorem go_loadB {tt : TypeId} {x : AV} {K : Eff → Prop} (h : opLoadB T m tt x K) : opLoad T m tt x K := by
  unfold opLoad
  unfold opLoadB at h
  cases hT : T tt with
  | none => rw [hT] at h; exact h.elim
  | some ti =>
    rw [hT] at h
    simp only at h ⊢
    split at h <;> first | exact h | (exfalso; exact h)

/-- A list that turns into another, element by element. -/
def upto {α : Type} (ys xs : List α) (i : Nat) : List α := ys.take i ++ xs.drop i

theorem upto_0 {α : Type} (ys xs : List α) : upto ys xs 0 = xs := by simp [upto]
theorem upto_end {α : Type} {ys xs : List α} (h : ys.length = xs.length) {i : Nat} (hi : xs.length ≤ i) : upto ys xs i = ys := by
  unfold upto
  rw [List.take_of_length_le (by omega), List.drop_eq_nil_of_le hi, List.append_nil]
theorem upto_len {α : Type} {ys xs : List α} (h : ys.length = xs.length) (i : Nat) : (upto ys xs i).length = xs.length := by simp [upto]; omega
theorem upto_at {α : Type} {ys xs : List α} (h : ys.length = xs.length) {i : Nat} {x : α} (hx : xs[i]? = some x) : (upto ys xs i)[i]? = some x := by
  have hi := (List.getElem?_eq_some_iff.1 hx).1
  unfold upto
  rw [List.getElem?_append_right (by simp; omega), List.length_take, show i - min i ys.length = 0 from by omega, List.getElem?_drop]
  exact hx
theorem upto_set {α : Type} {ys xs : List α} (h : ys.length = xs.length) {i : Nat} {x y : α} (hx : xs[i]? = some x) (hy : ys[i]? = some y) : (upto ys xs i).set i y = upto ys xs (i + 1) := by
  have hi := (List.getElem?_eq_some_iff.1 hx).1
  unfold upto
  have hl : (ys.take i).length = i := by simp; omega
  rw [List.set_append_right _ _ (by omega), hl, Nat.sub_self, List.take_add_one, hy]
  have hd : xs.drop i = x :: xs.drop (i + 1) := by
    rw [List.drop_eq_getElem_cons hi]
    have := (List.getElem?_eq_some_iff.1 hx).2
    rw [this]
  rw [hd, List.set_cons_zero]
  simp

/-- A row of one number. -/
def intRow (x : Int) : List D := [.int .i64 x]
theorem int_gr (xs : List Int) : ∀ r ∈ xs.map intRow, r.all D.gr = true := by
  intro r hr
  obtain ⟨x, _, rfl⟩ := List.mem_map.1 hr
  rfl
theorem int_one (xs : List Int) : (xs.map intRow).all (fun r => r.all D.one) = true := by
  simp only [List.all_map, List.all_eq_true]
  intro v _
  rfl
theorem int_view (xs : List Int) : ((xs.map intRow).drop 0).take (xs.map intRow).length = xs.map intRow := by rw [List.drop_zero, List.take_length]

theorem str_self (s : ByteArray) : (s == s) = true := by rw [beq_toListBytes]; simp

theorem zip_self {α : Type} {f : α → α → Bool} (hf : ∀ x, f x x = true) : ∀ (xs : List α), ((xs.zip xs).all fun x => f x.1 x.2) = true
  | [] => rfl
  | x :: xs => by simp only [List.zip_cons_cons, List.all_cons, hf, zip_self hf xs, Bool.and_self]

/-- Numbers one after the other, as the machine counts them. -/
def nx (k : Int) : Int := IntKind.i64.wrap (k + 1)
def kAt (k : Int) : Nat → Int
  | 0 => k
  | j + 1 => nx (kAt k j)
theorem kAt_eq {k : Int} (h0 : 0 ≤ k) : ∀ j : Nat, k + j ≤ 9223372036854775807 → kAt k j = k + j
  | 0, _ => by simp [kAt]
  | j + 1, h => by
    have ih := kAt_eq h0 j (by omega)
    have hw : IntKind.i64.wrap (k + (j : Int) + 1) = k + (j : Int) + 1 := by simp only [IntKind.wrap, IntKind.bits, IntKind.signed]; simp; omega
    rw [kAt, ih, nx, hw]
    push_cast
    omega

end
end Go.Am

/-! The abstract machine, part 33: rules for slices of slices and of strings, with bounds that are not literals. -/
namespace Go.Am
open Go

section
variable {P : Program} {T : TypeId → Option TI} {t : Nat → AV} {m : Nat → Option O} {ep n : Nat} {pm : List Nat}

theorem go_sliceTo {tt e : TypeId} {K : Eff → Prop} {kd : IntKind} {id len k : Nat} {ty sz : Nat} {rows : List (List D)} {a1 b1 : Nat} {z1 : List D} {te : TI} {x h : AV} (hx : x = .own id 0 len) (hT : T tt = some ⟨.slice e, a1, b1, z1⟩) (hE : T e = some te)
    (hm : m id = some (.arr ty sz rows)) (hs : sz = te.size) (hh : h = .imm (.int kd (k : Nat))) (hk : k ≤ len) (hK : K ⟨.own id 0 k, []⟩) : opSlice T m tt x none (some h) none K := by
  subst hx hh
  unfold opSlice
  refine ⟨rfl, ?_⟩
  simp only [hT, hE, hm]
  refine ⟨hs, ?_⟩
  simp only [bnd]
  refine ⟨by omega, by omega, by omega, ?_⟩
  simpa using hK

theorem go_sliceFrom {tt e : TypeId} {K : Eff → Prop} {kd : IntKind} {id len k : Nat} {ty sz : Nat} {rows : List (List D)} {a1 b1 : Nat} {z1 : List D} {te : TI} {x h : AV} (hx : x = .own id 0 len) (hT : T tt = some ⟨.slice e, a1, b1, z1⟩) (hE : T e = some te)
    (hm : m id = some (.arr ty sz rows)) (hs : sz = te.size) (hh : h = .imm (.int kd (k : Nat))) (hk : k ≤ len) (hK : K ⟨.own id k (len - k), []⟩) : opSlice T m tt x (some h) none none K := by
  subst hx hh
  unfold opSlice
  refine ⟨rfl, ?_⟩
  simp only [hT, hE, hm]
  refine ⟨hs, ?_⟩
  simp only [bnd]
  refine ⟨by omega, by omega, by omega, ?_⟩
  simpa using hK

/-- A whole array variable as a slice: its cells are frozen. -/
theorem go_sliceArr {tt e : TypeId} {K : Eff → Prop} {id n : Nat} {ty : TypeId} {cells : List AV} {ds : List D} {a1 b1 : Nat} {z1 : List D} {te : TI} {x : AV} (hx : x = .box id 0) (hT : T tt = some ⟨.array n e, a1, b1, z1⟩) (hE : T e = some te)
    (hm : m id = some (.box ty cells)) (hn : Nat.ble 1 n = true) (hc : imms cells = some ds) (hl : Nat.beq ds.length (n * te.size) = true) (hK : K ⟨.imm (.list (chunk te.size ds n)), [(id, .gone)]⟩) : opSlice T m tt x none none none K := by
  subst hx
  unfold opSlice
  simp only [hT, hE, hm, hc]
  exact ⟨trivial, trivial, trivial, trivial, Nat.le_of_ble_eq_true hn, Nat.eq_of_beq_eq_true hl, hK⟩
theorem go_sliceToI {tt e : TypeId} {K : Eff → Prop} {kd : IntKind} {k : Nat} {rows : List (List D)} {a1 b1 : Nat} {z1 : List D} {te : TI} {x h : AV} (hx : x = .imm (.list rows)) (hT : T tt = some ⟨.slice e, a1, b1, z1⟩) (hE : T e = some te)
    (hs : ∀ r ∈ rows, r.length = te.size) (hh : h = .imm (.int kd (k : Nat))) (hk : k ≤ rows.length) (hK : K ⟨.imm (.list (rows.take k)), []⟩) : opSlice T m tt x none (some h) none K := by
  subst hx hh
  unfold opSlice
  refine ⟨rfl, ?_⟩
  simp only [hT, hE]
  refine ⟨hs, ?_⟩
  simp only [bnd]
  refine ⟨by omega, by omega, by omega, ?_⟩
  simpa using hK

theorem go_sliceFromI {tt e : TypeId} {K : Eff → Prop} {kd : IntKind} {k : Nat} {rows : List (List D)} {a1 b1 : Nat} {z1 : List D} {te : TI} {x h : AV} (hx : x = .imm (.list rows)) (hT : T tt = some ⟨.slice e, a1, b1, z1⟩) (hE : T e = some te)
    (hs : ∀ r ∈ rows, r.length = te.size) (hh : h = .imm (.int kd (k : Nat))) (hk : k ≤ rows.length) (hK : K ⟨.imm (.list (rows.drop k)), []⟩) : opSlice T m tt x (some h) none none K := by
  subst hx hh
  unfold opSlice
  refine ⟨rfl, ?_⟩
  simp only [hT, hE]
  refine ⟨hs, ?_⟩
  simp only [bnd]
  refine ⟨by omega, by omega, by omega, ?_⟩
  have : ((rows.drop k).take (rows.length - k)) = rows.drop k := List.take_of_length_le (by simp)
  simpa [this] using hK

/-- A part of a string. -/
theorem go_sliceStr {tt : TypeId} {K : Eff → Prop} {kd kd' : IntKind} {i j : Nat} {s : ByteArray} {a1 b1 : Nat} {z1 : List D} {x l h : AV} (hx : x = .imm (.str s)) (hT : T tt = some ⟨.str, a1, b1, z1⟩)
    (hl : l = .imm (.int kd (i : Nat))) (hh : h = .imm (.int kd' (j : Nat))) (hi : i ≤ j) (hj : j ≤ s.size) (hK : K ⟨.imm (.str (s.extract i j)), []⟩) : opSlice T m tt x (some l) (some h) none K := by
  subst hx hl hh
  unfold opSlice
  refine ⟨rfl, ?_⟩
  simp only [hT, bnd]
  refine ⟨by omega, by omega, by omega, ?_⟩
  simpa using hK
theorem go_sliceStrTo {tt : TypeId} {K : Eff → Prop} {kd' : IntKind} {j : Nat} {s : ByteArray} {a1 b1 : Nat} {z1 : List D} {x h : AV} (hx : x = .imm (.str s)) (hT : T tt = some ⟨.str, a1, b1, z1⟩)
    (hh : h = .imm (.int kd' (j : Nat))) (hj : j ≤ s.size) (hK : K ⟨.imm (.str (s.extract 0 j)), []⟩) : opSlice T m tt x none (some h) none K := by
  subst hx hh
  unfold opSlice
  refine ⟨rfl, ?_⟩
  simp only [hT, bnd]
  refine ⟨by omega, by omega, by omega, ?_⟩
  simpa using hK
theorem go_sliceStrFrom {tt : TypeId} {K : Eff → Prop} {kd : IntKind} {i : Nat} {s : ByteArray} {a1 b1 : Nat} {z1 : List D} {x l : AV} (hx : x = .imm (.str s)) (hT : T tt = some ⟨.str, a1, b1, z1⟩)
    (hl : l = .imm (.int kd (i : Nat))) (hi : i ≤ s.size) (hK : K ⟨.imm (.str (s.extract i s.size)), []⟩) : opSlice T m tt x (some l) none none K := by
  subst hx hl
  unfold opSlice
  refine ⟨rfl, ?_⟩
  simp only [hT, bnd]
  refine ⟨by omega, by omega, by omega, ?_⟩
  simpa using hK

/-- append of a part of another array of this call's own. -/
theorem go_appSl {o : Oper} {d : Nat} {tt e ty ty2 : TypeId} {a1 b1 : Nat} {z1 : List D} {te : TI} {x y : AV} {id id2 len off2 len2 sz sz2 : Nat} {rows rows2 rr : List (List D)} {K : Eff → Prop} (ho : o.dst = some d) (hT : T tt = some ⟨.slice e, a1, b1, z1⟩) (hx : x = .own id 0 len) (hE : T e = some te)
    (hm : m id = some (.arr ty sz rows)) (hte : ty = e) (hsz : sz = te.size) (hf : m (nid ep d) = none) (hy : y = .own id2 off2 len2) (hm2 : m id2 = some (.arr ty2 sz2 rows2)) (hs2 : sz2 = te.size) (hne : Nat.beq id2 id = false)
    (hl2 : off2 + len2 ≤ rows2.length) (hrr : (rows2.drop off2).take len2 = rr) (hone : ∀ r ∈ rr, r.all D.one = true) (hb : Nat.ble te.bytes 65536 = true) (hlen : len = rows.length) (hbound : len + len2 ≤ 1073741824)
    (hk : K ⟨.own (nid ep d) 0 (len + len2), [(id, .gone), (nid ep d, .arr e te.size (rows ++ rr))]⟩) : opAppend T m ep o tt x y K := by
  subst hx hy hte hsz hlen hrr
  unfold opAppend
  simp only [ho, hT, hE, hm, hm2]
  have hb' : te.bytes ≤ 65536 := Nat.le_of_ble_eq_true hb
  have hmul : (rows.length + len2) * te.bytes ≤ 1073741824 * 65536 := Nat.mul_le_mul hbound hb'
  have hneq : id2 ≠ id := fun h => by subst h; rw [Nat.beq_refl] at hne; cases hne
  refine ⟨trivial, trivial, by omega, hf, hs2, hl2, hneq, hone, by omega, by omega, ?_⟩
  rw [List.drop_zero]
  exact hk

theorem go_idxOwnI {tt : TypeId} {K : Eff → Prop} {kd : IntKind} {i : Int} {j id len : Nat} {e ty : TypeId} {sz : Nat} {rows : List (List D)} {a1 b1 : Nat} {z1 : List D} {te : TI} {x y : AV} (hx : x = .own id 0 len) (hy : y = .imm (.int kd i)) (hij : i = (j : Nat)) (hT : T tt = some ⟨.slice e, a1, b1, z1⟩) (hE : T e = some te)
    (hm : m id = some (.arr ty sz rows)) (hs : sz = te.size) (hi : j < len) (h : K ⟨.eptr id j 0, []⟩) : opIndexAddr T m tt x y K := by
  subst hij
  exact go_idxOwn hx hy hT hE hm hs hi h

def setE : List Eff → Nat → Eff → (List Eff → Prop) → Prop
  | [], _, _, K => K []
  | _ :: as, 0, e, K => K (e :: as)
  | a :: as, g + 1, e, K => setE as g e fun l => K (a :: l)
theorem setE_eq : ∀ (acc : List Eff) (g : Nat) (e : Eff) (K : List Eff → Prop), setE acc g e K = K (acc.set g e)
  | [], _, _, _ => rfl
  | _ :: _, 0, _, _ => rfl
  | a :: as, g + 1, e, K => by unfold setE; exact setE_eq as g e _

/-- A guard that is no literal: both ways. -/
theorem go_dsplit2 {l : List Oper} {rest : List Oper} {acc : List Eff} {kk : List Eff → Prop} {dst : Option Nat} {op : Op} {ty : TypeId} {pos : String} {after : Array Edge} {g : Nat} {want b : Bool} (hb : acc.getD g ⟨.dead, []⟩ = ⟨.imm (.bool b), []⟩)
    (h1 : b = true → setE acc g ⟨.imm (.bool true), []⟩ fun acc' => amDraw P T l t m ep kk (⟨dst, op, ty, pos, after, some (g, want)⟩ :: rest) acc')
    (h2 : b = false → setE acc g ⟨.imm (.bool false), []⟩ fun acc' => amDraw P T l t m ep kk (⟨dst, op, ty, pos, after, some (g, want)⟩ :: rest) acc') :
    amDraw P T l t m ep kk (⟨dst, op, ty, pos, after, some (g, want)⟩ :: rest) acc := by
  have hself : acc.set g ⟨.imm (.bool b), []⟩ = acc := by
    have hg : g < acc.length := by
      rcases Nat.lt_or_ge g acc.length with h | h
      · exact h
      · rw [List.getD_eq_getElem?_getD, List.getElem?_eq_none h] at hb
        simp at hb
    rw [List.getD_eq_getElem?_getD, List.getElem?_eq_getElem hg, Option.getD_some] at hb
    rw [← hb]
    exact List.set_getElem_self hg
  cases b with
  | true => have := h1 rfl; rw [setE_eq, hself] at this; exact this
  | false => have := h2 rfl; rw [setE_eq, hself] at this; exact this

/-- The one lent array comes back, with two data. -/
theorem ret_mut2 {fn : Func} {ty sz : Nat} {rows rows' : List (List D)} {ins : List In} {id : Nat} {r1 r2 : ResultVar} {a a' b b' : D} {σ : S} (hr : fn.results.toList = [r1, r2]) (hmi : mutIdx (.arr ty sz rows :: ins) = [0]) (hp : σ.pm = [id])
    (hv1 : retAV T σ r1 = .imm a') (hv2 : retAV T σ r2 = .imm b') (ha : a' = a) (hb : b' = b) (hg : [a, b].all D.gr' = true) (hm : σ.m id = some (.arr ty sz rows')) (hgr : ∀ x ∈ rows', x.all D.gr = true) :
    retQ T fn (.arr ty sz rows :: ins) { res := [.imm a, .imm b], muts := [.arr ty sz rows'] } .ret σ := by
  simp only [List.all_cons, List.all_nil, Bool.and_true, Bool.and_eq_true] at hg
  refine ret_all (avs := [.imm a', .imm b']) (by rw [hr]; simp only [List.map_cons, List.map_nil, hv1, hv2]) ⟨ret1_imm ha hg.1, ret1_imm hb hg.2, trivial⟩ (by simp [ownIds]) (by rw [hp]; simp) ?_
  rw [hmi, hp]
  refine ⟨hm, fun _ => ?_, trivial⟩
  show (rows'.all fun r => r.all D.gr) = true
  exact List.all_eq_true.2 hgr

end
end Go.Am

/-! The abstract machine, part 34: rules for a variable that is lent, and for elements of array values. -/
namespace Go.Am
open Go

section
variable {P : Program} {T : TypeId → Option TI} {t : Nat → AV} {m : Nat → Option O} {ep n : Nat} {pm : List Nat}

theorem imms_map : ∀ (ds : List D), imms (ds.map .imm) = some ds
  | [] => rfl
  | d :: ds => by simp only [List.map_cons, imms, imms_map ds, Option.map_some]

theorem mutOk_box0 {ty : TypeId} {ds ds' : List D} {ins : List In} {res : List R0} {sep : Bool} (h : ins.all (fun x => !x.isMut) = true) :
    MutOk (.box ty ds :: ins) { res := res, muts := [.box ty (ds'.map .imm)], sep := sep } := by
  intro i o hi
  cases i with
  | zero =>
    injection hi with hi
    subst hi
    exact ⟨.inr ⟨ty, ds'.map .imm, rfl⟩, .inr (.inl ⟨ty, ds', rfl⟩)⟩
  | succ i =>
    have h := List.all_eq_true.1 h
    unfold inM at hi
    split at hi
    · rename_i hx; have := h _ (List.mem_of_getElem? (by simpa using hx)); cases this
    · rename_i hx; have := h _ (List.mem_of_getElem? (by simpa using hx)); cases this
    · rename_i hx; have := h _ (List.mem_of_getElem? (by simpa using hx)); cases this
    · cases hi

theorem argsIn_box {md : List Nat} {id : Nat} {r : List AV} {ty : TypeId} {ds : List D} {is : List In} {vs fs : List Nat} {gs : List (Option Nat)} (hm : m id = some (.box ty (ds.map .imm)))
    (hr : argsIn m md r = some (is, vs, fs, gs)) : argsIn m (2 :: md) (.box id 0 :: r) = some (.box ty ds :: is, vs, fs, some id :: gs) := by
  have h1 : argIn m 2 (.box id 0) = some (.box ty ds, [], [], some id) := by
    show (match m id with | some (.box ty cells) => (match imms cells with | some ds => some (In.box ty ds, [], [], some id) | none => none) | _ => none) = _
    rw [hm]
    simp only [imms_map]
  simp only [argsIn, List.headD_cons, List.tail_cons, h1, hr, List.nil_append]

/-- The one lent variable comes back, with data. -/
theorem ret_box1 {fn : Func} {ty : TypeId} {ds ds' : List D} {ins : List In} {id : Nat} {rv : ResultVar} {d d' : D} {σ : S} (hr : fn.results.toList = [rv]) (hmi : mutIdx (.box ty ds :: ins) = [0]) (hp : σ.pm = [id])
    (hv : retAV T σ rv = .imm d') (hd : d' = d) (hm : σ.m id = some (.box ty (ds'.map .imm))) :
    retQ T fn (.box ty ds :: ins) { res := [.imm d], muts := [.box ty (ds'.map .imm)], sep := false } .ret σ := by
  refine ret_all (avs := [.imm d']) (by rw [hr]; simp only [List.map_cons, List.map_nil, hv]) ⟨⟨hd, fun e => by cases e⟩, trivial⟩ (by simp [ownIds]) (by rw [hp]; simp) ?_
  rw [hmi, hp]
  exact ⟨hm, fun e => (by cases e), trivial⟩

theorem go_idxArr {tt e : TypeId} {K : Eff → Prop} {kd : IntKind} {i : Int} {len a1 b1 : Nat} {z1 : List D} {te : TI} {x y : AV} {ds : List D} {d : D} (hx : x = .imm (.agg ds)) (hy : y = .imm (.int kd i)) (hT : T tt = some ⟨.array len e, a1, b1, z1⟩) (hE : T e = some te)
    (h0 : 0 ≤ i) (h1 : i < len) (ha : te.agg = false) (hd : ds[i.toNat * te.size]? = some d) (h : K ⟨.imm d, []⟩) : opIndex T tt x y K := by
  subst hx hy
  unfold opIndex
  simp only [hT, hE, ha]
  refine ⟨h0, h1, ?_⟩
  rw [hd]
  exact h

end
end Go.Am

/-! The abstract machine, part 38: texts as lists of bytes. -/
namespace Go.Am
open Go

/-- The text of some bytes. -/
def ofL (l : List UInt8) : ByteArray := ⟨⟨l⟩⟩
theorem ofL_size (l : List UInt8) : (ofL l).size = l.length := rfl
theorem ofL_of (s : ByteArray) : ofL s.data.toList = s := rfl
theorem byteL {l : List UInt8} {i : Nat} {b : UInt8} (h : l[i]? = some b) : (ofL l).data.toList[((i : Nat) : Int).toNat]? = some b := h
theorem beqL (a b : List UInt8) : (ofL a == ofL b) = decide (a = b) := by
  rw [beq_toListBytes, ByteArray.toList_eq, ByteArray.toList_eq, Bool.eq_iff_iff]
  simp only [beq_iff_eq, decide_eq_true_eq]
  exact Iff.rfl
theorem ofL_app (a b : List UInt8) : ofL a ++ ofL b = ofL (a ++ b) := by
  apply ByteArray.ext
  rw [ByteArray.data_append]
  simp [ofL]
theorem ofL_ext (l : List UInt8) (i j : Nat) : (ofL l).extract i j = ofL ((l.drop i).take (j - i)) := by
  apply ByteArray.ext
  rw [ByteArray.data_extract]
  simp [ofL]

def bndV (x : Option AV) (dflt : Int) : Option Int :=
  match x with
  | none => some dflt
  | some (.imm (.int _ n)) => some n
  | _ => none
theorem bnd_of {x : Option AV} {dflt n : Int} {K : Int → Prop} (h : bndV x dflt = some n) (hk : K n) : bnd x dflt K := by
  unfold bndV at h
  split at h
  · injection h with h; subst h; exact hk
  · injection h with h; subst h; exact hk
  · cases h

section
variable {T : TypeId → Option TI} {m : Nat → Option O}
theorem go_sliceL {tt : TypeId} {K : Eff → Prop} {x : AV} {lo hi : Option AV} {a1 b1 : Nat} {z1 : List D} {l : List UInt8} (i j : Nat) (hx : x = .imm (.str (ofL l))) (hT : T tt = some ⟨.str, a1, b1, z1⟩)
    (hl : bndV lo 0 = some ((i : Nat) : Int)) (hh : bndV hi ((ofL l).size : Int) = some ((j : Nat) : Int)) (h1 : i ≤ j) (h2 : j ≤ l.length) (hk : K ⟨.imm (.str (ofL ((l.drop i).take (j - i)))), []⟩) : opSlice T m tt x lo hi none K := by
  subst hx
  unfold opSlice
  refine ⟨rfl, ?_⟩
  simp only [hT]
  refine bnd_of hl (bnd_of hh ⟨by omega, by omega, by rw [ofL_size]; omega, ?_⟩)
  rw [ofL_ext]
  exact hk
end
end Go.Am

/-! The abstract machine, part 39: more ways in which a call comes back. -/
namespace Go.Am
open Go
theorem wavs_imm {ρ : Nat → Nat} {m1 : Nat → Option O} : ∀ (ds : List D), WAVs ρ m1 (ds.map .imm) (ds.map .imm)
  | [] => trivial
  | _ :: ds => ⟨rfl, wavs_imm ds⟩

section
variable {T : TypeId → Option TI} {m : Nat → Option O}
/-- An array of its own, and one that is only read from now on. -/
theorem ret_arrown {fn : Func} {ins : List In} {r1 r2 : ResultVar} {id off len ty sz id2 off2 len2 ty2 sz2 : Nat} {rows rows' rows2 rows2' : List (List D)} {σ : S} (hr : fn.results.toList = [r1, r2]) (hm : mutIdx ins = []) (hp : σ.pm = [])
    (hv : retAV T σ r1 = .own id off len) (hmm : σ.m id = some (.arr ty sz rows')) (hd : (rows'.drop off).take len = rows) (hg : ∀ x ∈ rows, x.all D.gr = true)
    (hv2 : retAV T σ r2 = .own id2 off2 len2) (hmm2 : σ.m id2 = some (.arr ty2 sz2 rows2')) (hd2 : (rows2'.drop off2).take len2 = rows2) (hg2 : ∀ x ∈ rows2, x.all D.gr = true) (hne : Nat.beq id id2 = false) :
    retQ T fn ins { res := [.arr ty sz rows, .imm (.list rows2)] } .ret σ := by
  have hneq : id ≠ id2 := fun h => by subst h; rw [Nat.beq_refl] at hne; cases hne
  exact ret_all (avs := [.own id off len, .own id2 off2 len2]) (by rw [hr]; simp only [List.map_cons, List.map_nil, hv, hv2]) ⟨ret1_arr hmm hd hg (by rw [hp]; simp), ret1_own' hmm2 hd2 hg2 (by rw [hp]; simp), trivial⟩
    (by simp [ownIds, hneq]) (by rw [hp]; exact List.nodup_nil) (by rw [hm, hp]; trivial)

/-- Data of any kind come back, memory perhaps shared with what came in. -/
theorem ret_immN {fn : Func} {ins : List In} {rv : ResultVar} {d d' : D} {σ : S} (hr : fn.results.toList = [rv]) (hm : mutIdx ins = []) (hp : σ.pm = []) (hv : retAV T σ rv = .imm d') (hd : d' = d) : retQ T fn ins { res := [.imm d], sep := false } .ret σ := by
  exact ret_all (avs := [.imm d']) (by rw [hr]; simp only [List.map_cons, List.map_nil, hv]) ⟨⟨hd, fun e => by cases e⟩, trivial⟩ (by simp [ownIds]) (by rw [hp]; exact List.nodup_nil) (by rw [hm, hp]; trivial)
theorem ret_ownN {fn : Func} {ins : List In} {rv : ResultVar} {id off len ty sz : Nat} {rows rows' : List (List D)} {σ : S} (hr : fn.results.toList = [rv]) (hm : mutIdx ins = []) (hp : σ.pm = []) (hv : retAV T σ rv = .own id off len) (hmm : σ.m id = some (.arr ty sz rows'))
    (hd : (rows'.drop off).take len = rows) : retQ T fn ins { res := [.imm (.list rows)], sep := false } .ret σ := by
  subst hd
  refine ret_all (avs := [.own id off len]) (by rw [hr]; simp only [List.map_cons, List.map_nil, hv]) ⟨?_, trivial⟩ (by simp [ownIds]) (by rw [hp]; exact List.nodup_nil) (by rw [hm, hp]; trivial)
  simp only [Ret1, hmm]
  exact ⟨trivial, (fun e => by cases e), by rw [hp]; simp⟩

/-- A part of a text, named. -/
theorem go_sliceR {tt : TypeId} {K : Eff → Prop} {x : AV} {lo hi : Option AV} {a1 b1 : Nat} {z1 : List D} {l : List UInt8} (i j : Nat) (r : List UInt8) (hx : x = .imm (.str (ofL l))) (hT : T tt = some ⟨.str, a1, b1, z1⟩)
    (hl : bndV lo 0 = some ((i : Nat) : Int)) (hh : bndV hi ((ofL l).size : Int) = some ((j : Nat) : Int)) (h1 : i ≤ j) (h2 : j ≤ l.length) (hr : (l.drop i).take (j - i) = r) (hk : K ⟨.imm (.str (ofL r)), []⟩) : opSlice T m tt x lo hi none K := by
  subst hr
  exact go_sliceL i j hx hT hl hh h1 h2 hk
end
end Go.Am

/-! The abstract machine, part 40: the package variables that a row lists are where the machine reads them. -/
namespace Go.Am
open Go

theorem laid_tail {P : Program} {x : String × DataW Unit} {r : List (String × DataW Unit)} {w : World} (h : laidMet P (x :: r) w) : laidMet P r w := by
  obtain ⟨ps, ⟨g, t, cs, fuel, p, q, _, _, _, _, h5, rfl⟩, hn, hc⟩ := h
  exact ⟨q, h5, (List.nodup_append.1 hn).2.1, fun b off hb => hc b off (List.mem_append_right _ hb)⟩

/-- A table's block holds its cells. -/
theorem tab_block {P : Program} {W : World} {name : String} {k : IntKind} {zs : List Int} {g : Nat} (hg : P.globalNamed name = some g) (h : Lib.TabIs P W name k zs) : ∃ ty fz, W.heap[g]? = some (.cells (zs.map fun z => Value.int k z).toArray ty fz) := by
  unfold Lib.TabIs World.var? at h
  rw [hg] at h
  have h' : (match W.heap[g]? with | some (.cells cs _ _) => some cs | _ => none) = some (zs.map fun z => Value.int k z).toArray := h
  split at h'
  · rename_i cs ty fz e
    injection h' with h'
    subst h'
    exact ⟨ty, fz, e⟩
  · cases h'
end Go.Am


