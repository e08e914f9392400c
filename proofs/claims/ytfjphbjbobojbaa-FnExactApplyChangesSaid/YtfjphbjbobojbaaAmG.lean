/- The abstract machine: a result that is a new array, from the model's own run; slices.Grow of nothing. -/
import Derived.Test.YtfjphbjbobojbaaAmC
import Derived.Shelf.Spec.SlicesGrow
import Derived.Laws.AppendOwn
/-! A function that hands back an array in a block of its own (or nothing at all): what was lent is gone. -/
namespace Go.Am
set_option maxRecDepth 20000
open Go Go.Proofs Go.Shelf Go.RowKit

theorem rep_gr1 {w : World} {B : Nat → Prop} {d : D} {v : Value} (h : Rep w B v d) (hg : d.gr = true) {w' : World} {B' : Nat → Prop} : Rep w' B' v d := by
  cases h with
  | int k n => exact .int k n
  | bool b => exact .bool b
  | str s => exact .str s
  | other v => exact .other v
  | nil a c => exact .nil a c
  | list ad n c rows sz g hn =>
    cases rows with
    | nil => subst hn; exact .nil _ _
    | cons r rs => cases hg
  | agg vs ds hs hj => cases hg
  | fn f vs ds hs hj => cases hg
  | ptr ad ds g hb => cases hg

theorem sim_newArr {w w' : World} {A : Nat → Prop} {locs : List (Option Loc)} {β : Nat → Option Loc} {ins : List In} {a : Act} {n0 : Nat} (h : Sim w A locs β (inS ins n0) a w) (hl : ins.length ≤ 1000) {e sz : Nat} {rows : List (List D)} {sep : Bool}
    (hfr : Fr w locs w') (hr0 : ∀ r ∈ rows, r.length = sz) (hp : 0 < sz) (hgr : ∀ r ∈ rows, r.all D.gr = true) {v : Value}
    (hv : (rows = [] ∧ v = .slice none 0 0) ∨ ∃ (tot : Nat) (cs : Array Value), v = .slice (some ⟨w.heap.size, 0, none⟩) rows.length tot ∧ w.heap.size < w'.heap.size ∧ w'.heap[w.heap.size]? = some (.cells cs e (0, 0)) ∧ cs.size = tot * sz ∧ rows.length ≤ tot ∧ tot ≤ maxLen ∧
      ∀ (j : Nat) (d : D), rows.flatten[j]? = some d → ∃ B, Rep w' B (cs.getD j Go.undef) d) :
    ∃ β', Sim w (sepA w A locs sep) locs β' (outS ins { res := [.arr e sz rows], sep := sep }) ⟨#[v], []⟩ w' := by
  obtain ⟨lo, hlo⟩ : ∃ lo : Option Loc, (lo = none ∧ rows = [] ∧ v = .slice none 0 0) ∨ ∃ (tot : Nat) (cs : Array Value), lo = some ⟨w.heap.size, 0, tot, none⟩ ∧ v = .slice (some ⟨w.heap.size, 0, none⟩) rows.length tot ∧ w.heap.size < w'.heap.size ∧ w'.heap[w.heap.size]? = some (.cells cs e (0, 0)) ∧ cs.size = tot * sz ∧ rows.length ≤ tot ∧ tot ≤ maxLen ∧
      ∀ (j : Nat) (d : D), rows.flatten[j]? = some d → ∃ B, Rep w' B (cs.getD j Go.undef) d := by
    rcases hv with ⟨h1, h2⟩ | ⟨tot, cs, h1⟩
    · exact ⟨none, .inl ⟨rfl, h1, h2⟩⟩
    · exact ⟨_, .inr ⟨tot, cs, rfl, h1⟩⟩
  clear hv
  obtain ⟨β', hβ0, hβ1⟩ : ∃ β' : Nat → Option Loc, β' 1000 = lo ∧ ∀ id, id ≠ 1000 → β' id = β id := ⟨fun id => if id = 1000 then lo else β id, if_pos rfl, fun id h => if_neg h⟩
  obtain ⟨out, hout⟩ : ∃ out : Out, out = { res := [.arr e sz rows], sep := sep } := ⟨_, rfl⟩
  rw [← hout]
  have hores : out.res = [.arr e sz rows] := by rw [hout]
  have homut : out.muts = [] := by rw [hout]
  have hosep : out.sep = sep := by rw [hout]
  have hm0 : outM ins out 1000 = some (.arr e sz rows) := by simp [outM, hores]
  have hm1 : ∀ id o, outM ins out id = some o → o.live = true → id = 1000 ∧ o = .arr e sz rows := by
    intro id o ho hlive
    unfold outM at ho
    split at ho
    · exfalso
      split at ho
      all_goals first | (simp [homut] at ho; subst ho; cases hlive) | cases ho
    · rename_i hge
      cases hk : id - 1000 with
      | zero => rw [hk] at ho; simp [hores] at ho; exact ⟨by omega, ho.symm⟩
      | succ k => rw [hk] at ho; simp [hores] at ho
  have hpmlt : ∀ (i id : Nat), (mutIdx ins)[i]? = some id → id < 1000 ∧ ∃ x, ins[id]? = some x ∧ x.isMut = true := by
    intro i id hi
    have := List.mem_of_getElem? hi
    unfold mutIdx at this
    rw [List.mem_filter, List.mem_range] at this
    obtain ⟨h1, h2⟩ := this
    refine ⟨by omega, ins[id], List.getElem?_eq_getElem h1, ?_⟩
    simpa [List.getElem?_eq_getElem h1] using h2
  refine ⟨β', { size := by show 1 = out.res.length; rw [hores]; rfl, defers := rfl, slot := fun i => ?_, ob := fun id o ho => ?_, inj := fun id id' o o' l l' b h1 h2 h3 h4 h5 h6 h7 h8 => ?_, new := fun id o l h1 h2 h3 b hb => ?_, fr := hfr, lt := ?_, pm := ?_ }⟩
  · cases i with
    | zero =>
      have e0 : (outS ins out).t 0 = .own 1000 0 rows.length := by
        show outT out 0 = _
        unfold outT
        rw [hores]
        rfl
      rw [e0]
      show AvRep w' _ β' (outM ins out) (.own 1000 0 rows.length) v
      simp only [AvRep, AvRep0, hm0]
      refine ⟨by omega, ?_⟩
      rcases hlo with ⟨hl, _, rfl⟩ | ⟨tot, cs, hl, rfl, _⟩
      · exact .inl ⟨hβ0.trans hl, rfl⟩
      · exact .inr ⟨_, _, hβ0.trans hl, rfl, Nat.zero_le _, fun _ => by simp⟩
    | succ i =>
      have e0 : (outS ins out).t (i + 1) = .undef := by
        show outT out (i + 1) = _
        unfold outT
        rw [hores]
        rfl
      rw [e0]
      rfl
  · cases hlive : o.live with
    | false =>
      cases o with
      | gone => trivial
      | arr ty sz rows => cases hlive
      | box ty cells => cases hlive
      | reg c => cases hlive
      | cel sz rows => cases hlive
      | ext I => cases hlive
    | true =>
      obtain ⟨rfl, rfl⟩ := hm1 id o ho hlive
      refine ⟨hr0, hp, ?_⟩
      rcases hlo with ⟨hl, h1, _⟩ | ⟨tot, cs, hl, rfl, h1, h2, h3, h4, h5, h6⟩
      · exact .inl ⟨hβ0.trans hl, h1⟩
      · refine .inr ⟨_, cs, hβ0.trans hl, h2, by simpa using h3, h4, h5, fun j d hj => ?_⟩
        obtain ⟨B, hr⟩ := h6 j d hj
        obtain ⟨r, hr1, hr2⟩ := List.mem_flatten.1 (List.mem_of_getElem? hj)
        have hg : d.gr = true := (List.all_eq_true.1 (hgr r hr1)) d hr2
        simpa using rep_gr1 hr hg
  · obtain ⟨rfl, _⟩ := hm1 id o h1 h2
    exact (hm1 id' o' h4 h5).1.symm
  · obtain ⟨rfl, _⟩ := hm1 id o h1 h2
    rw [hβ0] at h3
    rcases hlo with ⟨hl, _⟩ | ⟨tot, cs, hl, rfl, e3, _⟩
    · rw [hl] at h3; cases h3
    rw [hl] at h3
    injection h3 with h3
    subst h3
    have hb' := Loc.has_none rfl hb
    simp only at hb'
    subst hb'
    refine ⟨e3, ?_, .inl (Nat.le_refl _)⟩
    rintro (hA | ⟨_, hlt, _⟩)
    · exact absurd (h.lt _ hA) (Nat.lt_irrefl _)
    · exact absurd hlt (Nat.lt_irrefl _)
  · rintro b (hA | ⟨_, hb, _⟩)
    · exact Nat.lt_of_lt_of_le (h.lt b hA) hfr.size
    · exact Nat.lt_of_lt_of_le hb hfr.size
  · refine ⟨h.pm.1, fun i id hi => ?_⟩
    obtain ⟨h1, x, h2, h3⟩ := hpmlt i id hi
    obtain ⟨h4, o, h5⟩ := h.pm.2 i id hi
    refine ⟨by rw [hβ1 id (by omega)]; exact h4, ?_⟩
    show ∃ o, outM ins out id = some o
    unfold outM
    rw [if_pos h1, h2]
    cases x with
    | imm d => cases h3
    | _ => exact ⟨_, rfl⟩

end Go.Am

