/- The abstract machine: a result that is a new array, from the model's own run; slices.Grow of nothing. -/
import Derived.Test.YtcfhmncbfekoaaaGreatDoorAmC
import Derived.Shelf.Spec.SlicesGrow
import Derived.Laws.AppendOwn
/-! A function that hands back an array in a block of its own (or nothing at all): what was lent is gone. -/
namespace Go.Am
set_option maxRecDepth 20000
open Go Go.Proofs Go.Shelf Go.RowKit

theorem rep_gr1 {w : World} {B : Nat → Prop} {d : D} {v : Value} (h : Rep w B v d) (hg : d.gr = true) {w' : World} {B' : Nat → Prop} : Rep w' B' v d := by
  cases h with
  | int k n => exact .int k n
  | bool b => exact .bool b
  | str s => exact .str s
  | other v => exact .other v
  | nil a c => exact .nil a c
  | list ad n c rows sz g hn =>
    cases rows with
    | nil => subst hn; exact .nil _ _
    | cons r rs => cases hg
  | agg vs ds hs hj => cases hg
  | fn f vs ds hs hj => cases hg
  | ptr ad ds g hb => cases hg

theorem sim_newArr {w w' : World} {A : Nat → Prop} {locs : List (Option Loc)} {β : Nat → Option Loc} {ins : List In} {a : Act} {n0 : Nat} (h : Sim w A locs β (inS ins n0) a w) (hl : ins.length ≤ 1000) {e sz : Nat} {rows : List (List D)} {sep : Bool}
    (hfr : Fr w locs w') (hr0 : ∀ r ∈ rows, r.length = sz) (hp : 0 < sz) (hgr : ∀ r ∈ rows, r.all D.gr = true) {v : Value}
    (hv : (rows = [] ∧ v = .slice none 0 0) ∨ ∃ (tot : Nat) (cs : Array Value), v = .slice (some ⟨w.heap.size, 0, none⟩) rows.length tot ∧ w.heap.size < w'.heap.size ∧ w'.heap[w.heap.size]? = some (.cells cs e (0, 0)) ∧ cs.size = tot * sz ∧ rows.length ≤ tot ∧ tot ≤ maxLen ∧
      ∀ (j : Nat) (d : D), rows.flatten[j]? = some d → ∃ B, Rep w' B (cs.getD j Go.undef) d) :
    ∃ β', Sim w (sepA w A locs sep) locs β' (outS ins { res := [.arr e sz rows], sep := sep }) ⟨#[v], []⟩ w' := by
  obtain ⟨lo, hlo⟩ : ∃ lo : Option Loc, (lo = none ∧ rows = [] ∧ v = .slice none 0 0) ∨ ∃ (tot : Nat) (cs : Array Value), lo = some ⟨w.heap.size, 0, tot, none⟩ ∧ v = .slice (some ⟨w.heap.size, 0, none⟩) rows.length tot ∧ w.heap.size < w'.heap.size ∧ w'.heap[w.heap.size]? = some (.cells cs e (0, 0)) ∧ cs.size = tot * sz ∧ rows.length ≤ tot ∧ tot ≤ maxLen ∧
      ∀ (j : Nat) (d : D), rows.flatten[j]? = some d → ∃ B, Rep w' B (cs.getD j Go.undef) d := by
    rcases hv with ⟨h1, h2⟩ | ⟨tot, cs, h1⟩
    · exact ⟨none, .inl ⟨rfl, h1, h2⟩⟩
    · exact ⟨_, .inr ⟨tot, cs, rfl, h1⟩⟩
  clear hv
  obtain ⟨β', hβ0, hβ1⟩ : ∃ β' : Nat → Option Loc, β' 1000 = lo ∧ ∀ id, id ≠ 1000 → β' id = β id := ⟨fun id => if id = 1000 then lo else β id, if_pos rfl, fun id h => if_neg h⟩
  obtain ⟨out, hout⟩ : ∃ out : Out, out = { res := [.arr e sz rows], sep := sep } := ⟨_, rfl⟩
  rw [← hout]
  have hores : out.res = [.arr e sz rows] := by rw [hout]
  have homut : out.muts = [] := by rw [hout]
  have hosep : out.sep = sep := by rw [hout]
  have hm0 : outM ins out 1000 = some (.arr e sz rows) := by simp [outM, hores]
  have hm1 : ∀ id o, outM ins out id = some o → o.live = true → id = 1000 ∧ o = .arr e sz rows := by
    intro id o ho hlive
    unfold outM at ho
    split at ho
    · exfalso
      split at ho
      all_goals first | (simp [homut] at ho; subst ho; cases hlive) | cases ho
    · rename_i hge
      cases hk : id - 1000 with
      | zero => rw [hk] at ho; simp [hores] at ho; exact ⟨by omega, ho.symm⟩
      | succ k => rw [hk] at ho; simp [hores] at ho
  have hpmlt : ∀ (i id : Nat), (mutIdx ins)[i]? = some id → id < 1000 ∧ ∃ x, ins[id]? = some x ∧ x.isMut = true := by
    intro i id hi
    have := List.mem_of_getElem? hi
    unfold mutIdx at this
    rw [List.mem_filter, List.mem_range] at this
    obtain ⟨h1, h2⟩ := this
    refine ⟨by omega, ins[id], List.getElem?_eq_getElem h1, ?_⟩
    simpa [List.getElem?_eq_getElem h1] using h2
  refine ⟨β', { size := by show 1 = out.res.length; rw [hores]; rfl, defers := rfl, slot := fun i => ?_, ob := fun id o ho => ?_, inj := fun id id' o o' l l' b h1 h2 h3 h4 h5 h6 h7 h8 => ?_, new := fun id o l h1 h2 h3 b hb => ?_, fr := hfr, lt := ?_, pm := ?_ }⟩
  · cases i with
    | zero =>
      have e0 : (outS ins out).t 0 = .own 1000 0 rows.length := by
        show outT out 0 = _
        unfold outT
        rw [hores]
        rfl
      rw [e0]
      show AvRep w' _ β' (outM ins out) (.own 1000 0 rows.length) v
      simp only [AvRep, AvRep0, hm0]
      refine ⟨by omega, ?_⟩
      rcases hlo with ⟨hl, _, rfl⟩ | ⟨tot, cs, hl, rfl, _⟩
      · exact .inl ⟨hβ0.trans hl, rfl⟩
      · exact .inr ⟨_, _, hβ0.trans hl, rfl, Nat.zero_le _, fun _ => by simp⟩
    | succ i =>
      have e0 : (outS ins out).t (i + 1) = .undef := by
        show outT out (i + 1) = _
        unfold outT
        rw [hores]
        rfl
      rw [e0]
      rfl
  · cases hlive : o.live with
    | false =>
      cases o with
      | gone => trivial
      | arr ty sz rows => cases hlive
      | box ty cells => cases hlive
      | reg c => cases hlive
    | true =>
      obtain ⟨rfl, rfl⟩ := hm1 id o ho hlive
      refine ⟨hr0, hp, ?_⟩
      rcases hlo with ⟨hl, h1, _⟩ | ⟨tot, cs, hl, rfl, h1, h2, h3, h4, h5, h6⟩
      · exact .inl ⟨hβ0.trans hl, h1⟩
      · refine .inr ⟨_, cs, hβ0.trans hl, h2, by simpa using h3, h4, h5, fun j d hj => ?_⟩
        obtain ⟨B, hr⟩ := h6 j d hj
        obtain ⟨r, hr1, hr2⟩ := List.mem_flatten.1 (List.mem_of_getElem? hj)
        have hg : d.gr = true := (List.all_eq_true.1 (hgr r hr1)) d hr2
        simpa using rep_gr1 hr hg
  · obtain ⟨rfl, _⟩ := hm1 id o h1 h2
    exact (hm1 id' o' h4 h5).1.symm
  · obtain ⟨rfl, _⟩ := hm1 id o h1 h2
    rw [hβ0] at h3
    rcases hlo with ⟨hl, _⟩ | ⟨tot, cs, hl, rfl, e3, _⟩
    · rw [hl] at h3; cases h3
    rw [hl] at h3
    injection h3 with h3
    subst h3
    have hb' := Loc.has_none rfl hb
    simp only at hb'
    subst hb'
    refine ⟨e3, ?_, .inl (Nat.le_refl _)⟩
    rintro (hA | ⟨_, hlt, _⟩)
    · exact absurd (h.lt _ hA) (Nat.lt_irrefl _)
    · exact absurd hlt (Nat.lt_irrefl _)
  · rintro b (hA | ⟨_, hb, _⟩)
    · exact Nat.lt_of_lt_of_le (h.lt b hA) hfr.size
    · exact Nat.lt_of_lt_of_le hb hfr.size
  · refine ⟨h.pm.1, fun i id hi => ?_⟩
    obtain ⟨h1, x, h2, h3⟩ := hpmlt i id hi
    obtain ⟨h4, o, h5⟩ := h.pm.2 i id hi
    refine ⟨by rw [hβ1 id (by omega)]; exact h4, ?_⟩
    show ∃ o, outM ins out id = some o
    unfold outM
    rw [if_pos h1, h2]
    cases x with
    | imm d => cases h3
    | _ => exact ⟨_, rfl⟩

/-- slices.Grow of the nil slice: an empty array with room. -/
theorem callOk_grow0 {P : Program} {ρ : Ren} (L : Lays8.n4 P ρ) (he : Enters P (ρ.f 4)) {T : TypeId → Option TI} (hT : TOk P T) {te : TI} (hte : T (ρ.t 25) = some te) (hpos : 0 < te.size) (k : Nat) (hk : k ≤ 2097152) (hby : te.bytes ≤ 65536) :
    CallOk P (ρ.f 4) [.imm (.other (.slice none 0 0)), .imm (.int .i64 (k : Int))] { res := [.arr (ρ.t 25) te.size []] } := by
  refine ⟨he, by simp, fun i o hi => ?_, fun w A locs β vs h hvs => ?_⟩
  · exfalso
    unfold inM at hi
    match i with
    | 0 => cases hi
    | 1 => cases hi
    | i + 2 => cases hi
  · have hlocs : locs = [] := by
      have := h.pm.1
      exact List.eq_nil_of_length_eq_zero this.symm
    subst hlocs
    have htb := h.fr.tb
    have s0 : Rep w (Bl A β (inS [.imm (.other (.slice none 0 0)), .imm (.int .i64 (k : Int))] vs.size).m) (vs.getD 0 Go.undef) (.other (.slice none 0 0)) := h.slot 0
    have s1 : Rep w (Bl A β (inS [.imm (.other (.slice none 0 0)), .imm (.int .i64 (k : Int))] vs.size).m) (vs.getD 1 Go.undef) (.int .i64 (k : Int)) := h.slot 1
    have e0 : vs.getD 0 Go.undef = .slice none 0 0 := by
      generalize vs.getD 0 Go.undef = v at s0
      cases s0 with
      | other v => rfl
    have e1 : vs.getD 1 Go.undef = .int .i64 (k : Int) := by
      generalize vs.getD 1 Go.undef = v at s1
      cases s1 with
      | int a b => rfl
    have hvs' : vs = #[.slice none 0 0, .int .i64 (k : Int)] := by
      apply Array.ext (by simpa using hvs)
      intro i h1 h2
      simp at hvs
      have hi : i = 0 ∨ i = 1 := by omega
      rcases hi with rfl | rfl
      · simpa [Array.getD, h1] using e0
      · simpa [Array.getD, h1] using e1
    rw [hvs'] at h ⊢
    obtain ⟨i, z, hi, hsz, hb, hz, hzall⟩ := hT.info hte
    have hzc : z.cells.size = te.size := by
      have h1 := (zall_rep w (fun _ => False) _ _ hzall).1
      have h2 := hT.zlen hte
      simp at h1
      omega
    by_cases h0 : k = 0
    · subst h0
      refine (Any8.slices_Grow_room L none 0 0 0 _ (by omega) (by omega) (by omega) (by omega)).mono ?_
      rintro e w' ⟨rfl, rfl⟩
      obtain ⟨β', hs⟩ := sim_newArr (w' := w') (e := ρ.t 25) (sz := te.size) (rows := []) (sep := true) h (by simp) h.fr (fun r hr => by cases hr) hpos (fun r hr => by cases hr) (v := .slice none 0 0) (.inl ⟨rfl, rfl⟩)
      exact ⟨_, β', rfl, hs⟩
    · refine (Any8.slices_Grow_grow L i z hi hz (by omega) none 0 0 k [] _ (by omega) (by omega) ?_ (by omega) (by simp) (fun _ => rfl) (fun a ha => by cases ha)).mono ?_
      · rw [Nat.zero_add, hb]
        have := Nat.mul_le_mul hk hby
        omega
      rintro e w' ⟨rfl, rfl⟩
      have hG1 := grownCap_ge w (0 + k) 0 (ρ.t 25)
      have hG2 := grownCap_le_maxLen w (0 + k) 0 (ρ.t 25) (by unfold maxLen; omega)
      generalize grownCap w (0 + k) 0 (ρ.t 25) = G at hG1 hG2 ⊢
      obtain ⟨cs, hcs⟩ : ∃ cs : Array Value, cs = ([] : List Value).toArray ++ Builtin.zeroCells z.cells (0 + k - 0) ++ Builtin.zeroCells z.cells (G - (0 + k)) := ⟨_, rfl⟩
      rw [← hcs]
      have hsz' : cs.size = G * te.size := by
        rw [hcs]
        simp only [Array.size_append, size_zeroCells, hzc, List.size_toArray, List.length_nil, Nat.zero_add, Nat.sub_zero]
        rw [← Nat.add_mul]
        congr 1
        omega
      obtain ⟨W, hW⟩ : ∃ W, W = w.drew.alloc (.cells cs (ρ.t 25)) := ⟨_, rfl⟩
      have hfr : Fr w [] W := by
        rw [hW]
        refine ⟨rfl, rfl, rfl, ?_, fun b hb _ => ?_, htb, ?_⟩
        · show w.heap.size ≤ (w.heap.push _).size
          simp
        · show (w.heap.push _)[b]? = _
          rw [Array.getElem?_push, if_neg (by omega)]
        · show w.drawn ≤ w.drawn + 1
          omega
      have hlt : w.heap.size < W.heap.size := by
        rw [hW]
        show w.heap.size < (w.heap.push _).size
        simp
      have hat : W.heap[w.heap.size]? = some (.cells cs (ρ.t 25) (0, 0)) := by
        rw [hW]
        show (w.heap.push _)[w.heap.size]? = _
        simp
      rw [← hW]
      obtain ⟨β', hs⟩ := sim_newArr (w' := W) (e := ρ.t 25) (sz := te.size) (rows := []) (sep := true) h (by simp) hfr (fun r hr => by cases hr) hpos (fun r hr => by cases hr) (v := .slice (some ⟨w.heap.size, 0, none⟩) 0 G) (.inr ⟨G, cs, rfl, hlt, hat, hsz', Nat.zero_le _, hG2, fun j d hj => by simp at hj⟩)
      exact ⟨_, β', rfl, hs⟩
end Go.Am

