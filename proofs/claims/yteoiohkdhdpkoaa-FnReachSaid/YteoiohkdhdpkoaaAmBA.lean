/- The abstract machine: calls, operations. -/
import Derived.Test.YteoiohkdhdpkoaaAmA
import Derived.Laws.StructEq
import Derived.Laws.BytesString
import Derived.Lib.ConvBytes
import Derived.Lib.SliceRun
import Derived.Orders
import Derived.Deep.LoopGhost
/-! The abstract machine, part 14: the callee's first state, and the caller's behind the call. -/
namespace Go.Am
open Go

theorem mem_mutIdx {ins : List In} {i : Nat} : i ∈ mutIdx ins ↔ ∃ inn, ins[i]? = some inn ∧ inn.isMut = true := by
  unfold mutIdx
  rw [List.mem_filter, List.mem_range]
  constructor
  · rintro ⟨h1, h2⟩
    rw [List.getElem?_eq_getElem h1] at h2 ⊢
    exact ⟨_, rfl, by simpa using h2⟩
  · rintro ⟨inn, h1, h2⟩
    exact ⟨(List.getElem?_eq_some_iff.1 h1).1, by rw [h1]; simpa using h2⟩

section
variable {P : Program} {w0 w : World} {A : Nat → Prop} {locs : List (Option Loc)} {β : Nat → Option Loc} {σ : S} {a : Act}

/-- What the callee may not read through. -/
def calleeA (A : Nat → Prop) (β : Nat → Option Loc) (m : Nat → Option O) (ids : List Nat) : Nat → Prop := fun b => Bl A β m b ∧ ∀ id ∈ ids, ∀ l, β id = some l → ¬ l.has b

def calleeβ (β : Nat → Option Loc) (gs : List (Option Nat)) (i : Nat) : Option Loc :=
  match gs[i]? with
  | some (some id) => β id
  | _ => none

/-- The callee's first state. -/
theorem callee_sim (h : Sim w0 A locs β σ a w) {md : List Nat} {args : List AV} {ins : List In} {vs fz : List Nat} {gs : List (Option Nat)} (hin : argsIn σ.m md args = some (ins, vs, fz, gs))
    (hnd : (fz ++ gs.filterMap id).Nodup) (hv : ∀ v ∈ vs, v ∉ fz ∧ some v ∉ gs) (vals : Array Value) (hsz : vals.size = args.length)
    (hvals : ∀ (i : Nat) (av : AV), args[i]? = some av → AvRep w (Bl A β σ.m) β σ.m av (vals.getD i Go.undef)) :
    Sim w (calleeA A β (upm σ.m (kills fz)) (vs ++ gs.filterMap id)) ((mutIdx ins).map (calleeβ β gs)) (calleeβ β gs) (inS ins vals.size) ⟨vals, []⟩ w := by
  obtain ⟨q1, q2, q3, q4, q5⟩ := argsIn_at args md ins vs fz gs hin
  have hlv : ∀ x ∈ vs, ∃ o, σ.m x = some o ∧ o.live = true := fun x hx => by
    obtain ⟨av, k, inn, v, f, g, _, r2, r3⟩ := q4 x hx
    exact (argIn_live r2).1 x r3
  have hlf : ∀ x ∈ fz, ∃ o, σ.m x = some o ∧ o.live = true := fun x hx => by
    obtain ⟨av, k, inn, v, f, g, _, r2, r3⟩ := q5 x hx
    exact (argIn_live r2).2.1 x r3
  have hgi : ∀ (i x : Nat), gs[i]? = some (some x) → ∃ (av : AV) (k : Nat) (inn : In) (v f : List Nat), args[i]? = some av ∧ ins[i]? = some inn ∧ argIn σ.m k av = some (inn, v, f, some x) := fun i x hi => by
    have hlt : i < args.length := by rw [← q2]; exact (List.getElem?_eq_some_iff.1 hi).1
    obtain ⟨k, inn, v, f, g, r1, r2, r3, _⟩ := q3 i _ (List.getElem?_eq_getElem hlt)
    rw [hi] at r2; injection r2 with r2; subst r2
    exact ⟨_, k, inn, v, f, List.getElem?_eq_getElem hlt, r1, r3⟩
  have hlg : ∀ (i x : Nat), gs[i]? = some (some x) → ∃ o, σ.m x = some o ∧ o.live = true := fun i x hi => by
    obtain ⟨av, k, inn, v, f, _, _, r3⟩ := hgi i x hi
    exact (argIn_live r3).2.2 x rfl
  have hgmem : ∀ (i x : Nat), gs[i]? = some (some x) → x ∈ gs.filterMap id := fun i x hi => by
    rw [List.mem_filterMap]
    exact ⟨some x, List.mem_of_getElem? hi, rfl⟩
  have hinj : ∀ (i j x : Nat), gs[i]? = some (some x) → gs[j]? = some (some x) → i = j := filterMap_inj gs (List.nodup_append.1 hnd).2.1
  -- which parameters are lent
  have hmut : ∀ (i : Nat) (o : O), inM ins i = some o → ∃ (x : Nat) (ox : O), gs[i]? = some (some x) ∧ σ.m x = some ox ∧ ox.live = true ∧ ((∃ ty sz rows, ox = .arr ty sz rows ∧ o = .arr ty sz rows) ∨ (∃ (ty : TypeId) (cells : List AV) (ds : List D), ox = .box ty cells ∧ cells = ds.map .imm ∧ o = .box ty (ds.map .imm)) ∨ ∃ c c', ox = .reg c ∧ o = .reg c' ∧ (c' = true → c = true)) := by
    intro i o hi
    unfold inM at hi
    have hget : ∀ inn, ins[i]? = some inn → inn.isMut = true → ∃ (av : AV) (k : Nat) (v f : List Nat) (g : Option Nat), args[i]? = some av ∧ gs[i]? = some g ∧ argIn σ.m k av = some (inn, v, f, g) := fun inn h1 _ => by
      have hlt : i < args.length := by rw [← q1]; exact (List.getElem?_eq_some_iff.1 h1).1
      obtain ⟨k, inn', v, f, g, r1, r2, r3, _⟩ := q3 i _ (List.getElem?_eq_getElem hlt)
      rw [h1] at r1; injection r1 with r1; subst r1
      exact ⟨_, k, v, f, g, List.getElem?_eq_getElem hlt, r2, r3⟩
    split at hi
    · rename_i ty sz rows h1
      injection hi with hi; subst hi
      obtain ⟨av, k, v, f, g, _, r2, r3⟩ := hget _ h1 rfl
      rcases argIn_inv r3 with ⟨d, _, e, _⟩ | ⟨id, off, len, ty, sz, rows, _, hm, e, _⟩ | ⟨id, len, ty', sz', rows', _, hm, _, e, _, _, rfl⟩ | ⟨id, off, ds, _, hm, e, _⟩ | ⟨id, ty, cells, ds, _, hm, _, e, _⟩ | ⟨fn, ids, ds, _, hm, e, _⟩ | ⟨id, d, _, hm, e, _⟩ | ⟨id, c, c', d, _, hm, e, _, _, _, rfl⟩ | ⟨l, ds, ids, _, hm, e, _⟩ <;> cases e
      exact ⟨id, _, r2, hm, rfl, .inl ⟨_, _, _, rfl, rfl⟩⟩
    · rename_i ty cells h1
      injection hi with hi; subst hi
      obtain ⟨av, k, v, f, g, _, r2, r3⟩ := hget _ h1 rfl
      rcases argIn_inv r3 with ⟨d, _, e, _⟩ | ⟨id, off, len, ty, sz, rows, _, hm, e, _⟩ | ⟨id, len, ty', sz', rows', _, hm, _, e, _, _, rfl⟩ | ⟨id, off, ds, _, hm, e, _⟩ | ⟨id, ty', cells', ds, _, hm, hi', e, _, _, rfl⟩ | ⟨fn, ids, ds, _, hm, e, _⟩ | ⟨id, d, _, hm, e, _⟩ | ⟨id, c, c', d, _, hm, e, _, _, _, rfl⟩ | ⟨l, ds, ids, _, hm, e, _⟩ <;> cases e
      exact ⟨id, _, r2, hm, rfl, .inr (.inl ⟨_, _, _, rfl, imms_eq hi', rfl⟩)⟩
    · rename_i c d h1
      injection hi with hi; subst hi
      obtain ⟨av, k, v, f, g, _, r2, r3⟩ := hget _ h1 rfl
      rcases argIn_inv r3 with ⟨d, _, e, _⟩ | ⟨id, off, len, ty, sz, rows, _, hm, e, _⟩ | ⟨id, len, ty', sz', rows', _, hm, _, e, _, _, rfl⟩ | ⟨id, off, ds, _, hm, e, _⟩ | ⟨id, ty', cells', ds, _, hm, hi', e, _, _, rfl⟩ | ⟨fn, ids, ds, _, hm, e, _⟩ | ⟨id, d, _, hm, e, _⟩ | ⟨id, c, c', d, _, hm, e, hcc, _, _, rfl⟩ | ⟨l, ds, ids, _, hm, e, _⟩ <;> cases e
      exact ⟨id, _, r2, hm, rfl, .inr (.inr ⟨_, _, rfl, rfl, hcc⟩)⟩
    · cases hi
  have hβc : ∀ (i x : Nat), gs[i]? = some (some x) → calleeβ β gs i = β x := fun i x hi => by unfold calleeβ; rw [hi]
  -- the bars of the callee
  have hBc : ∀ b, Bl (calleeA A β (upm σ.m (kills fz)) (vs ++ gs.filterMap id)) (calleeβ β gs) (inM ins) b →
      (calleeA A β (upm σ.m (kills fz)) (vs ++ gs.filterMap id) b) ∨ ∃ (i x : Nat) (ox : O) (l : Loc), gs[i]? = some (some x) ∧ σ.m x = some ox ∧ ox.live = true ∧ β x = some l ∧ l.has b := by
    rintro b (hA | ⟨i, o, l, h1, h2, h3, h4⟩)
    · exact .inl hA
    · obtain ⟨x, ox, g1, g2, g3, _⟩ := hmut i o h1
      rw [hβc i x g1] at h3
      exact .inr ⟨i, x, ox, l, g1, g2, g3, h3, h4⟩
  have hkl : ∀ b, Bl A β (upm σ.m (kills fz)) b → Bl A β σ.m b ∧ ∀ x ∈ fz, ∀ l, β x = some l → ¬ l.has b := by
    rintro b (hA | ⟨i, o, l, h1, h2, h3, h4⟩)
    · refine ⟨.inl hA, fun x hx l hl e => ?_⟩
      obtain ⟨ox, e1, e2⟩ := hlf x hx
      exact (h.new x ox l e1 e2 hl b e).2.1 hA
    · have hif : i ∉ fz := fun hif => by
        have : ∀ (m : Nat → Option O) (ks : List Nat), i ∈ ks → upm m (kills ks) i = some .gone := by
          intro m ks
          induction ks generalizing m with
          | nil => intro hj; cases hj
          | cons k ks ihk =>
            intro hj
            by_cases hjk : i ∈ ks
            · exact ihk _ hjk
            · have : i = k := by simp at hj; exact hj.resolve_right hjk
              subst this
              show upm (upd m i (some .gone)) (kills ks) i = _
              rw [upm_kills_other _ _ _ hjk, upd_same]
        rw [this _ _ hif] at h1
        injection h1 with h1; subst h1; simp [O.live] at h2
      rw [upm_kills_other _ _ _ hif] at h1
      refine ⟨.inr ⟨i, o, l, h1, h2, h3, h4⟩, fun x hx l' hl' e => ?_⟩
      obtain ⟨ox, e1, e2⟩ := hlf x hx
      have := h.inj x i ox o l' l b e1 e2 hl' h1 h2 h3 e h4
      subst this
      exact hif hx
  have hout : ∀ b, b < w.heap.size → ¬ Bl A β σ.m b → ¬ Bl (calleeA A β (upm σ.m (kills fz)) (vs ++ gs.filterMap id)) (calleeβ β gs) (inM ins) b := fun b _ hB hB' => by
    rcases hBc b hB' with h1 | ⟨i, x, ox, l, g1, g2, g3, g4, g5⟩
    · exact hB (hkl b h1.1).1
    · exact hB (.inr ⟨x, ox, l, g2, g3, g4, g5⟩)
  -- a viewed or given up object's block is no bar
  have hfreevb : ∀ x ∈ vs, ∀ l, β x = some l → ∀ b, l.has b → ¬ Bl (calleeA A β (upm σ.m (kills fz)) (vs ++ gs.filterMap id)) (calleeβ β gs) (inM ins) b := fun x hx l hl b hb hB' => by
    rcases hBc _ hB' with h1 | ⟨i, y, oy, l', g1, g2, g3, g4, g5⟩
    · exact h1.2 x (List.mem_append_left _ hx) l hl hb
    · obtain ⟨ox, e1, e2⟩ := hlv x hx
      have := h.inj y x oy ox l' l b g2 g3 g4 e1 e2 hl g5 hb
      subst this
      exact (hv y hx).2 (List.mem_of_getElem? g1)
  have hfreev : ∀ x ∈ vs, ∀ l, β x = some l → ¬ Bl (calleeA A β (upm σ.m (kills fz)) (vs ++ gs.filterMap id)) (calleeβ β gs) (inM ins) l.b := fun x hx l hl => hfreevb x hx l hl _ l.self
  have hfreefb : ∀ x ∈ fz, ∀ l, β x = some l → ∀ b, l.has b → ¬ Bl (calleeA A β (upm σ.m (kills fz)) (vs ++ gs.filterMap id)) (calleeβ β gs) (inM ins) b := fun x hx l hl b hb hB' => by
    rcases hBc _ hB' with h1 | ⟨i, y, oy, l', g1, g2, g3, g4, g5⟩
    · exact (hkl _ h1.1).2 x hx l hl hb
    · obtain ⟨ox, e1, e2⟩ := hlf x hx
      have := h.inj y x oy ox l' l _ g2 g3 g4 e1 e2 hl g5 hb
      subst this
      exact (List.nodup_append.1 hnd).2.2 y hx y (hgmem i y g1) rfl
  have hfreef : ∀ x ∈ fz, ∀ l, β x = some l → ¬ Bl (calleeA A β (upm σ.m (kills fz)) (vs ++ gs.filterMap id)) (calleeβ β gs) (inM ins) l.b := fun x hx l hl => hfreefb x hx l hl _ l.self
  have kk : Keeps w (Bl A β σ.m) w (Bl (calleeA A β (upm σ.m (kills fz)) (vs ++ gs.filterMap id)) (calleeβ β gs) (inM ins)) := ⟨Nat.le_refl _, fun _ _ _ => rfl, hout⟩
  refine { size := rfl, defers := rfl, slot := ?_, ob := ?_, inj := ?_, new := ?_, fr := Fr.refl _ _ (h.tb ?_), lt := ?_, pm := ?_ }
  · intro i
    show AvRep w _ (calleeβ β gs) (inM ins) (inT ins i) (vals.getD i Go.undef)
    unfold inT
    cases hi : ins[i]? with
    | none =>
      have : vals.size ≤ i := by rw [hsz, ← q1]; exact List.getElem?_eq_none_iff.1 hi
      show vals.getD i Go.undef = Go.undef
      simp [Array.getD, Nat.not_lt.2 this]
    | some inn0 =>
      have hlt : i < args.length := by rw [← q1]; exact (List.getElem?_eq_some_iff.1 hi).1
      obtain ⟨k, inn, v, f, g, r1, r2, r3, r4, r5⟩ := q3 i _ (List.getElem?_eq_getElem hlt)
      rw [hi] at r1; injection r1 with r1; subst r1
      have hval := hvals i _ (List.getElem?_eq_getElem hlt)
      rcases argIn_inv r3 with ⟨d, e0, rfl, rfl, rfl, rfl⟩ | ⟨id, off, len, ty, sz, rows, e0, hm, rfl, rfl, hvf⟩ | ⟨id, len, ty, sz, rows, e0, hm, hlen, rfl, rfl, rfl, rfl⟩ | ⟨id, off, ds, e0, hm, rfl, rfl, rfl, rfl⟩ | ⟨id, ty, cells, ds, e0, hm, him, rfl, rfl, rfl, rfl⟩ | ⟨fn, ids, ds, e0, hm, rfl, rfl, rfl, rfl⟩ | ⟨id, d, e0, hm, rfl, rfl, hvf⟩ | ⟨id, c, c', d, e0, hm, rfl, hcc, rfl, rfl, rfl⟩ | ⟨l, ds, ids, e0, hm, rfl, rfl, hvf⟩
      · rw [e0] at hval
        exact Rep.keep kk hval
      · rw [e0] at hval
        refine own_view h hm hval hout ?_
        rcases hvf with ⟨rfl, rfl⟩ | ⟨rfl, rfl⟩
        · exact hfreev id (r4 id (by simp))
        · exact hfreef id (r5 id (by simp))
      · rw [e0] at hval
        have hin' : inM ins i = some (.arr ty sz rows) := by unfold inM; rw [hi]
        simp only [AvRep, AvRep0, hm] at hval
        subst hlen
        simp only [AvRep, AvRep0, hin', hβc i id r2]
        exact hval
      · rw [e0] at hval
        exact box_view h hm hval hout (hfreev id (r4 id (by simp)))
      · rw [e0] at hval
        have hin' : inM ins i = some (.box ty (ds.map .imm)) := by unfold inM; rw [hi]
        simp only [AvRep, AvRep0, BoxAt, hm] at hval
        simp only [AvRep, AvRep0, BoxAt, hin', hβc i id r2]
        exact hval
      · rw [e0] at hval
        obtain ⟨vs', hv1, hv2, hv3⟩ := hval
        rw [hv1]
        obtain ⟨p1, p2⟩ := viewClo_at hm
        refine Rep.fn fn vs' ds (by rw [hv2, p1]) fun j d hj => ?_
        obtain ⟨id, cs, s1, s2, rfl⟩ := p2 j d hj
        exact box_view h s2 (hv3 j id s1) hout (hfreev id (r4 id (List.mem_of_getElem? s1)))
      · rw [e0] at hval
        have hrd := tv_rd hm hval
        cases hβi : β id with
        | none => rw [hβi] at hrd; exact hrd _ _
        | some l =>
          rw [hβi] at hrd
          obtain ⟨r, hrg, hrep⟩ := hrd
          rcases h.ob id _ hm with hn | ⟨l', r', s1, s2, s3, s4⟩
          · rw [hβi] at hn; cases hn
          · rw [hβi] at s1; injection s1 with s1; subst s1
            rw [hrg] at s2; injection s2 with s2; subst s2
            have hfr : ∀ b, l.has b → ¬ Bl (calleeA A β (upm σ.m (kills fz)) (vs ++ gs.filterMap _root_.id)) (calleeβ β gs) (inM ins) b := fun b hb => by
              rcases hvf with ⟨rfl, rfl⟩ | ⟨rfl, rfl⟩
              · exact hfreevb id (r4 id (by simp)) l hβi b hb
              · exact hfreefb id (r5 id (by simp)) l hβi b hb
            refine Rep.keep ⟨s3, fun b _ hb => ?_, fun b _ hb => hfr b (.inr ⟨r, hrg, Classical.byContradiction hb⟩)⟩ hrep
            rcases s4 b (Classical.byContradiction hb) with s5 | ⟨s5, _⟩
            · exact s5
            · cases s5
      · rw [e0] at hval
        have hrd := tv_rd hm hval
        have hin' : inM ins i = some (.reg c') := by unfold inM; rw [hi]
        exact tv_mk hin' (by rw [hβc i id r2]; exact hrd)
      · rw [e0] at hval
        obtain ⟨vs', hv1, hv2, hv3⟩ := hval
        obtain ⟨p1, p2, _⟩ := mixView_at hm
        rw [hv1]
        refine Rep.agg vs' ds (by rw [hv2, p1]) fun j d hj => ?_
        rcases p2 j d hj with s1 | ⟨id, off, len, ty, sz, rows, s1, s2, rfl, s3⟩
        · exact Rep.keep kk (hv3 j _ s1)
        · refine own_view h s2 (hv3 j _ s1) hout ?_
          rcases hvf with ⟨rfl, rfl⟩ | ⟨rfl, rfl⟩
          · exact hfreev id (r4 id s3)
          · exact hfreef id (r5 id s3)
  · intro i o hi
    obtain ⟨x, ox, g1, g2, g3, g4⟩ := hmut i o hi
    have hob := h.ob x ox g2
    rcases g4 with ⟨ty, sz, rows, rfl, rfl⟩ | ⟨ty, cells, ds, rfl, rfl, rfl⟩ | ⟨c, c', rfl, rfl, hcc⟩
    · obtain ⟨p1, p2, p3⟩ := hob
      refine ⟨p1, p2, ?_⟩
      rcases p3 with ⟨p3, p4⟩ | ⟨l, cs, p3, p4, p5, p6, p7, p8⟩
      · exact .inl ⟨by show calleeβ β gs i = none; rw [hβc i x g1]; exact p3, p4⟩
      · exact .inr ⟨l, cs, by show calleeβ β gs i = some l; rw [hβc i x g1]; exact p3, p4, p5, p6, p7, fun j d hj => (p8 j d hj).keep kk⟩
    · obtain ⟨l, cs, p1, p2, p3, p4⟩ := hob
      refine ⟨l, cs, by show calleeβ β gs i = some l; rw [hβc i x g1]; exact p1, p2, p3, fun j av hj => ?_⟩
      have := p4 j av hj
      simp only [List.getElem?_map, Option.map_eq_some_iff] at hj
      obtain ⟨d, _, rfl⟩ := hj
      exact Rep.keep kk this
    · rcases hob with p | ⟨l, r, p1, p2, p3, p4⟩
      · exact .inl (by show calleeβ β gs i = none; rw [hβc i x g1]; exact p)
      · refine .inr ⟨l, r, by show calleeβ β gs i = some l; rw [hβc i x g1]; exact p1, p2, p3, fun b hb => ?_⟩
        cases c' with
        | false => exact (p4 b hb).mono
        | true => rw [hcc rfl] at p4; exact p4 b hb
  · intro i j oi oj li lj b h1 h2 h3 h4 h5 h6 h7 h7'
    obtain ⟨x, ox, g1, g2, g3, _⟩ := hmut i oi h1
    obtain ⟨y, oy, f1, f2, f3, _⟩ := hmut j oj h4
    have h3' : calleeβ β gs i = some li := h3
    have h6' : calleeβ β gs j = some lj := h6
    rw [hβc i x g1] at h3'
    rw [hβc j y f1] at h6'
    have := h.inj x y ox oy li lj b g2 g3 h3' f2 f3 h6' h7 h7'
    subst this
    exact hinj i j x g1 f1
  · intro i o l h1 h2 h3 b hb
    obtain ⟨x, ox, g1, g2, g3, _⟩ := hmut i o h1
    have h3' : calleeβ β gs i = some l := h3
    rw [hβc i x g1] at h3'
    refine ⟨(h.new x ox l g2 g3 h3' b hb).1, fun hA' => hA'.2 x (List.mem_append_right _ (hgmem i x g1)) l h3' hb, .inr ⟨l, ?_, hb⟩⟩
    rw [List.mem_map]
    refine ⟨i, mem_mutIdx.2 ?_, h3⟩
    have h1' : inM ins i = some o := h1
    clear h1
    have h1 := h1'
    unfold inM at h1
    cases hi : ins[i]? with
    | none => simp [hi] at h1
    | some inn => cases inn <;> simp [hi] at h1 <;> exact ⟨_, rfl, rfl⟩
  · intro l hl
    obtain ⟨i, hi, e⟩ := List.mem_map.1 hl
    obtain ⟨inn, h1, h2⟩ := mem_mutIdx.1 hi
    have h3 : ∃ o, inM ins i = some o := by
      unfold inM
      rw [h1]
      cases inn <;> first | exact ⟨_, rfl⟩ | (simp [In.isMut] at h2)
    obtain ⟨o, ho⟩ := h3
    obtain ⟨x, ox, g1, g2, g3, _⟩ := hmut i o ho
    exact ⟨x, ox, g2, g3, (hβc i x g1).symm.trans e⟩
  · intro b hb
    exact h.live_lt b (hkl b hb.1).1
  · refine ⟨by simp [inS], fun k i hk => ⟨by show ((mutIdx ins).map (calleeβ β gs))[k]? = _; rw [List.getElem?_map]; show Option.map _ (mutIdx ins)[k]? = _; rw [show (mutIdx ins)[k]? = some i from hk]; rfl, ?_⟩⟩
    have hmem : i ∈ mutIdx ins := List.mem_of_getElem? hk
    obtain ⟨inn, h1, h2⟩ := mem_mutIdx.1 hmem
    show ∃ o, inM ins i = some o
    unfold inM
    rw [h1]
    cases inn <;> first | exact ⟨_, rfl⟩ | (simp [In.isMut] at h2)

end
end Go.Am

/-! The abstract machine, part 15: the caller behind a call. -/
namespace Go.Am
open Go

def tripMut : Nat → List (Option Nat) → List O → List (Nat × Nat × O)
  | i, some x :: gs, os => (x, i, os.headD .gone) :: tripMut (i + 1) gs os.tail
  | i, none :: gs, os => tripMut (i + 1) gs os.tail
  | _, [], _ => []

def tripRes (ep d : Nat) : Nat → List R0 → List (Nat × Nat × O)
  | _, [] => []
  | j, .imm _ :: r => tripRes ep d (j + 1) r
  | j, .arr ty sz rows :: r => (rid ep d j, 1000 + j, .arr ty sz rows) :: tripRes ep d (j + 1) r
  | j, .reg _ :: r => (rid ep d j, 1000 + j, .reg true) :: tripRes ep d (j + 1) r

theorem upMut_trip : ∀ (gs : List (Option Nat)) (os : List O) (i : Nat), upMut gs os = (tripMut i gs os).map fun t => (t.1, t.2.2)
  | [], _, _ => rfl
  | some x :: gs, os, i => by simp [upMut, tripMut, upMut_trip gs os.tail (i + 1)]
  | none :: gs, os, i => by simp [upMut, tripMut, upMut_trip gs os.tail (i + 1)]

theorem resUp_trip (ep d : Nat) : ∀ (res : List R0) (j : Nat), resUp ep d j res = (tripRes ep d j res).map fun t => (t.1, t.2.2)
  | [], _ => rfl
  | .imm _ :: r, j => by simp [resUp, tripRes, resUp_trip ep d r (j + 1)]
  | .arr _ _ _ :: r, j => by simp [resUp, tripRes, resUp_trip ep d r (j + 1)]
  | .reg _ :: r, j => by simp [resUp, tripRes, resUp_trip ep d r (j + 1)]

def R0.ob : R0 → Option O
  | .imm _ => none
  | .arr ty sz rows => some (.arr ty sz rows)
  | .reg _ => some (.reg true)

theorem mem_tripMut : ∀ {gs : List (Option Nat)} {os : List O} {i : Nat} {t : Nat × Nat × O}, t ∈ tripMut i gs os → ∃ k : Nat, gs[k]? = some (some t.1) ∧ t.2.1 = i + k ∧ t.2.2 = os.getD k .gone
  | [], os, i, t, h => by simp [tripMut] at h
  | some x :: gs, os, i, t, h => by
    simp only [tripMut, List.mem_cons] at h
    rcases h with rfl | h
    · exact ⟨0, rfl, rfl, by cases os <;> rfl⟩
    · obtain ⟨k, h1, h2, h3⟩ := mem_tripMut h
      exact ⟨k + 1, by simpa using h1, by omega, by rw [h3]; cases os <;> simp⟩
  | none :: gs, os, i, t, h => by
    simp only [tripMut] at h
    obtain ⟨k, h1, h2, h3⟩ := mem_tripMut h
    exact ⟨k + 1, by simpa using h1, by omega, by rw [h3]; cases os <;> simp⟩

theorem tripMut_mem : ∀ {gs : List (Option Nat)} {os : List O} {i k x : Nat}, gs[k]? = some (some x) → (x, i + k, os.getD k .gone) ∈ tripMut i gs os
  | [], os, i, k, x, h => by simp at h
  | some y :: gs, os, i, 0, x, h => by
    simp at h; subst h
    simp only [tripMut, List.mem_cons]
    left
    cases os <;> rfl
  | some y :: gs, os, i, k + 1, x, h => by
    simp only [tripMut, List.mem_cons]
    right
    have := tripMut_mem (os := os.tail) (i := i + 1) (k := k) (x := x) (gs := gs) (by simpa using h)
    have e : i + 1 + k = i + (k + 1) := by omega
    rw [e] at this
    cases os <;> simpa using this
  | none :: gs, os, i, 0, x, h => by simp at h
  | none :: gs, os, i, k + 1, x, h => by
    simp only [tripMut]
    have := tripMut_mem (os := os.tail) (i := i + 1) (k := k) (x := x) (gs := gs) (by simpa using h)
    have e : i + 1 + k = i + (k + 1) := by omega
    rw [e] at this
    cases os <;> simpa using this

theorem mem_tripRes {ep d : Nat} : ∀ {res : List R0} {j : Nat} {t : Nat × Nat × O}, t ∈ tripRes ep d j res → ∃ (k : Nat) (r0 : R0) (o : O), res[k]? = some r0 ∧ r0.ob = some o ∧ t = (rid ep d (j + k), 1000 + (j + k), o)
  | [], j, t, h => by simp [tripRes] at h
  | .imm _ :: r, j, t, h => by
    simp only [tripRes] at h
    obtain ⟨k, r0, o, h1, h2, h3⟩ := mem_tripRes h
    refine ⟨k + 1, r0, o, by simpa using h1, h2, ?_⟩
    have e : j + 1 + k = j + (k + 1) := by omega
    rw [h3, e]
  | .arr ty sz rows :: r, j, t, h => by
    simp only [tripRes, List.mem_cons] at h
    rcases h with rfl | h
    · exact ⟨0, _, _, rfl, rfl, rfl⟩
    · obtain ⟨k, r0, o, h1, h2, h3⟩ := mem_tripRes h
      refine ⟨k + 1, r0, o, by simpa using h1, h2, ?_⟩
      have e : j + 1 + k = j + (k + 1) := by omega
      rw [h3, e]
  | .reg _ :: r, j, t, h => by
    simp only [tripRes, List.mem_cons] at h
    rcases h with rfl | h
    · exact ⟨0, _, _, rfl, rfl, rfl⟩
    · obtain ⟨k, r0, o, h1, h2, h3⟩ := mem_tripRes h
      refine ⟨k + 1, r0, o, by simpa using h1, h2, ?_⟩
      have e : j + 1 + k = j + (k + 1) := by omega
      rw [h3, e]

theorem tripRes_mem {ep d : Nat} : ∀ {res : List R0} {j k : Nat} {r0 : R0} {o : O}, res[k]? = some r0 → r0.ob = some o → (rid ep d (j + k), 1000 + (j + k), o) ∈ tripRes ep d j res
  | [], j, k, r0, o, h, _ => by simp at h
  | .imm _ :: r, j, 0, r0, o, h, h2 => by simp at h; subst h; cases h2
  | .imm _ :: r, j, k + 1, r0, o, h, h2 => by
    simp only [tripRes]
    have := tripRes_mem (ep := ep) (d := d) (j := j + 1) (k := k) (res := r) (by simpa using h) h2
    have e : j + 1 + k = j + (k + 1) := by omega
    rwa [e] at this
  | .arr _ _ _ :: r, j, 0, r0, o, h, h2 => by
    simp at h; subst h
    injection h2 with h2; subst h2
    simp [tripRes]
  | .arr _ _ _ :: r, j, k + 1, r0, o, h, h2 => by
    simp only [tripRes, List.mem_cons]
    right
    have := tripRes_mem (ep := ep) (d := d) (j := j + 1) (k := k) (res := r) (by simpa using h) h2
    have e : j + 1 + k = j + (k + 1) := by omega
    rwa [e] at this
  | .reg _ :: r, j, 0, r0, o, h, h2 => by
    simp at h; subst h
    injection h2 with h2; subst h2
    simp [tripRes]
  | .reg _ :: r, j, k + 1, r0, o, h, h2 => by
    simp only [tripRes, List.mem_cons]
    right
    have := tripRes_mem (ep := ep) (d := d) (j := j + 1) (k := k) (res := r) (by simpa using h) h2
    have e : j + 1 + k = j + (k + 1) := by omega
    rwa [e] at this

theorem outM_res {ins : List In} {out : Out} {k : Nat} {r0 : R0} {o : O} (h : out.res[k]? = some r0) (ho : r0.ob = some o) : outM ins out (1000 + k) = some o := by
  unfold outM
  rw [if_neg (by omega), Nat.add_sub_cancel_left, h]
  cases r0 <;> simp [R0.ob] at ho ⊢ <;> exact ho

theorem upm_mem (id : Nat) : ∀ (l : List (Nat × O)) (m : Nat → Option O), (∀ o1 o2, (id, o1) ∈ l → (id, o2) ∈ l → o1 = o2) → ∀ o, (id, o) ∈ l → upm m l id = some o
  | [], m, _, o, h => by cases h
  | (k, o') :: l, m, hu, o, h => by
    show upm (upd m k (some o')) l id = some o
    by_cases hl : ∃ o2, (id, o2) ∈ l
    · obtain ⟨o2, h2⟩ := hl
      have := upm_mem id l (upd m k (some o')) (fun a b ha hb => hu a b (List.mem_cons_of_mem _ ha) (List.mem_cons_of_mem _ hb)) o2 h2
      rw [this, hu o2 o (List.mem_cons_of_mem _ h2) h]
    · rcases List.mem_cons.1 h with h | h
      · injection h with h1 h2
        subst h1 h2
        have : ∀ (l : List (Nat × O)) (m : Nat → Option O), (¬ ∃ o2, (id, o2) ∈ l) → upm m l id = m id := by
          intro l
          induction l with
          | nil => intro m _; rfl
          | cons x l ih =>
            intro m hx
            obtain ⟨k, o3⟩ := x
            show upm (upd m k (some o3)) l id = m id
            rw [ih _ (fun ⟨o4, h4⟩ => hx ⟨o4, List.mem_cons_of_mem _ h4⟩), upd_other]
            rintro rfl
            exact hx ⟨o3, by simp⟩
        rw [this l _ hl, upd_same]
      · exact absurd ⟨o, h⟩ hl

theorem upm_nmem (id : Nat) : ∀ (l : List (Nat × O)) (m : Nat → Option O), (¬ ∃ o2, (id, o2) ∈ l) → upm m l id = m id
  | [], _, _ => rfl
  | (k, o3) :: l, m, hx => by
    show upm (upd m k (some o3)) l id = m id
    rw [upm_nmem id l _ (fun ⟨o4, h4⟩ => hx ⟨o4, List.mem_cons_of_mem _ h4⟩), upd_other]
    rintro rfl
    exact hx ⟨o3, by simp⟩

theorem freshAll_mem {m : Nat → Option O} : ∀ {l : List (Nat × O)}, freshAll m l → ∀ x ∈ l, m x.1 = none
  | [], _, x, hx => by cases hx
  | (i, o) :: l, h, x, hx => by
    rcases List.mem_cons.1 hx with rfl | hx
    · exact h.1
    · exact freshAll_mem h.2 x hx

theorem rid_inj {ep d j k : Nat} (h : rid ep d j = rid ep d k) : j = k := by unfold rid at h; omega

theorem resAV_at {ep d : Nat} : ∀ (res : List R0) (j : Nat), (resAV ep d j res).length = res.length ∧ ∀ (k : Nat) (av : AV), (resAV ep d j res)[k]? = some av →
    (∃ dd, res[k]? = some (.imm dd) ∧ av = .imm dd) ∨ (∃ (ty sz : Nat) (rows : List (List D)), res[k]? = some (.arr ty sz rows) ∧ av = .own (rid ep d (j + k)) 0 rows.length) ∨ ∃ dd, res[k]? = some (.reg dd) ∧ av = .tv (rid ep d (j + k)) dd
  | [], j => ⟨rfl, fun k av h => by simp [resAV] at h⟩
  | .imm dd :: r, j => by
    obtain ⟨h1, h2⟩ := resAV_at (ep := ep) (d := d) r (j + 1)
    refine ⟨by simp [resAV, h1], fun k av h => ?_⟩
    cases k with
    | zero => simp [resAV] at h; subst h; exact .inl ⟨dd, rfl, rfl⟩
    | succ k =>
      have := h2 k av (by simpa [resAV] using h)
      have e : j + 1 + k = j + (k + 1) := by omega
      rw [e] at this
      simpa using this
  | .arr ty sz rows :: r, j => by
    obtain ⟨h1, h2⟩ := resAV_at (ep := ep) (d := d) r (j + 1)
    refine ⟨by simp [resAV, h1], fun k av h => ?_⟩
    cases k with
    | zero => simp [resAV] at h; subst h; exact .inr (.inl ⟨ty, sz, rows, rfl, rfl⟩)
    | succ k =>
      have := h2 k av (by simpa [resAV] using h)
      have e : j + 1 + k = j + (k + 1) := by omega
      rw [e] at this
      simpa using this
  | .reg dd :: r, j => by
    obtain ⟨h1, h2⟩ := resAV_at (ep := ep) (d := d) r (j + 1)
    refine ⟨by simp [resAV, h1], fun k av h => ?_⟩
    cases k with
    | zero => simp [resAV] at h; subst h; exact .inr (.inr ⟨dd, rfl, rfl⟩)
    | succ k =>
      have := h2 k av (by simpa [resAV] using h)
      have e : j + 1 + k = j + (k + 1) := by omega
      rw [e] at this
      simpa using this

theorem packAV_rep {w : World} {B : Nat → Prop} {β : Nat → Option Loc} {m : Nat → Option O} {l : List AV} {vals : Array Value} (hs : vals.size = l.length)
    (hr : ∀ (k : Nat) (av : AV), l[k]? = some av → AvRep0 w B β m av (vals.getD k Go.undef)) : AvRep w B β m (packAV l) (packR vals) := by
  unfold packAV packR
  match l, hs, hr with
  | [], hs, _ =>
    have : vals = #[] := Array.eq_empty_of_size_eq_zero (by simpa using hs)
    subst this
    rfl
  | [x], hs, hr =>
    rw [if_pos (by simpa using hs)]
    have := hr 0 x rfl
    show AvRep _ _ _ _ x _
    cases x with
    | tup l => exact this.elim
    | mix l => exact this.elim
    | _ => exact this
  | x :: y :: l, hs, hr =>
    rw [if_neg (by simp at hs; omega)]
    exact ⟨vals, rfl, hs, hr⟩

theorem packAVO_rep {w : World} {B : Nat → Prop} {β : Nat → Option Loc} {m : Nat → Option O} (agg : Bool) {l : List AV} {vals : Array Value} (hs : vals.size = l.length)
    (hr : ∀ (k : Nat) (av : AV), l[k]? = some av → AvRep0 w B β m av (vals.getD k Go.undef)) : AvRep w B β m (packAVO agg l) (packO agg vals) := by
  cases agg with
  | false => exact packAV_rep hs hr
  | true => exact ⟨vals, rfl, hs, hr⟩

section
variable {P : Program} {w0 w : World} {A : Nat → Prop} {locs : List (Option Loc)} {β : Nat → Option Loc} {σ : S} {a : Act}

theorem call_back (h : Sim w0 A locs β σ a w) {md : List Nat} {args : List AV} {ins : List In} {vs fz : List Nat} {gs : List (Option Nat)} (hin : argsIn σ.m md args = some (ins, vs, fz, gs))
    (hnd : (fz ++ gs.filterMap id).Nodup) (_ : ∀ v ∈ vs, v ∉ fz ∧ some v ∉ gs) {out : Out} (hsep : out.sep = true ∨ vs = []) {ep d : Nat} (hfr : freshAll σ.m (resUp ep d 0 out.res)) (hmut : MutOk ins out) (hlen : ins.length ≤ 1000)
    {w' : World} {vals : Array Value} {β' : Nat → Option Loc}
    (hc : Sim w (sepA w (calleeA A β (upm σ.m (kills fz)) (vs ++ gs.filterMap id)) ((mutIdx ins).map (calleeβ β gs)) out.sep) ((mutIdx ins).map (calleeβ β gs)) β' (outS ins out) ⟨vals, []⟩ w') :
    ∃ β'', Sim w0 A locs β'' { σ with m := upm σ.m (callEff ep d fz gs out).up } a w' ∧
      AvRep w' (Bl A β'' (upm σ.m (callEff ep d fz gs out).up)) β'' (upm σ.m (callEff ep d fz gs out).up) (callEff ep d fz gs out).v (packO out.agg vals) := by
  obtain ⟨q1, q2, q3, q4, q5⟩ := argsIn_at args md ins vs fz gs hin
  have hlf : ∀ x ∈ fz, σ.m x ≠ none := fun x hx => by
    obtain ⟨av, k, inn, v, f, g, _, r2, r3⟩ := q5 x hx
    obtain ⟨o, ho, _⟩ := (argIn_live r2).2.1 x r3
    rw [ho]; simp
  have h1 := kills_sim h fz hlf
  have hgi : ∀ (i x : Nat), gs[i]? = some (some x) → ∃ (inn : In) (o ox : O), ins[i]? = some inn ∧ inM ins i = some o ∧ σ.m x = some ox ∧ ox.live = true ∧ x ∉ fz ∧ (∀ o', o.sub o' → ox.sub o') := fun i x hi => by
    have hlt : i < args.length := by rw [← q2]; exact (List.getElem?_eq_some_iff.1 hi).1
    obtain ⟨k, inn, v, f, g, r1, r2, r3, _⟩ := q3 i _ (List.getElem?_eq_getElem hlt)
    rw [hi] at r2; injection r2 with r2; subst r2
    have hxf : x ∉ fz := fun hx => (List.nodup_append.1 hnd).2.2 x hx x (by rw [List.mem_filterMap]; exact ⟨some x, List.mem_of_getElem? hi, rfl⟩) rfl
    rcases argIn_inv r3 with ⟨d, _, _, _, _, e⟩ | ⟨id, off, len, ty, sz, rows, _, hm, _, e, _⟩ | ⟨id, len, ty', sz', rows', _, hm, _, rfl, _, _, e⟩ | ⟨id, off, ds, _, hm, _, _, _, e⟩ | ⟨id, ty', cells', ds, _, hm, hi', rfl, _, _, e⟩ | ⟨fn, ids, ds, _, hm, _, _, _, e⟩ | ⟨id, d, _, hm, _, e, _⟩ | ⟨id, c, c', d, _, hm, rfl, _, _, _, e⟩ | ⟨l, ds, ids, _, hm, _, e, _⟩ <;> cases e
    · exact ⟨_, _, _, r1, by unfold inM; rw [r1], hm, rfl, hxf, fun o' ho => ho⟩
    · exact ⟨_, .box ty' (ds.map .imm), _, r1, by unfold inM; rw [r1], hm, rfl, hxf, fun o' ho => ho⟩
    · exact ⟨_, .reg c', _, r1, by unfold inM; rw [r1], hm, rfl, hxf, fun o' ho => ho⟩
  have hmemg : ∀ (i x : Nat), gs[i]? = some (some x) → i ∈ mutIdx ins := fun i x hi => by
    obtain ⟨inn, o, ox, r1, r2, _⟩ := hgi i x hi
    refine mem_mutIdx.2 ⟨inn, r1, ?_⟩
    unfold inM at r2
    rw [r1] at r2
    cases inn <;> first | rfl | (simp at r2)
  have hinj : ∀ (i j x : Nat), gs[i]? = some (some x) → gs[j]? = some (some x) → i = j := filterMap_inj gs (List.nodup_append.1 hnd).2.1
  have hβc : ∀ (i x : Nat), gs[i]? = some (some x) → calleeβ β gs i = β x := fun i x hi => by unfold calleeβ; rw [hi]
  have hβ' : ∀ (i x : Nat), gs[i]? = some (some x) → β x = β' i := fun i x hi => by
    obtain ⟨k, hk⟩ := List.getElem?_of_mem (hmemg i x hi)
    obtain ⟨e1, _⟩ := hc.pm.2 k i hk
    rw [List.getElem?_map, hk] at e1
    simp only [Option.map_some, Option.some.injEq] at e1
    rw [← hβc i x hi, e1]
  have hlocs : ∀ l, some l ∈ (mutIdx ins).map (calleeβ β gs) → ∃ (i x : Nat), gs[i]? = some (some x) ∧ β x = some l := fun l hl => by
    rw [List.mem_map] at hl
    obtain ⟨i, _, e⟩ := hl
    unfold calleeβ at e
    split at e
    · rename_i x hx; exact ⟨i, x, hx, e⟩
    · cases e
  -- the list of what is taken over
  let trip := tripMut 0 gs out.muts ++ tripRes ep d 0 out.res
  have hup : upMut gs out.muts ++ resUp ep d 0 out.res = trip.map fun t => (t.1, t.2.2) := by
    simp only [trip, List.map_append, ← upMut_trip, ← resUp_trip]
  have hres_none : ∀ t ∈ tripRes ep d 0 out.res, σ.m t.1 = none := fun t ht => by
    refine freshAll_mem hfr (t.1, t.2.2) ?_
    rw [resUp_trip]
    exact List.mem_map.2 ⟨t, ht, rfl⟩
  have huniq : ∀ t ∈ trip, ∀ t' ∈ trip, t.1 = t'.1 → t = t' := by
    intro t ht t' ht' e
    rcases List.mem_append.1 ht with h2 | h2 <;> rcases List.mem_append.1 ht' with h3 | h3
    · obtain ⟨k, e1, e2, e3⟩ := mem_tripMut h2
      obtain ⟨k', f1, f2, f3⟩ := mem_tripMut h3
      rw [e] at e1
      have := hinj k k' _ e1 f1
      subst this
      exact Prod.ext e (Prod.ext (by omega) (by rw [e3, f3]))
    · exfalso
      obtain ⟨k, e1, _⟩ := mem_tripMut h2
      obtain ⟨_, _, ox, _, _, r3, _⟩ := hgi k _ e1
      have := hres_none t' h3
      rw [← e, r3] at this; cases this
    · exfalso
      obtain ⟨k, e1, _⟩ := mem_tripMut h3
      obtain ⟨_, _, ox, _, _, r3, _⟩ := hgi k _ e1
      have := hres_none t h2
      rw [e, r3] at this; cases this
    · obtain ⟨k, r0, o, e1, e2, rfl⟩ := mem_tripRes h2
      obtain ⟨k', r0', o', f1, f2, rfl⟩ := mem_tripRes h3
      have := rid_inj e
      have : k = k' := by omega
      subst this
      rw [e1] at f1
      injection f1 with f1
      subst f1
      rw [e2] at f2
      injection f2 with f2
      subst f2
      rfl
  have hcal : ∀ t ∈ trip, outM ins out t.2.1 = some t.2.2 := by
    intro t ht
    rcases List.mem_append.1 ht with h2 | h2
    · obtain ⟨k, e1, e2, e3⟩ := mem_tripMut h2
      obtain ⟨inn, o, ox, r1, r2, _⟩ := hgi k _ e1
      have hk : k < 1000 := by have := (List.getElem?_eq_some_iff.1 r1).1; omega
      rw [e2, e3]
      unfold outM
      rw [Nat.zero_add, if_pos hk]
      unfold inM at r2
      rw [r1] at r2 ⊢
      cases inn <;> simp at r2 ⊢
    · obtain ⟨k, r0, o, e1, e2, rfl⟩ := mem_tripRes h2
      show outM ins out (1000 + (0 + k)) = _
      rw [Nat.zero_add]
      exact outM_res e1 e2
  have hcinj : ∀ t ∈ trip, ∀ t' ∈ trip, t.2.1 = t'.2.1 → t.1 = t'.1 := by
    intro t ht t' ht' e
    rcases List.mem_append.1 ht with h2 | h2 <;> rcases List.mem_append.1 ht' with h3 | h3
    · obtain ⟨k, e1, e2, e3⟩ := mem_tripMut h2
      obtain ⟨k', f1, f2, f3⟩ := mem_tripMut h3
      have : k = k' := by omega
      subst this
      rw [e1] at f1
      injection f1 with f1; injection f1
    · exfalso
      obtain ⟨k, e1, e2, _⟩ := mem_tripMut h2
      obtain ⟨inn, o, ox, r1, _⟩ := hgi k _ e1
      have hk : k < 1000 := by have := (List.getElem?_eq_some_iff.1 r1).1; omega
      obtain ⟨k', r0', o', f1, _, rfl⟩ := mem_tripRes h3
      simp only at e
      omega
    · exfalso
      obtain ⟨k, e1, e2, _⟩ := mem_tripMut h3
      obtain ⟨inn, o, ox, r1, _⟩ := hgi k _ e1
      have hk : k < 1000 := by have := (List.getElem?_eq_some_iff.1 r1).1; omega
      obtain ⟨k', r0', o', f1, _, rfl⟩ := mem_tripRes h2
      simp only at e
      omega
    · obtain ⟨k, r0, o, e1, _, rfl⟩ := mem_tripRes h2
      obtain ⟨k', r0', o', f1, _, rfl⟩ := mem_tripRes h3
      simp only at e
      have : k = k' := by omega
      rw [this]
  let src : Nat → Option Nat := fun id => (trip.find? fun t => t.1 == id).map (·.2.1)
  have hsrc1 : ∀ id c, src id = some c → ∃ t ∈ trip, t.1 = id ∧ t.2.1 = c := fun id c hs => by
    simp only [src, Option.map_eq_some_iff] at hs
    obtain ⟨t, ht, rfl⟩ := hs
    exact ⟨t, List.mem_of_find?_eq_some ht, by simpa using List.find?_some ht, rfl⟩
  have hsrc2 : ∀ t ∈ trip, src t.1 = some t.2.1 := fun t ht => by
    simp only [src]
    cases hf : trip.find? fun t' => t'.1 == t.1 with
    | none => exact absurd (List.find?_eq_none.1 hf t ht) (by simp)
    | some t' =>
      have := huniq t' (List.mem_of_find?_eq_some hf) t ht (by simpa using List.find?_some hf)
      subst this; rfl
  have hmt : ∀ t ∈ trip, upm (upm σ.m (kills fz)) (trip.map fun t => (t.1, t.2.2)) t.1 = some t.2.2 := fun t ht => by
    refine upm_mem _ _ _ (fun o1 o2 h2 h3 => ?_) _ (List.mem_map.2 ⟨t, ht, rfl⟩)
    obtain ⟨t1, g1, g2⟩ := List.mem_map.1 h2
    obtain ⟨t2, f1, f2⟩ := List.mem_map.1 h3
    injection g2 with g2 g3
    injection f2 with f2 f3
    have := huniq t1 g1 t2 f1 (g2.trans f2.symm)
    subst this
    rw [← g3, ← f3]
  have hmn : ∀ id, src id = none → upm (upm σ.m (kills fz)) (trip.map fun t => (t.1, t.2.2)) id = upm σ.m (kills fz) id := fun id hs => by
    refine upm_nmem _ _ _ fun ⟨o, ho⟩ => ?_
    obtain ⟨t, g1, g2⟩ := List.mem_map.1 ho
    injection g2 with g2 g3
    have := hsrc2 t g1
    rw [g2, hs] at this; cases this
  have hmlive : ∀ (i x : Nat), gs[i]? = some (some x) → ∃ ox, upm σ.m (kills fz) x = some ox ∧ ox.live = true := fun i x hi => by
    obtain ⟨_, _, ox, _, _, r3, r4, r5, _⟩ := hgi i x hi
    exact ⟨ox, by rw [upm_kills_other _ _ _ r5]; exact r3, r4⟩
  have hglue := Sim.glue h1 hc (upm (upm σ.m (kills fz)) (trip.map fun t => (t.1, t.2.2))) (fun id => match src id with | some c => β' c | none => β id) src
    (fun id c hs => by
      obtain ⟨t, g1, g2, g3⟩ := hsrc1 id c hs
      subst g2 g3
      exact ⟨by rw [hmt t g1]; exact (hcal t g1).symm, by rw [hs], _, hcal t g1⟩)
    (fun id hs => ⟨hmn id hs, by rw [hs]⟩)
    (fun id id' c hs hs' => by
      obtain ⟨t, g1, g2, g3⟩ := hsrc1 id c hs
      obtain ⟨t', f1, f2, f3⟩ := hsrc1 id' c hs'
      rw [← g2, ← f2]
      exact hcinj t g1 t' f1 (g3.trans f3.symm))
    (fun id c hs => by
      obtain ⟨t, g1, g2, g3⟩ := hsrc1 id c hs
      subst g2 g3
      rcases List.mem_append.1 g1 with h2 | h2
      · obtain ⟨k, e1, e2, e3⟩ := mem_tripMut h2
        obtain ⟨inn, o, ox, r1, r2, r3, r4, r5, r6⟩ := hgi k _ e1
        refine .inr ⟨ox, t.2.2, by show upm σ.m (kills fz) t.1 = _; rw [upm_kills_other _ _ _ r5]; exact r3, r4, ?_, hcal t g1, ?_, fun l hl => ?_⟩
        · rw [e2, Nat.zero_add]; exact hβ' k _ e1
        · rw [e3]; exact r6 _ (hmut k o r2).1
        · rw [List.mem_map]
          exact ⟨k, hmemg k _ e1, by rw [hβc k _ e1]; exact hl⟩
      · refine .inl ?_
        show upm σ.m (kills fz) t.1 = none
        rw [upm_kills_none _ _ _ hlf (hres_none t h2)])
    (fun l hl => by
      obtain ⟨i, x, e1, e2⟩ := hlocs l hl
      obtain ⟨ox, g1, g2⟩ := hmlive i x e1
      have hmem : (x, 0 + i, out.muts.getD i .gone) ∈ trip := List.mem_append_left _ (tripMut_mem e1)
      exact ⟨x, _, ox, hsrc2 _ hmem, e2, g1, g2⟩)
    (fun c o ho => by
      have ho' : outM ins out c = some o := ho
      unfold outM at ho'
      split at ho'
      · split at ho'
        · rename_i hi
          injection ho' with ho'
          subst ho'
          exact (hmut c _ (by unfold inM; rw [hi])).2
        · rename_i hi
          injection ho' with ho'
          subst ho'
          exact (hmut c _ (by unfold inM; rw [hi])).2
        · rename_i hi
          injection ho' with ho'
          subst ho'
          exact (hmut c _ (by unfold inM; rw [hi])).2
        · cases ho'
      · split at ho'
        · injection ho' with ho'
          subst ho'
          exact .inl ⟨_, _, _, rfl⟩
        · injection ho' with ho'
          subst ho'
          exact .inr (.inr (.inr ⟨_, rfl⟩))
        · cases ho')
    (fun b hb => by
      rcases hb with hA | ⟨id, o, l, g1, g2, g3, g4⟩
      · refine .inl (.inl ⟨.inl hA, fun x hx l hl e => ?_⟩)
        have hxl : ∃ o, σ.m x = some o ∧ o.live = true := by
          rcases List.mem_append.1 hx with hx | hx
          · obtain ⟨av, k, inn, v, f, g, _, r2, r3⟩ := q4 x hx
            exact (argIn_live r2).1 x r3
          · rw [List.mem_filterMap] at hx
            obtain ⟨y, hy, e⟩ := hx
            simp only [id_eq] at e
            subst e
            obtain ⟨i, hi⟩ := List.getElem?_of_mem hy
            obtain ⟨_, _, ox, _, _, r3, r4, _⟩ := hgi i x hi
            exact ⟨ox, r3, r4⟩
        obtain ⟨o, e1, e2⟩ := hxl
        exact (h.new x o l e1 e2 hl b e).2.1 hA
      · cases hs : src id with
        | some c =>
          obtain ⟨t, f1, f2, f3⟩ := hsrc1 id c hs
          simp only [hs] at g3
          subst f2 f3
          rw [hmt t f1] at g1
          injection g1 with g1
          exact .inr ⟨_, o, l, by rw [← g1]; exact hcal t f1, g2, g3, g4⟩
        | none =>
          simp only [hs] at g3
          rw [hmn id hs] at g1
          have hnf : id ∉ fz := fun hif => by
            have : ∀ (m : Nat → Option O) (ks : List Nat), id ∈ ks → upm m (kills ks) id = some .gone := by
              intro m ks
              induction ks generalizing m with
              | nil => intro hj; cases hj
              | cons k ks ihk =>
                intro hj
                by_cases hjk : id ∈ ks
                · exact ihk _ hjk
                · have : id = k := by simp at hj; exact hj.resolve_right hjk
                  subst this
                  show upm (upd m id (some .gone)) (kills ks) id = _
                  rw [upm_kills_other _ _ _ hjk, upd_same]
            rw [this _ _ hif] at g1
            injection g1 with g1; subst g1; simp [O.live] at g2
          have g1' : σ.m id = some o := by rw [upm_kills_other _ _ _ hnf] at g1; exact g1
          have hng : ∀ i, gs[i]? ≠ some (some id) := fun i hi => by
            have := hsrc2 _ (List.mem_append_left (tripRes ep d 0 out.res) (tripMut_mem (i := 0) (os := out.muts) hi))
            rw [hs] at this; cases this
          by_cases hiv : id ∈ vs
          · have hst : out.sep = true := hsep.resolve_right (fun e => by rw [e] at hiv; cases hiv)
            refine .inl (.inr ⟨hst, ?_, fun l0 hl0 e => ?_⟩)
            · exact (h.new id o l g1' g2 g3 b g4).1
            · obtain ⟨i, x, e1, e2⟩ := hlocs l0 hl0
              obtain ⟨_, _, ox, _, _, r3, r4, _⟩ := hgi i x e1
              have := h.inj x id ox o l0 l b r3 r4 e2 g1' g2 g3 e g4
              subst this
              exact hng i e1
          · refine .inl (.inl ⟨.inr ⟨id, o, l, g1, g2, g3, g4⟩, fun x hx l0 hl0 e => ?_⟩)
            have hxl : ∃ o, σ.m x = some o ∧ o.live = true := by
              rcases List.mem_append.1 hx with hx | hx
              · obtain ⟨av, k, inn, v, f, g, _, r2, r3⟩ := q4 x hx
                exact (argIn_live r2).1 x r3
              · rw [List.mem_filterMap] at hx
                obtain ⟨y, hy, e⟩ := hx
                simp only [id_eq] at e
                subst e
                obtain ⟨i, hi⟩ := List.getElem?_of_mem hy
                obtain ⟨_, _, ox, _, _, r3, r4, _⟩ := hgi i x hi
                exact ⟨ox, r3, r4⟩
            obtain ⟨ox, e1, e2⟩ := hxl
            have := h.inj x id ox o l0 l b e1 e2 hl0 g1' g2 g3 e g4
            subst this
            rcases List.mem_append.1 hx with hx | hx
            · exact hiv hx
            · rw [List.mem_filterMap] at hx
              obtain ⟨y, hy, e⟩ := hx
              simp only [id_eq] at e
              subst e
              obtain ⟨i, hi⟩ := List.getElem?_of_mem hy
              exact hng i hi)
  obtain ⟨hs, hr⟩ := hglue
  have hm'' : upm σ.m (callEff ep d fz gs out).up = upm (upm σ.m (kills fz)) (trip.map fun t => (t.1, t.2.2)) := by
    show upm σ.m (kills fz ++ (upMut gs out.muts ++ resUp ep d 0 out.res)) = _
    rw [upm_append, hup]
  refine ⟨fun id => match src id with | some c => β' c | none => β id, ?_, ?_⟩
  · rw [hm'']; exact hs
  · rw [hm'']
    obtain ⟨l1, l2⟩ := resAV_at (ep := ep) (d := d) out.res 0
    refine packAVO_rep out.agg (by rw [l1]; exact hc.size) fun k av hk => ?_
    have hslot := hc.slot k
    rcases l2 k av hk with ⟨dd, e1, rfl⟩ | ⟨ty, sz, rows, e1, rfl⟩ | ⟨dd, e1, rfl⟩
    · have : AvRep w' _ β' (outS ins out).m (outT out k) (vals.getD k Go.undef) := hslot
      unfold outT at this
      rw [e1] at this
      exact hr _ _ this
    · have : AvRep w' _ β' (outS ins out).m (outT out k) (vals.getD k Go.undef) := hslot
      unfold outT at this
      rw [e1] at this
      have hmem : (rid ep d (0 + k), 1000 + (0 + k), O.arr ty sz rows) ∈ trip := List.mem_append_right _ (tripRes_mem e1 rfl)
      have e2 := hmt _ hmem
      have e3 := hsrc2 _ hmem
      have e4 : outM ins out (1000 + k) = some (.arr ty sz rows) := by have := hcal _ hmem; simpa using this
      have e5 : (outS ins out).m (1000 + k) = some (.arr ty sz rows) := e4
      simp only [AvRep, AvRep0, e5] at this
      simp only [AvRep0]
      simp only [e2, e3]
      simp only [Nat.zero_add] at this ⊢
      exact this
    · have : AvRep w' _ β' (outS ins out).m (outT out k) (vals.getD k Go.undef) := hslot
      unfold outT at this
      rw [e1] at this
      have hmem : (rid ep d (0 + k), 1000 + (0 + k), O.reg true) ∈ trip := List.mem_append_right _ (tripRes_mem e1 rfl)
      have e2 := hmt _ hmem
      have e3 := hsrc2 _ hmem
      have e4 : outM ins out (1000 + k) = some (.reg true) := by have := hcal _ hmem; simpa using this
      have e5 : (outS ins out).m (1000 + k) = some (.reg true) := e4
      simp only [AvRep, AvRep0, e5] at this
      simp only [AvRep0]
      simp only [e2, e3]
      simp only [Nat.zero_add] at this ⊢
      exact this

end
end Go.Am

/-! The abstract machine, part E: structs compared, bytes made a string. -/
namespace Go.Am
open Go

def dEq : D → D → Option Bool
  | .int k a, .int k' b => if k = k' then some (decide (a = b)) else none
  | .bool a, .bool b => some (a == b)
  | .str a, .str b => some (a == b)
  | _, _ => none

def dsEq : List D → List D → Option Bool
  | [], [] => some true
  | d :: r, d' :: r' => match dEq d d', dsEq r r' with | some a, some b => some (a && b) | _, _ => none
  | _, _ => none

def fieldFits (P : Program) (t : TypeId) (d : D) : Bool :=
  match P.underlying t, d with
  | some (.int k), .int k' _ => decide (k = k')
  | some .bool, .bool _ => true
  | some .string, .str _ => true
  | _, _ => false

def fieldsFit (P : Program) : List Field → Nat → List D → List D → Bool
  | [], _, [], [] => true
  | f :: fs, i, d :: ds, d' :: ds' => Nat.beq f.offset i && (f.name != "_") && fieldFits P f.type d && fieldFits P f.type d' && (P.info? f.type).isSome && fieldsFit P fs (i + 1) ds ds'
  | _, _, _, _ => false

/-- The fields of a struct, one of them a struct of plain parts perhaps. -/
def fieldsFitN (P : Program) : List Field → Nat → List D → List D → Bool
  | [], _, ds, ds' => ds.isEmpty && ds'.isEmpty
  | f :: fs, i, ds, ds' =>
    Nat.beq f.offset i && (f.name != "_") &&
    match P.underlying f.type with
    | some (.struct gs) => (match P.info? f.type with
      | some info => fieldsFit P gs.toList 0 (ds.take info.size) (ds'.take info.size) && !P.stoodInHeld f.type && Nat.ble info.size ds.length && Nat.ble info.size ds'.length && fieldsFitN P fs (i + info.size) (ds.drop info.size) (ds'.drop info.size)
      | none => false)
    | _ => (match ds, ds' with
      | d :: r, d' :: r' => fieldFits P f.type d && fieldFits P f.type d' && (P.info? f.type).isSome && fieldsFitN P fs (i + 1) r r'
      | _, _ => false)

/-- The elements of an array, one cell each. -/
def itemsFit (P : Program) (e : TypeId) : List D → List D → Bool
  | [], [] => true
  | d :: r, d' :: r' => fieldFits P e d && fieldFits P e d' && itemsFit P e r r'
  | _, _ => false

def eqChk (P : Program) (t : TypeId) (ds ds' : List D) : Bool :=
  match P.underlying t with
  | some (.array n e) => itemsFit P e ds ds' && Nat.beq ds.length n && (match P.info? e with | some i => Nat.beq i.size 1 | none => false) && !P.eqGuardType P.depth t
  | some (.struct fs) => fieldsFitN P fs.toList 0 ds ds' && !P.stoodInHeld t && !P.eqGuardType P.depth t
  | _ => false

/-- Structs of plain parts, one part a cell, or of such structs, compared. -/
def opAggEq (P : Program) (op : BinOp) (t : TypeId) (ds ds' : List D) (K : Eff → Prop) : Prop :=
  eqChk P t ds ds' = true ∧
  match dsEq ds ds' with
  | some b => (match op with | .eql => K ⟨.imm (.bool b), []⟩ | .neq => K ⟨.imm (.bool (!b)), []⟩ | _ => False)
  | none => False

def rowsB : List (List D) → Option (List Int)
  | [] => some []
  | [.int .u8 n] :: r => (rowsB r).map (n :: ·)
  | _ => none

def bytesOf (l : List Int) : ByteArray := l.foldl (fun r n => r.push (UInt8.ofNat n.toNat)) ByteArray.empty

/-- A string's bytes, one to a row. -/
def strRows (s : ByteArray) : List (List D) := s.data.toList.map fun b => [.int .u8 b.toNat]

def opConvB (T : TypeId → Option TI) (m : Nat → Option O) (ep : Nat) (o : Oper) (src dst : TypeId) (x : AV) (K : Eff → Prop) : Prop :=
  match T src, T dst with
  | some ⟨.slice e, _, _, _⟩, some ⟨.str, _, _, _⟩ =>
    match T e with
    | some ⟨.int .u8, _, _, _⟩ =>
      match x with
      | .imm (.list rows) => match rowsB rows with | some l => K ⟨.imm (.str (bytesOf l)), []⟩ | none => False
      | .own id off len => match m id with | some (.arr _ _ rows) | some (.cel _ rows) => (match rowsB ((rows.drop off).take len) with | some l => K ⟨.imm (.str (bytesOf l)), []⟩ | none => False) | _ => False
      | _ => False
    | _ => False
  | some ⟨.str, _, _, _⟩, some ⟨.slice e, _, _, _⟩ =>
    match T e, o.dst, x with
    | some ⟨.int .u8, _, _, _⟩, some d, .imm (.str s) => m (nid ep d) = none ∧ K ⟨.own (nid ep d) 0 s.size, [(nid ep d, .cel 1 (strRows s))]⟩
    | _, _, _ => False
  | _, _ => opConv T src dst x K

theorem fits_int {P : Program} {t : TypeId} {k : IntKind} {a : Int} (h : fieldFits P t (.int k a) = true) : P.underlying t = some (.int k) := by
  unfold fieldFits at h
  cases hu : P.underlying t with
  | none => simp [hu] at h
  | some d => cases d <;> simp [hu] at h; rw [h]
theorem fits_bool {P : Program} {t : TypeId} {a : Bool} (h : fieldFits P t (.bool a) = true) : P.underlying t = some .bool := by
  unfold fieldFits at h
  cases hu : P.underlying t with
  | none => simp [hu] at h
  | some d => cases d <;> simp [hu] at h; rfl
theorem fits_str {P : Program} {t : TypeId} {a : ByteArray} (h : fieldFits P t (.str a) = true) : P.underlying t = some .string := by
  unfold fieldFits at h
  cases hu : P.underlying t with
  | none => simp [hu] at h
  | some d => cases d <;> simp [hu] at h; rfl

theorem dEq_run {P : Program} {w : World} {B : Nat → Prop} {t : TypeId} {d d' : D} {v v' : Value} {b : Bool} (n : Nat) (h : fieldFits P t d = true) (h' : fieldFits P t d' = true) (hv : Rep w B v d) (hv' : Rep w B v' d') (he : dEq d d' = some b) :
    (Op.equalIn (n + 1) t v v').run P w = .ok b w := by
  unfold dEq at he
  split at he
  · split at he
    · rename_i hk
      subst hk
      injection he with he
      rw [rep_int hv, rep_int hv', run_equalIn_int w n t _ _ _ _ (fits_int h), ← he]
      congr 1
    · cases he
  · injection he with he
    rw [rep_bool hv, rep_bool hv', run_equalIn_bool' w n t _ _ (fits_bool h), ← he]
  · injection he with he
    rw [rep_str hv, rep_str hv', run_equalIn_string w n t _ _ (fits_str h), ← he, beq_toListBytes]
  · cases he

theorem fits_agg {P : Program} {t : TypeId} {d : D} (h : fieldFits P t d = true) : aggB P t = some false := by
  unfold aggB
  cases d with
  | int k a => rw [fits_int h]
  | bool a => rw [fits_bool h]
  | str a => rw [fits_str h]
  | _ => unfold fieldFits at h; cases hu : P.underlying t with
    | none => simp [hu] at h
    | some d => cases d <;> simp [hu] at h

theorem dsEq_run {P : Program} {w : World} {B : Nat → Prop} {n : Nat} {xs ys : Array Value} : ∀ (fs : List Field) (i : Nat) (ds ds' : List D) (b : Bool), fieldsFit P fs i ds ds' = true → dsEq ds ds' = some b →
    i + ds.length = xs.size → i + ds'.length = ys.size →
    (∀ (j : Nat) (d : D), ds[j]? = some d → Rep w B (xs.getD (i + j) Go.undef) d) → (∀ (j : Nat) (d : D), ds'[j]? = some d → Rep w B (ys.getD (i + j) Go.undef) d) → (Op.eqFields (n + 1) xs ys fs).run P w = .ok b w
  | [], i, [], [], b, _, he, _, _, _, _ => by
    simp only [dsEq] at he
    injection he with he
    subst he
    simp [Op.eqFields]
  | [], i, [], _ :: _, b, h, _, _, _, _, _ => by simp [fieldsFit] at h
  | [], i, _ :: _, _, b, h, _, _, _, _, _ => by simp [fieldsFit] at h
  | f :: fs, i, [], ds', b, h, _, _, _, _, _ => by simp [fieldsFit] at h
  | f :: fs, i, d :: ds, [], b, h, _, _, _, _, _ => by simp [fieldsFit] at h
  | f :: fs, i, d :: ds, d' :: ds', b, h, he, hl, hl', hr, hr' => by
    simp only [fieldsFit, Bool.and_eq_true] at h
    obtain ⟨⟨⟨⟨⟨h1, h2⟩, h3⟩, h4⟩, h5⟩, h6⟩ := h
    have ho : f.offset = i := Nat.eq_of_beq_eq_true h1
    have hn : f.name ≠ "_" := by simpa using h2
    simp only [dsEq] at he
    split at he
    · rename_i a c ha hc
      injection he with he
      subst he
      obtain ⟨info, hi⟩ := Option.isSome_iff_exists.1 h5
      simp only [List.length_cons] at hl hl'
      have q1 : f.offset < xs.size := by omega
      have q2 : f.offset < ys.size := by omega
      have p1 := run_part (P := P) xs f.offset info.size false (by rw [hi]; rfl) (fits_agg h3) (fun _ => q1) w
      have p2 := run_part (P := P) ys f.offset info.size false (by rw [hi]; rfl) (fits_agg h3) (fun _ => q2) w
      simp only [Bool.false_eq_true, if_false] at p1 p2
      rw [ho] at p1 p2
      have e1 := dEq_run n h3 h4 (hr 0 d rfl) (hr' 0 d' rfl) ha
      have ih := dsEq_run (w := w) (B := B) (xs := xs) (ys := ys) (n := n) fs (i + 1) ds ds' c h6 hc (by omega) (by omega) (fun j dd hj => by rw [Nat.add_assoc, Nat.add_comm 1 j]; exact hr (j + 1) dd (by simpa using hj)) (fun j dd hj => by rw [Nat.add_assoc, Nat.add_comm 1 j]; exact hr' (j + 1) dd (by simpa using hj))
      simp only [Nat.add_zero] at e1
      simp only [Op.eqFields, hn, ne_eq, not_false_eq_true, if_true, Sem.run_bind, p1, p2, Result.andThen_ok, ho, e1]
      cases a
      · simp
      · simpa using ih
    · cases he

theorem dsEq_items {P : Program} {w : World} {B : Nat → Prop} {n : Nat} {e : TypeId} {info : TypeInfo} (hi : P.info? e = some info) (h1 : info.size = 1) {xs ys : Array Value} : ∀ (k i : Nat) (ds ds' : List D) (b : Bool), itemsFit P e ds ds' = true → dsEq ds ds' = some b → ds.length = k →
    i + ds.length = xs.size → i + ds'.length = ys.size →
    (∀ (j : Nat) (d : D), ds[j]? = some d → Rep w B (xs.getD (i + j) Go.undef) d) → (∀ (j : Nat) (d : D), ds'[j]? = some d → Rep w B (ys.getD (i + j) Go.undef) d) → (Op.eqItems (n + 1) e 1 xs ys (List.range' i k)).run P w = .ok b w
  | 0, i, [], [], b, _, he, _, _, _, _, _ => by
    simp only [dsEq] at he
    injection he with he
    subst he
    simp [Op.eqItems]
  | 0, _, _ :: _, _, _, _, _, hk, _, _, _, _ => by simp at hk
  | _, _, [], _ :: _, _, h, _, _, _, _, _, _ => by simp [itemsFit] at h
  | _ + 1, _, [], _, _, _, _, hk, _, _, _, _ => by simp at hk
  | _, _, _ :: _, [], _, h, _, _, _, _, _, _ => by simp [itemsFit] at h
  | k + 1, i, d :: ds, d' :: ds', b, h, he, hk, hl, hl', hr, hr' => by
    simp only [itemsFit, Bool.and_eq_true] at h
    obtain ⟨⟨h3, h4⟩, h6⟩ := h
    simp only [dsEq] at he
    split at he
    · rename_i a c ha hc
      injection he with he
      subst he
      simp only [List.length_cons] at hl hl' hk
      have q1 : i < xs.size := by omega
      have q2 : i < ys.size := by omega
      have p1 := run_part (P := P) xs i info.size false (by rw [hi]; rfl) (fits_agg h3) (fun _ => q1) w
      have p2 := run_part (P := P) ys i info.size false (by rw [hi]; rfl) (fits_agg h3) (fun _ => q2) w
      simp only [Bool.false_eq_true, if_false] at p1 p2
      have e1 := dEq_run n h3 h4 (hr 0 d rfl) (hr' 0 d' rfl) ha
      have ih := dsEq_items (w := w) (B := B) (xs := xs) (ys := ys) (n := n) hi h1 k (i + 1) ds ds' c h6 hc (by omega) (by omega) (by omega) (fun j dd hj => by rw [Nat.add_assoc, Nat.add_comm 1 j]; exact hr (j + 1) dd (by simpa using hj)) (fun j dd hj => by rw [Nat.add_assoc, Nat.add_comm 1 j]; exact hr' (j + 1) dd (by simpa using hj))
      simp only [Nat.add_zero] at e1
      rw [List.range'_succ]
      simp only [Op.eqItems, Sem.run_bind, Nat.mul_one, p1, p2, Result.andThen_ok, e1]
      cases a
      · simp
      · simpa using ih
    · cases he

theorem dsEq_split : ∀ (k : Nat) (ds ds' : List D) (b : Bool), dsEq ds ds' = some b → ∃ b1 b2, dsEq (ds.take k) (ds'.take k) = some b1 ∧ dsEq (ds.drop k) (ds'.drop k) = some b2 ∧ b = (b1 && b2)
  | 0, ds, ds', b, h => ⟨true, b, rfl, h, by simp⟩
  | k + 1, [], [], b, h => ⟨true, b, rfl, h, by simp⟩
  | k + 1, [], _ :: _, b, h => by simp [dsEq] at h
  | k + 1, _ :: _, [], b, h => by simp [dsEq] at h
  | k + 1, d :: r, d' :: r', b, h => by
    simp only [dsEq] at h
    split at h
    · rename_i a c ha hc
      injection h with h
      obtain ⟨b1, b2, h1, h2, h3⟩ := dsEq_split k r r' c hc
      refine ⟨a && b1, b2, ?_, h2, ?_⟩
      · simp only [List.take_succ_cons, dsEq, ha, h1]
      · rw [← h, h3, Bool.and_assoc]
    · cases h

theorem dsEq_runN {P : Program} {w : World} {B : Nat → Prop} {n : Nat} {xs ys : Array Value} : ∀ (fs : List Field) (i : Nat) (ds ds' : List D) (b : Bool), fieldsFitN P fs i ds ds' = true → dsEq ds ds' = some b →
    i + ds.length = xs.size → i + ds'.length = ys.size →
    (∀ (j : Nat) (d : D), ds[j]? = some d → Rep w B (xs.getD (i + j) Go.undef) d) → (∀ (j : Nat) (d : D), ds'[j]? = some d → Rep w B (ys.getD (i + j) Go.undef) d) → (Op.eqFields (n + 2) xs ys fs).run P w = .ok b w
  | [], i, ds, ds', b, h, he, _, _, _, _ => by
    simp only [fieldsFitN, Bool.and_eq_true, List.isEmpty_iff] at h
    obtain ⟨rfl, rfl⟩ := h
    simp only [dsEq] at he
    injection he with he
    subst he
    simp [Op.eqFields]
  | f :: fs, i, ds, ds', b, h, he, hl, hl', hr, hr' => by
    unfold fieldsFitN at h
    simp only [Bool.and_eq_true] at h
    obtain ⟨⟨h1, h2⟩, h⟩ := h
    have ho : f.offset = i := Nat.eq_of_beq_eq_true h1
    have hn : f.name ≠ "_" := by simpa using h2
    split at h
    · rename_i gs hu
      split at h
      · rename_i info hi
        simp only [Bool.and_eq_true, Bool.not_eq_true'] at h
        obtain ⟨⟨⟨⟨h3, h4⟩, h5⟩, h6⟩, h7⟩ := h
        have h5 : info.size ≤ ds.length := Nat.le_of_ble_eq_true h5
        have h6 : info.size ≤ ds'.length := Nat.le_of_ble_eq_true h6
        obtain ⟨b1, b2, e1, e2, rfl⟩ := dsEq_split info.size ds ds' b he
        have hag : aggB P f.type = some true := by unfold aggB; rw [hu]
        have p1 := run_part (P := P) xs f.offset info.size true (by rw [hi]; rfl) hag (fun h => by cases h) w
        have p2 := run_part (P := P) ys f.offset info.size true (by rw [hi]; rfl) hag (fun h => by cases h) w
        simp only [if_true] at p1 p2
        rw [ho] at p1 p2
        have hfs : P.fieldsOf f.type = gs := by simp [Program.fieldsOf, hu]
        have q : ∀ (zs : Array Value) (es : List D), i + es.length = zs.size → info.size ≤ es.length → (∀ (j : Nat) (d : D), es[j]? = some d → Rep w B (zs.getD (i + j) Go.undef) d) →
            0 + (es.take info.size).length = (zs.extract i (i + info.size)).size ∧ ∀ (j : Nat) (d : D), (es.take info.size)[j]? = some d → Rep w B ((zs.extract i (i + info.size)).getD (0 + j) Go.undef) d := fun zs es hz hs hx => by
          have hsz : (zs.extract i (i + info.size)).size = info.size := by rw [Array.size_extract]; omega
          refine ⟨by rw [hsz, List.length_take]; omega, fun j d hj => ?_⟩
          rw [List.getElem?_take] at hj
          split at hj
          · rename_i hlt
            have := hx j d hj
            rw [Nat.zero_add, Array.getD_eq_getD_getElem?, Array.getElem?_extract]
            rw [Array.getD_eq_getD_getElem?] at this
            rw [if_pos (by omega)]
            exact this
          · cases hj
        obtain ⟨s1, r1⟩ := q xs ds hl h5 hr
        obtain ⟨s2, r2⟩ := q ys ds' hl' h6 hr'
        have hin := dsEq_run (w := w) (B := B) (n := n) gs.toList 0 _ _ b1 h3 e1 s1 s2 r1 r2
        have hin' : (Op.equalIn (n + 2) f.type (.agg (xs.extract i (i + info.size))) (.agg (ys.extract i (i + info.size)))).run P w = .ok b1 w := by
          rw [run_equalIn_struct w (n + 1) f.type _ _ (by rw [hfs]; exact hu) h4, hfs]
          exact hin
        have ih := dsEq_runN (w := w) (B := B) (xs := xs) (ys := ys) (n := n) fs (i + info.size) _ _ b2 h7 e2 (by rw [List.length_drop]; omega) (by rw [List.length_drop]; omega)
          (fun j d hj => by rw [List.getElem?_drop] at hj; rw [Nat.add_assoc]; exact hr _ d hj) (fun j d hj => by rw [List.getElem?_drop] at hj; rw [Nat.add_assoc]; exact hr' _ d hj)
        simp only [Op.eqFields, hn, ne_eq, not_false_eq_true, if_true, Sem.run_bind, p1, p2, Result.andThen_ok, ho, hin']
        cases b1
        · simp
        · simpa using ih
      · cases h
    · split at h
      · rename_i d r d' r'
        simp only [Bool.and_eq_true] at h
        obtain ⟨⟨⟨h3, h4⟩, h5⟩, h6⟩ := h
        simp only [dsEq] at he
        split at he
        · rename_i a c ha hc
          injection he with he
          subst he
          obtain ⟨info, hi⟩ := Option.isSome_iff_exists.1 h5
          simp only [List.length_cons] at hl hl'
          have q1 : f.offset < xs.size := by omega
          have q2 : f.offset < ys.size := by omega
          have p1 := run_part (P := P) xs f.offset info.size false (by rw [hi]; rfl) (fits_agg h3) (fun _ => q1) w
          have p2 := run_part (P := P) ys f.offset info.size false (by rw [hi]; rfl) (fits_agg h3) (fun _ => q2) w
          simp only [Bool.false_eq_true, if_false] at p1 p2
          rw [ho] at p1 p2
          have e1 := dEq_run (n + 1) h3 h4 (hr 0 d rfl) (hr' 0 d' rfl) ha
          have ih := dsEq_runN (w := w) (B := B) (xs := xs) (ys := ys) (n := n) fs (i + 1) r r' c h6 hc (by omega) (by omega) (fun j dd hj => by rw [Nat.add_assoc, Nat.add_comm 1 j]; exact hr (j + 1) dd (by simpa using hj)) (fun j dd hj => by rw [Nat.add_assoc, Nat.add_comm 1 j]; exact hr' (j + 1) dd (by simpa using hj))
          simp only [Nat.add_zero] at e1
          simp only [Op.eqFields, hn, ne_eq, not_false_eq_true, if_true, Sem.run_bind, p1, p2, Result.andThen_ok, ho, e1]
          cases a
          · simp
          · simpa using ih
        · cases he
      · cases h
section
variable {P : Program} {T : TypeId → Option TI} (hT : TOk P T) {w0 w : World} {A : Nat → Prop} {locs : List (Option Loc)} {β : Nat → Option Loc} {σ : S} {a : Act}
variable (h : Sim w0 A locs β σ a w) {o : Oper} (hd : ∀ d, o.dst = some d → d < σ.n) {K : Eff → Prop} {m' : Nat → Option O} (hm : ∀ id ob, m' id = some ob → σ.m id = some ob)

include h hd in
theorem good_aggEq {op : BinOp} {t t' : TypeId} {x y : Operand} {ds ds' : List D} (ho : o.op = .binOp op t x y t') (e1 : σ.ev x = .imm (.agg ds)) (e2 : σ.ev y = .imm (.agg ds')) (hk : opAggEq P op t ds ds' K) : Good P w0 A locs σ a w o K := by
  obtain ⟨hc, hk⟩ := hk
  unfold eqChk at hc
  split at hc
  · rename_i n e hu
    simp only [Bool.and_eq_true, Bool.not_eq_true'] at hc
    obtain ⟨⟨⟨hc, hn⟩, hi⟩, hg⟩ := hc
    split at hi
    case h_2 => cases hi
    rename_i info hinfo
    have hn := Nat.eq_of_beq_eq_true hn
    have hi := Nat.eq_of_beq_eq_true hi
    obtain ⟨vs, hv, hvs, hvr⟩ := rep_agg (h.imm e1)
    obtain ⟨vs', hv', hvs', hvr'⟩ := rep_agg (h.imm e2)
    split at hk
    · rename_i b hb
      have hrun : (Op.equalIn 10000 t (.agg vs) (.agg vs')).run P w = .ok b w := by
        rw [show (10000 : Nat) = 9999 + 1 from rfl, run_equalIn_array w 9999 vs vs' hu hinfo, show P.cellsOf e = 1 from by simp [Program.cellsOf, hinfo, hi], List.range_eq_range']
        exact dsEq_items (n := 9998) hinfo hi n 0 ds ds' b hc hb hn (by omega) (by omega) (fun j d hj => by rw [Nat.zero_add]; exact hvr j d hj) (fun j d hj => by rw [Nat.zero_add]; exact hvr' j d hj)
      split at hk
      · refine h.val hd hk (v := .bool b) ?_ (.bool _)
        unfold execOp
        simp only [ho, hv, hv', Sem.run_bind, run_eqGuard_agg w .eql t x y vs vs' hg, Result.andThen_ok, run_eql_struct, hrun, Sem.run_pure]
      · refine h.val hd hk (v := .bool (!b)) ?_ (.bool _)
        unfold execOp
        simp only [ho, hv, hv', Sem.run_bind, run_eqGuard_agg w .neq t x y vs vs' hg, Result.andThen_ok, run_neq_struct, hrun, Sem.run_pure]
      · exact hk.elim
    · exact hk.elim
  · rename_i fs hu
    simp only [Bool.and_eq_true, Bool.not_eq_true'] at hc
    obtain ⟨⟨hc, hs⟩, hg⟩ := hc
    obtain ⟨vs, hv, hvs, hvr⟩ := rep_agg (h.imm e1)
    obtain ⟨vs', hv', hvs', hvr'⟩ := rep_agg (h.imm e2)
    have hfs : P.fieldsOf t = fs := by simp [Program.fieldsOf, hu]
    split at hk
    · rename_i b hb
      have hrun : (Op.equalIn 10000 t (.agg vs) (.agg vs')).run P w = .ok b w := by
        rw [show (10000 : Nat) = 9999 + 1 from rfl, run_equalIn_struct w 9999 t vs vs' (by rw [hfs]; exact hu) hs, hfs]
        exact dsEq_runN (n := 9997) fs.toList 0 ds ds' b hc hb (by omega) (by omega) (fun j d hj => by rw [Nat.zero_add]; exact hvr j d hj) (fun j d hj => by rw [Nat.zero_add]; exact hvr' j d hj)
      split at hk
      · refine h.val hd hk (v := .bool b) ?_ (.bool _)
        unfold execOp
        simp only [ho, hv, hv', Sem.run_bind, run_eqGuard_agg w .eql t x y vs vs' hg, Result.andThen_ok, run_eql_struct, hrun, Sem.run_pure]
      · refine h.val hd hk (v := .bool (!b)) ?_ (.bool _)
        unfold execOp
        simp only [ho, hv, hv', Sem.run_bind, run_eqGuard_agg w .neq t x y vs vs' hg, Result.andThen_ok, run_neq_struct, hrun, Sem.run_pure]
      · exact hk.elim
    · exact hk.elim
  · cases hc

theorem rowsB_at : ∀ (rows : List (List D)) (l : List Int), rowsB rows = some l → rows.length = l.length ∧ (∀ r ∈ rows, r.length = 1) ∧ rows.flatten = l.map (D.int .u8)
  | [], l, h => by simp [rowsB] at h; subst h; exact ⟨rfl, by simp, rfl⟩
  | r :: rows, l, h => by
    unfold rowsB at h
    split at h
    · rename_i e; cases e
    · rename_i n rr e
      injection e with e1 e2
      subst e1 e2
      simp only [Option.map_eq_some_iff] at h
      obtain ⟨l', h1, rfl⟩ := h
      obtain ⟨q1, q2, q3⟩ := rowsB_at rows l' h1
      refine ⟨by simp [q1], ?_, by simp [q3]⟩
      intro x hx
      rcases List.mem_cons.1 hx with rfl | hx
      · rfl
      · exact q2 x hx
    · cases h

theorem run_string_of {P : Program} {w : World} {B : Nat → Prop} {v : Value} {rows : List (List D)} {l : List Int} (hr : Rep w B v (.list rows)) (hb : rowsB rows = some l) : (Conv.bytesToString v).run P w = .ok (.string (bytesOf l)) w := by
  obtain ⟨q1, q2, q3⟩ := rowsB_at rows l hb
  obtain ⟨ad, n, c, rfl, rfl, hx⟩ := rep_list hr
  by_cases h0 : rows.length = 0
  · have hl : l = [] := List.eq_nil_of_length_eq_zero (by omega)
    subst hl
    rw [h0]
    cases ad with
    | none => simp [Conv.bytesToString, bytesOf]
    | some b =>
      have := run_bytesToString (P := P) w b 0 c [] (by rw [run_loadCells w b 0 (fun _ => Go.undef) (fun j hj => by omega)]; rfl)
      exact this
  · obtain ⟨b, sz, g, rfl, _, _, _, _, _, hcell, hrep⟩ := hx (by omega)
    refine run_bytesToString (P := P) w b _ c l ?_
    have hcell' : ∀ j, j < rows.length → w.cell? (b.add j) = some (g j) := by
      intro j hj
      exact (hcell j (.int .u8 (l[j]'(by omega))) (by rw [q3]; simp)).1
    rw [run_loadCells w b rows.length g hcell']
    congr 2
    apply List.ext_getElem
    · simp [q1]
    · intro j h1 h2
      have hj : j < rows.length := by simpa using h1
      have hv := rep_int (hrep j (.int .u8 (l[j]'(by omega))) (by rw [q3]; simp))
      simp [hv]

include hT h hd hm in
theorem good_convB {src dst : TypeId} {x : Operand} (hn : ∀ d, o.dst = some d → m' (nid σ.ep d) = none → σ.m (nid σ.ep d) = none) (ho : o.op = .convert src dst x) (hk : opConvB T m' σ.ep o src dst (σ.ev x) K) : Good P w0 A locs σ a w o K := by
  unfold opConvB at hk
  split at hk
  · rename_i e _ _ _ _ _ _ hs ht
    have hus := hT.slice hs rfl
    have hud := hT.str ht rfl
    split at hk
    · rename_i hte
      have hue := hT.int hte rfl
      have key : ∀ v l, a.eval x = v → (∃ ad n c, v = .slice ad n c) → (Conv.bytesToString v).run P w = .ok (.string (bytesOf l)) w → (execOp a.eval o).run P w = .ok (.value (.string (bytesOf l))) w := by
        rintro v l hv ⟨ad, n, c, rfl⟩ hr
        cases ad <;> simp [execOp, ho, hv, convert, run_underlying hus, run_underlying hud, run_underlying hue, hr]
      split at hk
      · rename_i rows e1
        split at hk
        · rename_i l hl
          have hr := h.imm e1
          obtain ⟨ad, n, c, hv, _⟩ := rep_list hr
          exact h.val hd hk (key _ _ hv ⟨_, _, _, rfl⟩ (by rw [← hv]; exact run_string_of hr hl)) (.str _)
        · exact hk.elim
      · rename_i id off len e1
        split at hk
        · rename_i ty sz rows hmm
          split at hk
          · rename_i l hl
            have hx := h.ev x
            rw [e1] at hx
            have hr := own_view h (hm _ _ hmm) (B' := fun _ => False) hx (fun _ _ _ hf => hf) (fun _ _ hf => hf)
            obtain ⟨ad, n, c, hv, _⟩ := rep_list hr
            exact h.val hd hk (key _ _ hv ⟨_, _, _, rfl⟩ (by rw [← hv]; exact run_string_of hr hl)) (.str _)
          · exact hk.elim
        · rename_i sz rows hmm
          split at hk
          · rename_i l hl
            have hx := h.ev x
            rw [e1] at hx
            have hr := cel_view h (hm _ _ hmm) (B' := fun _ => False) hx (fun _ _ _ hf => hf) (fun _ _ hf => hf)
            obtain ⟨ad, n, c, hv, _⟩ := rep_list hr
            exact h.val hd hk (key _ _ hv ⟨_, _, _, rfl⟩ (by rw [← hv]; exact run_string_of hr hl)) (.str _)
          · exact hk.elim
        · exact hk.elim
      · exact hk.elim
    · exact hk.elim
  · rename_i e _ _ _ hs ht
    have hus := hT.str hs rfl
    have hud := hT.slice ht rfl
    split at hk
    · rename_i d s hte hdst e1
      obtain ⟨hid, hK⟩ := hk
      have hue := hT.int hte rfl
      have hr := Lib.run_convert_string_bytes (P := P) w src dst e s hus hud hue
      have hfl : ∀ (j : Nat) (dd : D), (strRows s).flatten[j]? = some dd → j < s.size ∧ dd = .int .u8 (s.data.toList.getD j 0).toNat := by
        have : ∀ (l : List UInt8) (j : Nat) (dd : D), (l.map fun b => [D.int .u8 b.toNat]).flatten[j]? = some dd → j < l.length ∧ dd = .int .u8 (l.getD j 0).toNat := by
          intro l
          induction l with
          | nil => intro j dd hj; simp at hj
          | cons b l ih =>
            intro j dd hj
            cases j with
            | zero => simp at hj; exact ⟨by simp, by simp [hj]⟩
            | succ j => 
              obtain ⟨h1, h2⟩ := ih j dd (by simpa using hj)
              exact ⟨by simpa using h1, by simpa using h2⟩
        intro j dd hj
        obtain ⟨h1, h2⟩ := this _ j dd hj
        exact ⟨by rw [Array.length_toList] at h1; exact h1, h2⟩
      have hs := h.newAt (w' := Lib.bytesWorld w e s) (id := nid σ.ep d) (o := .cel 1 (strRows s)) (cs := Lib.bytesCells w e s) (ty := e) (fz := ((Lib.bytesCells w e s).size, (Lib.bytesCells w e s).size + 1)) (l := ⟨w.heap.size, 0, 0, none⟩) (hn d hdst hid) rfl rfl (Lib.bytesWorld_size w e s) (Lib.bytesWorld_at_old w e s) (Lib.bytesWorld_at_new w e s)
        ⟨h.fr.os, h.fr.tape, h.fr.output, by rw [Lib.bytesWorld_size]; have := h.fr.size; omega, fun b hb hl => (Lib.bytesWorld_at_old w e s b (Nat.lt_of_lt_of_le hb h.fr.size)).trans (h.fr.blk b hb hl), h.fr.tb, Nat.le_succ_of_le h.fr.drawn⟩
        (fun w' B' β' m'' k g h5 h6 h7 => ⟨fun r hr' => by obtain ⟨b, _, rfl⟩ := List.mem_map.1 hr'; rfl, Nat.one_pos, .inr ⟨_, fun j => .int .u8 (s.data.toList.getD j 0).toNat, h5, fun j dd hj => by
          obtain ⟨h8, rfl⟩ := hfl j dd hj
          have hlt : j < (Lib.bytesCells w e s).size := by
            have : s.data.size = s.size := rfl
            simp [Lib.bytesCells]; omega
          refine ⟨⟨?_, ?_⟩, .int _ _⟩
          · simp only [Nat.zero_add]
            unfold World.cell?
            rw [h7]
            have : s.data.size = s.size := rfl
            simp [Lib.bytesCells, Array.getElem?_append, List.getD, this, h8]
          · simp only [Nat.zero_add]
            unfold World.frozen?
            rw [h7]
            simp
            omega⟩⟩)
      refine ⟨_, _, .slice (some ⟨w.heap.size, 0, none⟩) s.size (grownCap w s.size 0 e), _, hK, .inl ?_, Sim.app hd hs ?_⟩
      · simp only [execOp, ho, rep_str (h.imm e1), Sem.run_bind, hr, Result.andThen_ok, Sem.run_pure]
      · simp only [upm, AvRep, AvRep0, upd_same]
        exact ⟨by rw [strRows, List.length_map, Array.length_toList, Nat.zero_add]; exact Nat.le_refl _, _, _, rfl, by simpa using grownCap_ge w s.size 0 e, fun _ => ⟨_, rfl, by simp⟩⟩
    · exact hk.elim
  · exact good_conv hT h hd ho hk

end
end Go.Am

/-! The abstract machine, part 16: one operation, whatever it is. -/
namespace Go.Am
open Go

/-- The rows of an array's part set to zero. -/
def clearR (rows : List (List D)) (off len : Nat) (z : List D) : List (List D) := rows.take off ++ List.replicate len z ++ rows.drop (off + len)

def opClear (T : TypeId → Option TI) (m : Nat → Option O) (t : TypeId) (x : AV) (K : Eff → Prop) : Prop :=
  match T t, x with
  | some ⟨.slice e, _, _, _⟩, .own id off len =>
    match T e, m id with
    | some te, some (.arr ty sz rows) => sz = te.size ∧ K ⟨.tup [], [(id, .arr ty sz (clearR rows off len te.zero))]⟩
    | _, _ => False
  | _, _ => False

theorem zeroCells_at (z : Array Value) (n sz : Nat) (hz : z.size = sz) (i q : Nat) (hi : i < n) (hq : q < sz) : (Builtin.zeroCells z n).toList.getD (i * sz + q) Go.undef = z.getD q Go.undef := by
  have hlt : i * sz + q < n * sz := by
    have : (i + 1) * sz ≤ n * sz := Nat.mul_le_mul_right _ (by omega)
    rw [Nat.succ_mul] at this
    omega
  have e1 : (i * sz + q) % sz = q := by rw [Nat.mul_comm, Nat.mul_add_mod, Nat.mod_eq_of_lt hq]
  have hqz : q < z.size := by omega
  have hlt' : i * sz + q < n * z.size := by rw [hz]; exact hlt
  rw [List.getD_eq_getElem?_getD, Array.getElem?_toList]
  simp only [Builtin.zeroCells, Array.getD_eq_getD_getElem?, Array.getElem?_map, Array.getElem?_range, hz]
  rw [if_pos hlt]
  simp only [Option.map_some, Option.getD_some, e1]
  simp [hqz]

theorem zcell_one {v : Value} {d : D} (h : zcell v d = true) : v.oneCell' = true := by
  unfold zcell at h
  split at h <;> first | rfl | cases h
theorem zall_one : ∀ {vs : List Value} {ds : List D}, zall vs ds = true → ∀ v ∈ vs, v.oneCell' = true
  | [], _, _, v, hv => by cases hv
  | _ :: _, [], h, _, _ => by simp [zall] at h
  | u :: vs, d :: ds, h, v, hv => by
    simp only [zall, Bool.and_eq_true] at h
    rcases List.mem_cons.1 hv with rfl | hv
    · exact zcell_one h.1
    · exact zall_one h.2 v hv

section
variable {P : Program} {T : TypeId → Option TI} (hT : TOk P T) {w0 w : World} {A : Nat → Prop} {locs : List (Option Loc)} {β : Nat → Option Loc} {σ : S} {a : Act}
variable (h : Sim w0 A locs β σ a w) {o : Oper} (hd : ∀ d, o.dst = some d → d < σ.n) {K : Eff → Prop} {m' : Nat → Option O} (hm : ∀ id ob, m' id = some ob → σ.m id = some ob)

include hT h hd hm in
theorem good_clear {t : TypeId} {x : Operand} (ho : o.op = .call { callee := .builtin .clear, args := #[x], argTypes := #[t] }) (hk : opClear T m' t (σ.ev x) K) : Good P w0 A locs σ a w o K := by
  have hrun : ∀ (w' : World), (Builtin.clear_ #[t] o.type #[a.eval x]).run P w = .ok (.tuple #[]) w' → (execOp a.eval o).run P w = .ok (.value (.tuple #[])) w' := fun w' hr => by
    simp [execOp, ho, resolve, invoke, builtin, hr]
  unfold opClear at hk
  split at hk
  · rename_i e _ _ _ id off len ht e1
    have hu := hT.slice ht rfl
    split at hk
    · rename_i te ty sz rows hte hmm
      have hmm' := hm _ _ hmm
      obtain ⟨rfl, hK⟩ := hk
      obtain ⟨i, z, hi, hsz, hby, hz, hzall⟩ := hT.info hte
      have hzl := hT.zlen hte
      have hzs : z.cells.size = te.size := by have := (zall_rep w (fun _ => False) _ _ hzall).1; simpa [hzl] using this
      have hx := h.ev x
      rw [e1] at hx
      simp only [AvRep, AvRep0, hmm'] at hx
      obtain ⟨hle, hx⟩ := hx
      have hv0 : AvRep w (Bl A β σ.m) β σ.m (.tup []) (.tuple #[]) := ⟨#[], rfl, rfl, fun i a hi => by simp at hi⟩
      obtain ⟨hrows, hpos, hob⟩ := h.ob id _ hmm'
      by_cases hl0 : len = 0
      · subst hl0
        have hr : (Builtin.clear_ #[t] o.type #[a.eval x]).run P w = .ok (.tuple #[]) w := by
          rcases hx with ⟨_, hv⟩ | ⟨l, ad, _, hv, _⟩ <;> rw [hv] <;> simp [Builtin.clear_, run_underlying hu]
        have hm2 : upm σ.m [(id, .arr ty te.size (clearR rows off 0 te.zero))] = σ.m := by
          funext j
          show upd σ.m id _ j = _
          by_cases hj : j = id
          · subst hj
            rw [upd_same, hmm']
            simp [clearR]
          · rw [upd_other _ _ hj]
        refine ⟨_, β, _, w, hK, .inl (hrun w hr), Sim.app hd ?_ ?_⟩
        · show Sim w0 A locs β { σ with m := upm σ.m [(id, .arr ty te.size (clearR rows off 0 te.zero))] } a w
          rw [hm2]; exact h
        · show AvRep w (Bl A β (upm σ.m [(id, .arr ty te.size (clearR rows off 0 te.zero))])) β (upm σ.m [(id, .arr ty te.size (clearR rows off 0 te.zero))]) (.tup []) (.tuple #[])
          rw [hm2]; exact hv0
      · rcases hx with ⟨hβ, hv⟩ | ⟨l, ad, hl, hv, hot, had⟩
        · exfalso
          rcases hob with ⟨_, rfl⟩ | ⟨l', cs, hl', _⟩
          · simp at hle; omega
          · rw [hβ] at hl'; cases hl'
        · rcases hob with ⟨hβ', hr0⟩ | ⟨l', cs, hl', heap, hcsz, hrt, htm, hcs⟩
          · rw [hl] at hβ'; cases hβ'
          · rw [hl] at hl'; injection hl' with hl'; subst hl'
            have had := had (by omega)
            subst had
            have hfit : l.base + off * te.size + len * te.size ≤ cs.size := by
              have : (off + len) * te.size ≤ l.tot * te.size := Nat.mul_le_mul_right _ (by omega)
              rw [Nat.add_mul] at this
              omega
            have hzn : (Builtin.zeroCells z.cells len).toList.length = len * te.size := by
              rw [Array.length_toList, size_zeroCells, hzs]
            have h1 : ∀ v ∈ (Builtin.zeroCells z.cells len).toList, v.oneCell' = true := by
              intro v hv'
              simp only [Builtin.zeroCells, Array.mem_toList_iff, Array.mem_map, Array.mem_range] at hv'
              obtain ⟨j, hj, rfl⟩ := hv'
              have hq : j % z.cells.size < z.cells.size := Nat.mod_lt _ (by omega)
              rw [getElem!_pos z.cells _ hq]
              exact zall_one hzall _ (by rw [Array.mem_toList_iff]; exact Array.getElem_mem hq)
            obtain ⟨w', cs', hr', hh, hsz', hcs', hoth, hws, hos, htp, hout, hdr⟩ := run_storeCells (P := P) (w := w) l.b (l.base + off * te.size) ty (Builtin.zeroCells z.cells len).toList cs heap (by rw [hzn]; exact hfit) h1
            have hr : (Builtin.clear_ #[t] o.type #[a.eval x]).run P w = .ok (.tuple #[]) w' := by
              rw [hv]
              obtain ⟨n, rfl⟩ : ∃ n, len = n + 1 := ⟨len - 1, by omega⟩
              have hzv : (zeroValue e).run P w = .ok z w := by simp [zeroValue, typeInfo, hi, hz]
              simp [Builtin.clear_, run_underlying hu, hzv, hr']
            have hrows' : ∀ r ∈ clearR rows off len te.zero, r.length = te.size := by
              intro r hr
              simp only [clearR, List.mem_append] at hr
              rcases hr with (hr | hr) | hr
              · exact hrows r (List.mem_of_mem_take hr)
              · rw [List.eq_of_mem_replicate hr, hzl]
              · exact hrows r (List.mem_of_mem_drop hr)
            have hlen : (clearR rows off len te.zero).length = rows.length := by simp [clearR]; omega
            have hs := h.write (o' := .arr ty te.size (clearR rows off len te.zero)) hmm' rfl rfl (.inr ⟨_, _, rfl, by rw [hlen]; exact Nat.le_refl _⟩) hl (fun b hb => hoth b (fun e => hb (.inl e.symm))) hws hos htp hout (Nat.le_of_eq hdr.symm) (fun k g => ⟨hrows', hpos, .inr ⟨l, cs', hl, hh, by rw [hsz', hcsz], by rw [hlen]; exact hrt, htm, fun j d hj => by
              obtain ⟨i', q, r', hj', hq, hi', hrq⟩ := flat_inv _ hrows' j d hj
              subst hj'
              rw [hcs', ← Nat.add_assoc, hzn]
              by_cases hin : off ≤ i' ∧ i' < off + len
              · have e2 : r' = te.zero := by
                  simp only [clearR] at hi'
                  rw [List.getElem?_append_left (by simp; omega), List.getElem?_append_right (by simp; omega), List.getElem?_replicate] at hi'
                  split at hi'
                  · injection hi' with hi'; exact hi'.symm
                  · cases hi'
                subst e2
                have hlo : off * te.size ≤ i' * te.size := Nat.mul_le_mul_right _ hin.1
                have hhi : (i' + 1) * te.size ≤ (off + len) * te.size := Nat.mul_le_mul_right _ (by omega)
                rw [Nat.succ_mul, Nat.add_mul] at hhi
                rw [if_pos (by omega)]
                have e3 : l.base + i' * te.size + q - (l.base + off * te.size) = (i' - off) * te.size + q := by rw [Nat.sub_mul]; omega
                rw [e3, zeroCells_at z.cells len te.size hzs (i' - off) q (by omega) hq]
                obtain ⟨v', hv1, hrep⟩ := (zall_rep w' (Bl A β σ.m) _ _ hzall).2 q d hrq
                have : z.cells[q]? = some v' := by simpa using hv1
                simp only [Array.getD_eq_getD_getElem?, this, Option.getD_some]
                exact hrep
              · have hno : ¬ (l.base + off * te.size ≤ l.base + i' * te.size + q ∧ l.base + i' * te.size + q < l.base + off * te.size + len * te.size) := by
                  rcases Nat.lt_or_ge i' off with h6 | h6
                  · have : (i' + 1) * te.size ≤ off * te.size := Nat.mul_le_mul_right _ (by omega)
                    rw [Nat.succ_mul] at this
                    omega
                  · have : (off + len) * te.size ≤ i' * te.size := Nat.mul_le_mul_right _ (by omega)
                    rw [Nat.add_mul] at this
                    omega
                rw [if_neg hno]
                have hold : rows[i']? = some r' := by
                  simp only [clearR] at hi'
                  rcases Nat.lt_or_ge i' off with h6 | h6
                  · rw [List.append_assoc, List.getElem?_append_left (by simp; omega), List.getElem?_take, if_pos h6] at hi'
                    exact hi'
                  · rw [List.getElem?_append_right (by simp; omega), List.getElem?_drop] at hi'
                    simp only [List.length_append, List.length_take, List.length_replicate] at hi'
                    have e4 : off + len + (i' - (min off rows.length + len)) = i' := by omega
                    rw [e4] at hi'
                    exact hi'
                have := hcs _ d (flat_at rows hrows i' r' hold q d hrq)
                rw [← Nat.add_assoc] at this
                exact this.keep k⟩⟩)
            refine ⟨_, β, _, w', hK, .inl (hrun w' hr), Sim.app hd hs ?_⟩
            exact ⟨#[], rfl, rfl, fun i a hi => by simp at hi⟩
    · exact hk.elim
  · exact hk.elim
end

def fnOf : AV → Option (FuncId × List AV)
  | .imm (.fn f caps) => some (f, caps.map .imm)
  | .clo f ids => some (f, ids.map fun i => .box i 0)
  | _ => none

def opNil (m : Nat → Option O) (x : AV) (K : Eff → Prop) : Prop :=
  match x with
  | .box id off => match m id with | some (.box _ _) => K ⟨.box id off, []⟩ | _ => False
  | .eptr id r off => match m id with | some (.arr _ _ _) => K ⟨.eptr id r off, []⟩ | _ => False
  | .imm (.ptr ds) => K ⟨.imm (.ptr ds), []⟩
  | .imm (.fn f caps) => K ⟨.imm (.fn f caps), []⟩
  | .clo f ids => K ⟨.clo f ids, []⟩
  | _ => False

def opBuiltin (T : TypeId → Option TI) (m : Nat → Option O) (ep : Nat) (o : Oper) (b : Builtin) (args : List AV) (ts : List TypeId) (K : Eff → Prop) : Prop :=
  match b, args, ts with
  | .len, [x], [t] => opLen T m t x K
  | .append, [x, y], [t, t'] => t' = t ∧ opAppend T m ep o t x y K
  | .min, [x, y], [_, _] => opMinMax false x y K
  | .max, [x, y], [_, _] => opMinMax true x y K
  | .clear, [x], [t] => opClear T m t x K
  | _, _, _ => False

/-- Whether a slice is nil: of one without elements it may be either. -/
def nilness (m : Nat → Option O) (x : AV) (K : Bool → Prop) : Prop :=
  match x with
  | .imm (.list rows) => ∀ b, (rows ≠ [] → b = false) → K b
  | .own id _ len => (match m id with | some (.arr _ _ _) => True | _ => False) ∧ ∀ b, (0 < len → b = false) → K b
  | _ => False

def opNilCmp (T : TypeId → Option TI) (m : Nat → Option O) (op : BinOp) (t : TypeId) (x : AV) (K : Eff → Prop) : Prop :=
  match T t with
  | some ⟨.slice _, _, _, _⟩ =>
    match op with
    | .eql => nilness m x fun b => K ⟨.imm (.bool b), []⟩
    | .neq => nilness m x fun b => K ⟨.imm (.bool (!b)), []⟩
    | _ => False
  | _ => False

def opCmpV (P : Program) (T : TypeId → Option TI) (op : BinOp) (t : TypeId) (xv yv : AV) (K : Eff → Prop) : Prop :=
  match xv, yv with
  | .imm (.agg ds), .imm (.agg ds') => opAggEq P op t ds ds' K
  | _, _ => opBin T op t xv yv K

def opCmp (P : Program) (T : TypeId → Option TI) (m : Nat → Option O) (op : BinOp) (t : TypeId) (y : Operand) (xv yv : AV) (K : Eff → Prop) : Prop :=
  match y with
  | .const (.slice none 0 0) => opNilCmp T m op t xv K
  | _ => opCmpV P T op t xv yv K

def amOp (P : Program) (T : TypeId → Option TI) (ρ : Operand → AV) (m : Nat → Option O) (ep : Nat) (o : Oper) (K : Eff → Prop) : Prop :=
  match o.op with
  | .move x => opMove T m ep o x (ρ x) K
  | .assign x => opMove T m ep o x (ρ x) K
  | .pick c a b => opPick (ρ c) (ρ a) (ρ b) K
  | .alloc t => opAlloc T m ep o t K
  | .box t x => opBox m ep o t (ρ x) K
  | .build t parts => opBuild T m t (parts.toList.map fun x => (x.1, ρ x.2)) K
  | .buildSlice t len parts => opBuildSlice T m ep o t len (parts.toList.map fun x => (x.1, ρ x.2)) K
  | .load t x => opLoad T m t (ρ x) K
  | .store t x y => opStore T m t (ρ x) (ρ y) K
  | .nilCheck x => opNil m (ρ x) K
  | .binOp op t x y _ => opCmp P T m op t y (ρ x) (ρ y) K
  | .unOp op _ x => opUn op (ρ x) K
  | .convert src dst x => opConvB T m ep o src dst (ρ x) K
  | .makeFunc fn first captured => opFunc fn (first.toList.map ρ) (captured.toList.map ρ) K
  | .makeSlice t l c => opMake T m ep o t (ρ l) (ρ c) K
  | .slice t x lo hi mx => opSlice T m t (ρ x) (lo.map ρ) (hi.map ρ) (mx.map ρ) K
  | .fieldAddr t x f => opFieldAddr T m t (ρ x) f K
  | .field t x f => opField T m t (ρ x) f K
  | .indexAddr t x i => opIndexAddr T m t (ρ x) (ρ i) K
  | .index t x i => opIndex T t (ρ x) (ρ i) K
  | .extract x i => opExtract (ρ x) i K
  | .call c =>
    match c.callee with
    | .builtin b => opBuiltin T m ep o b (c.args.toList.map ρ) c.argTypes.toList K
    | .value f => match fnOf (ρ f) with | some (fid, caps) => opCall P m ep o fid (fun md => evMode ρ md c.args.toList ++ caps) K | none => False
    | _ => False
  | _ => False

/-- An operation comes to one of the effects that K takes. -/
def GoodOp (P : Program) (w0 : World) (A : Nat → Prop) (locs : List (Option Loc)) (σ : S) (a : Act) (w : World) (o : Oper) (K : Eff → Prop) : Prop :=
  ∀ (next : Act → World → Prop) (Q : Exit → Act → World → Prop), (∀ e, K e → ∀ β' a' w', Sim w0 A locs β' (σ.app o.dst e) a' w' → next a' w') → o.wp P a w next Q

section
variable {P : Program} {T : TypeId → Option TI} (hT : TOk P T) {w0 w : World} {A : Nat → Prop} {locs : List (Option Loc)} {β : Nat → Option Loc} {σ : S} {a : Act}
variable (h : Sim w0 A locs β σ a w) {o : Oper} (hd : ∀ d, o.dst = some d → d < σ.n) {K : Eff → Prop} {m' : Nat → Option O} (hm : ∀ id ob, m' id = some ob → σ.m id = some ob)

theorem Good.op (hg : Good P w0 A locs σ a w o K) : GoodOp P w0 A locs σ a w o K := by
  intro next Q hk
  obtain ⟨e, β', v, w', hK, hrun, hs⟩ := hg
  unfold Oper.wp
  rcases hrun with hrun | ⟨hrun, rfl⟩
  · rw [hrun]; exact hk e hK β' _ w' hs
  · rw [hrun]; exact hk e hK β' _ w' hs

include h hd hm in
theorem good_nil {x : Operand} (ho : o.op = .nilCheck x) (hk : opNil m' (σ.ev x) K) : Good P w0 A locs σ a w o K := by
  have hx := h.ev x
  unfold opNil at hk
  split at hk
  · rename_i id off e
    split at hk
    · rename_i ty cells hmm
      rw [e] at hx
      have hx' := hx
      simp only [AvRep, AvRep0, BoxAt, hm _ _ hmm] at hx'
      obtain ⟨l, _, hv⟩ := hx'
      exact h.val hd hk (v := a.eval x) (by simp [execOp, ho, hv]) hx
    · exact hk.elim
  · rename_i id r off e
    split at hk
    · rename_i ty sz rows hmm
      rw [e] at hx
      have hx' := hx
      simp only [AvRep, AvRep0, hm _ _ hmm] at hx'
      obtain ⟨_, l, _, hv⟩ := hx'
      exact h.val hd hk (v := a.eval x) (by simp [execOp, ho, hv]) hx
    · exact hk.elim
  · rename_i ds e
    rw [e] at hx
    obtain ⟨ad, g, hv, _⟩ := rep_ptr hx
    exact h.val hd hk (v := a.eval x) (by simp [execOp, ho, hv]) hx
  · rename_i f caps e
    rw [e] at hx
    have hx' : Rep w (Bl A β σ.m) (a.eval x) (.fn f caps) := hx
    have hv : ∃ vs, a.eval x = .func (.func f) #[] vs := by
      generalize a.eval x = v at hx'
      cases hx'
      exact ⟨_, rfl⟩
    obtain ⟨vs, hv⟩ := hv
    exact h.val hd hk (v := a.eval x) (by simp [execOp, ho, hv]) hx
  · rename_i f ids e
    rw [e] at hx
    obtain ⟨vs, hv, r⟩ := id hx
    exact h.val hd hk (v := a.eval x) (by simp [execOp, ho, hv]) hx
  · exact hk.elim

include hT h hd hm in
theorem good_nilCmp {op : BinOp} {t t' : TypeId} {x : Operand} (ho : o.op = .binOp op t x (.const (.slice none 0 0)) t') (hk : opNilCmp T m' op t (σ.ev x) K) : Good P w0 A locs σ a w o K := by
  unfold opNilCmp at hk
  split at hk
  · rename_i e sz by' z ht
    have hu : P.underlying t = some (.slice e) := hT.slice ht rfl
    have hx := h.ev x
    -- the slot holds a slice; its nilness is one that K takes
    have key : ∀ F : Bool → Prop, nilness m' (σ.ev x) F → ∃ ad n c, a.eval x = .slice ad n c ∧ F ad.isNone := by
      intro F hF
      unfold nilness at hF
      split at hF
      · rename_i rows e1
        rw [e1] at hx
        have hx' : Rep w (Bl A β σ.m) (a.eval x) (.list rows) := hx
        generalize a.eval x = v at hx'
        cases hx' with
        | nil ad c => exact ⟨ad, 0, c, rfl, hF _ fun h => absurd rfl h⟩
        | list ad n c _ sz g _ _ _ _ _ _ _ _ => exact ⟨some ad, n, c, rfl, hF _ fun _ => rfl⟩
      · rename_i id off len e1
        obtain ⟨hmm, hF⟩ := hF
        split at hmm
        · rename_i ty sz rows hmm'
          rw [e1] at hx
          simp only [AvRep, AvRep0, hm _ _ hmm'] at hx
          obtain ⟨hle, hx⟩ := hx
          rcases hx with ⟨hβ, hv⟩ | ⟨l, ad, _, hv, _, _⟩
          · refine ⟨none, 0, 0, hv, hF _ fun hlen => ?_⟩
            obtain ⟨_, _, hob⟩ := h.ob id _ (hm _ _ hmm')
            rcases hob with ⟨_, hr⟩ | ⟨l, _, hl, _⟩
            · rw [hr] at hle; simp at hle; omega
            · rw [hβ] at hl; cases hl
          · exact ⟨some ad, _, _, hv, hF _ fun _ => rfl⟩
        · exact hmm.elim
      · exact hF.elim
    have hy : a.eval (.const (.slice none 0 0)) = .slice none 0 0 := rfl
    split at hk
    · obtain ⟨ad, n, c, hv, hK⟩ := key _ hk
      refine h.val hd hK (v := .bool ad.isNone) ?_ (.bool _)
      have e1 : ∀ w : World, (Op.equal t (.slice ad n c) (.slice none 0 0)).run P w = .ok ad.isNone w := fun w => Lib.run_equalIn_slice_nil w 9999 t e ad n c 0 0 hu
      have e2 : binOp .eql t (.slice ad n c) (.slice none 0 0) = (do pure (.bool (← Op.equal t (.slice ad n c) (.slice none 0 0)))) := rfl
      unfold execOp
      simp only [ho, hv, hy, eqGuard_at_slice, e2, Sem.run_bind, Sem.run_pure, Result.andThen_ok, e1]
    · obtain ⟨ad, n, c, hv, hK⟩ := key _ hk
      refine h.val hd hK (v := .bool (!ad.isNone)) ?_ (.bool _)
      have e1 : ∀ w : World, (Op.equal t (.slice ad n c) (.slice none 0 0)).run P w = .ok ad.isNone w := fun w => Lib.run_equalIn_slice_nil w 9999 t e ad n c 0 0 hu
      have e2 : binOp .neq t (.slice ad n c) (.slice none 0 0) = (do pure (.bool (!(← Op.equal t (.slice ad n c) (.slice none 0 0))))) := rfl
      unfold execOp
      simp only [ho, hv, hy, eqGuard_at_slice, e2, Sem.run_bind, Sem.run_pure, Result.andThen_ok, e1]
    · exact hk.elim
  · exact hk.elim

theorem mixView_sub {m₁ m₂ : Nat → Option O} (hsub : ∀ id ob, m₁ id = some ob → m₂ id = some ob) : ∀ (l : List AV) (x : List D × List Nat), mixView m₁ l = some x → mixView m₂ l = some x
  | [], _, h => h
  | .imm d :: r, x, h => by
    simp only [mixView, Option.map_eq_some_iff] at h ⊢
    obtain ⟨y, h1, h2⟩ := h
    exact ⟨y, mixView_sub hsub r y h1, h2⟩
  | .own id off len :: r, x, h => by
    simp only [mixView] at h ⊢
    split at h
    · rename_i hm
      rw [hsub _ _ hm]
      simp only [Option.map_eq_some_iff] at h ⊢
      obtain ⟨y, h1, h2⟩ := h
      exact ⟨y, mixView_sub hsub r y h1, h2⟩
    · cases h
  | .dead :: _, _, h => by simp [mixView] at h
  | .undef :: _, _, h => by simp [mixView] at h
  | .box _ _ :: _, _, h => by simp [mixView] at h
  | .eptr _ _ _ :: _, _, h => by simp [mixView] at h
  | .clo _ _ :: _, _, h => by simp [mixView] at h
  | .tup _ :: _, _, h => by simp [mixView] at h
  | .tv _ _ :: _, _, h => by simp [mixView] at h
  | .mix _ :: _, _, h => by simp [mixView] at h

theorem argIn_sub {m₁ m₂ : Nat → Option O} (hsub : ∀ id ob, m₁ id = some ob → m₂ id = some ob) {k : Nat} {av : AV} {r : In × List Nat × List Nat × Option Nat} (hc : argIn m₁ k av = some r) : argIn m₂ k av = some r := by
  have hvc : ∀ id off ds, viewCells m₁ id off = some ds → viewCells m₂ id off = some ds := fun id off ds hv => by
    unfold viewCells at hv ⊢
    split at hv
    · rename_i hmm; rw [hsub _ _ hmm]; exact hv
    · cases hv
  have hvl : ∀ ids ds, viewClo m₁ ids = some ds → viewClo m₂ ids = some ds := by
    intro ids
    induction ids with
    | nil => intro ds h; exact h
    | cons id r ih =>
      intro ds h
      simp only [viewClo] at h ⊢
      split at h
      · rename_i cs rest h1 h2
        rw [hvc _ _ _ h1, ih _ h2]; exact h
      · cases h
  unfold argIn at hc ⊢
  split at hc
  · exact hc
  · split at hc
    · rename_i hmm; rw [hsub _ _ hmm]; exact hc
    · cases hc
  · split at hc
    · rename_i hmm; rw [hsub _ _ hmm]; exact hc
    · cases hc
  · split at hc
    · rename_i hmm; rw [hsub _ _ hmm]; exact hc
    · cases hc
  · split at hc
    · rename_i hmm; rw [hvc _ _ _ hmm]; exact hc
    · cases hc
  · split at hc
    · rename_i hmm; rw [hsub _ _ hmm]; exact hc
    · cases hc
  · split at hc
    · rename_i hmm; rw [hvl _ _ hmm]; exact hc
    · cases hc
  · split at hc
    · rename_i hmm; rw [hsub _ _ hmm]; exact hc
    · cases hc
  · split at hc
    · rename_i hmm; rw [hsub _ _ hmm]; exact hc
    · cases hc
  · split at hc
    · rename_i hmm; rw [hsub _ _ hmm]; exact hc
    · cases hc
  · split at hc
    · rename_i hmm; rw [hsub _ _ hmm]; exact hc
    · cases hc
  · split at hc
    · rename_i hmm; rw [mixView_sub hsub _ _ hmm]; exact hc
    · cases hc
  · split at hc
    · rename_i hmm; rw [mixView_sub hsub _ _ hmm]; exact hc
    · cases hc
  · cases hc

theorem argsIn_sub {m₁ m₂ : Nat → Option O} (hsub : ∀ id ob, m₁ id = some ob → m₂ id = some ob) : ∀ (args : List AV) (md : List Nat) (r : List In × List Nat × List Nat × List (Option Nat)), argsIn m₁ md args = some r → argsIn m₂ md args = some r
  | [], md, r, hc => hc
  | av :: l, md, r, hc => by
    simp only [argsIn] at hc ⊢
    split at hc
    · rename_i h1 h2
      rw [argIn_sub hsub h1, argsIn_sub hsub l _ _ h2]; exact hc
    · cases hc

theorem freshAll_sub {m₁ m₂ : Nat → Option O} : ∀ (l : List (Nat × O)), (∀ x ∈ l, m₁ x.1 = none → m₂ x.1 = none) → freshAll m₁ l → freshAll m₂ l
  | [], _, _ => trivial
  | (i, o) :: l, hn, h => ⟨hn (i, o) (by simp) h.1, freshAll_sub l (fun x hx => hn x (by simp [hx])) h.2⟩

theorem evMode_len {ρ : Operand → AV} : ∀ (md : List Nat) (l : List Operand), (evMode ρ md l).length = l.length
  | _, [] => rfl
  | md, x :: xs => by simp only [evMode, List.length_cons, evMode_len md.tail xs]

theorem evMode_congr {ρ ρ' : Operand → AV} : ∀ (md : List Nat) (l : List Operand), (∀ x ∈ l, ρ x = ρ' x) → evMode ρ md l = evMode ρ' md l
  | _, [], _ => rfl
  | md, x :: xs, hx => by
    have ih := evMode_congr md.tail xs (fun y hy => hx y (List.mem_cons_of_mem _ hy))
    have h0 := hx x (List.mem_cons_self ..)
    simp only [evMode, ih]
    congr 1
    split
    · rfl
    · exact h0

include h in
theorem evMode_at : ∀ (md : List Nat) (l : List Operand) (i : Nat) (av : AV), (evMode σ.ev md l)[i]? = some av → ∃ x, l[i]? = some x ∧ AvRep w (Bl A β σ.m) β σ.m av (a.eval x)
  | _, [], i, av, hi => by simp [evMode] at hi
  | md, x :: xs, i, av, hi => by
    cases i with
    | zero =>
      simp only [evMode, List.getElem?_cons_zero, Option.some.injEq] at hi
      refine ⟨x, rfl, ?_⟩
      rw [← hi]
      split
      · exact Rep.other _
      · exact h.ev _
    | succ i =>
      simp only [evMode, List.getElem?_cons_succ] at hi
      obtain ⟨y, hy, hr⟩ := evMode_at md.tail xs i av hi
      exact ⟨y, by simpa using hy, hr⟩

include h hd hm in
theorem good_call {f : Operand} {args : Array Operand} {ts : Array TypeId} (ho : o.op = .call { callee := .value f, args := args, argTypes := ts }) {fid : FuncId} {caps : List AV} (hf : fnOf (σ.ev f) = some (fid, caps))
    (hn : ∀ j, m' (rid σ.ep (o.dst.getD 0) j) = none → σ.m (rid σ.ep (o.dst.getD 0) j) = none)
    (hk : opCall P m' σ.ep o fid (fun md => evMode σ.ev md args.toList ++ caps) K) : GoodOp P w0 A locs σ a w o K := by
  intro next Q hnext
  obtain ⟨md, out, hk⟩ := hk
  split at hk
  · rename_i ins vs fz gs hin
    obtain ⟨hok, hsep, ⟨hnd, hv⟩, hfr, hK⟩ := hk
    have hin' := argsIn_sub hm _ _ _ hin
    have hfr' : freshAll σ.m (resUp σ.ep (o.dst.getD 0) 0 out.res) := freshAll_sub _ (fun x hx => by
      rw [resUp_trip] at hx
      obtain ⟨t, ht, rfl⟩ := List.mem_map.1 hx
      obtain ⟨k, ty, sz, rows, _, rfl⟩ := mem_tripRes ht
      exact hn _) hfr
    obtain ⟨⟨fn, hfn, hname, hbody⟩, hlen, hmut, hcall⟩ := hok
    -- the function's value, its captured variables
    have hfv : ∃ cvs : Array Value, a.eval f = .func (.func fid) #[] cvs ∧ cvs.size = caps.length ∧ ∀ (i : Nat) (av : AV), caps[i]? = some av → AvRep w (Bl A β σ.m) β σ.m av (cvs.getD i Go.undef) := by
      have hx := h.ev f
      unfold fnOf at hf
      split at hf
      · rename_i f' cs e
        simp only [Option.some.injEq, Prod.mk.injEq] at hf
        obtain ⟨rfl, rfl⟩ := hf
        rw [e] at hx
        have hx' : Rep w (Bl A β σ.m) (a.eval f) (.fn f' cs) := hx
        generalize a.eval f = v at hx'
        cases hx' with
        | fn f'' cvs ds hs hj =>
          refine ⟨cvs, rfl, by simpa using hs, fun i av hi => ?_⟩
          simp only [List.getElem?_map, Option.map_eq_some_iff] at hi
          obtain ⟨d, hd', rfl⟩ := hi
          exact hj i d hd'
      · rename_i f' ids e
        simp only [Option.some.injEq, Prod.mk.injEq] at hf
        obtain ⟨rfl, rfl⟩ := hf
        rw [e] at hx
        obtain ⟨cvs, hv1, hv2, hv3⟩ := hx
        refine ⟨cvs, hv1, by simpa using hv2, fun i av hi => ?_⟩
        simp only [List.getElem?_map, Option.map_eq_some_iff] at hi
        obtain ⟨id, hid, rfl⟩ := hi
        exact hv3 i id hid
      · cases hf
    obtain ⟨cvs, hfe, hcs, hcv⟩ := hfv
    have hvals : ∀ (i : Nat) (av : AV), (evMode σ.ev md args.toList ++ caps)[i]? = some av → AvRep w (Bl A β σ.m) β σ.m av ((args.map a.eval ++ cvs).getD i Go.undef) := by
      intro i av hi
      rw [List.getElem?_append, evMode_len, Array.length_toList] at hi
      simp only [Array.getD_eq_getD_getElem?, Array.getElem?_append, Array.size_map]
      split at hi
      · rename_i hlt
        rw [if_pos hlt]
        obtain ⟨x, hx, hav⟩ := evMode_at h _ _ _ _ hi
        have : args[i]? = some x := by simpa using hx
        simp only [Array.getElem?_map, this, Option.map_some, Option.getD_some]
        exact hav
      · rename_i hlt
        rw [if_neg hlt]
        have := hcv _ av hi
        simpa [Array.getD_eq_getD_getElem?] using this
    have hsz : (args.map a.eval ++ cvs).size = (evMode σ.ev md args.toList ++ caps).length := by simp [hcs, evMode_len]
    have hcs' := callee_sim h hin' hnd hv (args.map a.eval ++ cvs) hsz hvals
    have hrun : (execOp a.eval o).run P w = .ok (.enter fid (args.map a.eval ++ cvs)) w := by
      have hcf : ∀ (vs : Array Value), (callFunc fid vs).run P w = .ok (.enter fid vs) w := fun vs => by
        have hb : ¬ fn.body = none := fun e => by rw [e] at hbody; cases hbody
        have hname' : ¬ fn.name = "runtime.NumGoroutine" := by simpa using hname
        simp [callFunc, hfn, hname', hb]
      simp only [execOp, ho, resolve, Deferred.ofValue, hfe, Sem.run_bind, Sem.run_pure, Result.andThen_ok, invoke, Array.empty_append, hcf]
    unfold Oper.wp
    rw [hrun, Oper.upon_enter]
    have hln : (args.map a.eval ++ cvs).size = ins.length := by rw [hsz, (argsIn_at _ _ _ _ _ _ hin').1]
    refine (hcall w _ _ _ _ hcs' hln).mono fun e w' ⟨vals, β', he, hs⟩ => ?_
    subst he
    obtain ⟨β'', hs', hv'⟩ := call_back h hin' hnd hv (ep := σ.ep) (d := o.dst.getD 0) hsep hfr' hmut hlen hs
    exact hnext _ hK β'' _ w' (Sim.app hd hs' hv')
  · exact hk.elim

include hT h hd hm in
/-- Every operation that the abstract machine takes stands for the model's. -/
theorem good_op (hn : ∀ d, o.dst = some d → ∀ j, m' (rid σ.ep d j) = none → σ.m (rid σ.ep d j) = none) (hn0 : ∀ j, o.dst = none → m' (rid σ.ep 0 j) = none → σ.m (rid σ.ep 0 j) = none)
    (hk : amOp P T σ.ev m' σ.ep o K) : GoodOp P w0 A locs σ a w o K := by
  have hn' : ∀ d, o.dst = some d → m' (nid σ.ep d) = none → σ.m (nid σ.ep d) = none := fun d hdd hz => by
    have := hn d hdd 0
    simp only [rid, Nat.zero_mul, Nat.add_zero] at this
    exact this hz
  unfold amOp at hk
  split at hk
  · rename_i x ho; exact (good_move h hd hn' (.inl ho) hk).op
  · rename_i x ho; exact (good_move h hd hn' (.inr ho) hk).op
  · rename_i c x y ho; exact (good_pick h hd ho hk).op
  · rename_i t ho; exact (good_alloc hT h hd hn' ho hk).op
  · rename_i t x ho; exact (good_box h hd hm hn' ho hk).op
  · rename_i t parts ho; exact (good_build hT h hd hm ho hk).op
  · rename_i t len parts ho; exact (good_buildSlice hT h hd hm hn' ho hk).op
  · rename_i t x ho; exact (good_load hT h hd hm ho hk).op
  · rename_i t x y ho; exact (good_store hT h hd hm ho hk).op
  · rename_i x ho; exact (good_nil h hd hm ho hk).op
  · rename_i op t x y t' ho
    unfold opCmp at hk
    split at hk
    · exact (good_nilCmp hT h hd hm ho hk).op
    · unfold opCmpV at hk
      split at hk
      · rename_i e1 e2
        exact (good_aggEq h hd ho e1 e2 hk).op
      · exact (good_bin hT h hd ho hk).op
  · rename_i op t x ho; exact (good_un h hd ho hk).op
  · rename_i src dst x ho; exact (good_convB hT h hd hm hn' ho hk).op
  · rename_i fn first captured ho; exact (good_func h hd ho hk).op
  · rename_i t l c ho; exact (good_make hT h hd hn' ho hk).op
  · rename_i t x lo hi mx ho; exact (good_slice hT h hd hm ho hk).op
  · rename_i t x f ho; exact (good_fieldAddr hT h hd hm ho hk).op
  · rename_i t x f ho; exact (good_field hT h hd hm ho hk).op
  · rename_i t x i ho; exact (good_indexAddr hT h hd hm ho hk).op
  · rename_i t x i ho; exact (good_index hT h hd ho hk).op
  · rename_i x i ho; exact (good_extract h hd ho hk).op
  · rename_i c ho
    obtain ⟨callee, args, ts⟩ := c
    simp only at hk
    split at hk
    · rename_i b
      unfold opBuiltin at hk
      split at hk
      · rename_i x t e1 e2
        obtain ⟨y, rfl, rfl⟩ : ∃ y, args = #[y] ∧ x = σ.ev y := by
          cases args with
          | mk l => match l, e1 with
            | [y], e1 => simp at e1; exact ⟨y, rfl, e1.symm⟩
        obtain rfl : ts = #[t] := by cases ts; simp at e2; simp [e2]
        exact (good_len hT h hd hm ho hk).op
      · rename_i x y t t' e1 e2
        obtain ⟨rfl, hk⟩ := hk
        obtain ⟨x', y', rfl, rfl, rfl⟩ : ∃ x' y', args = #[x', y'] ∧ x = σ.ev x' ∧ y = σ.ev y' := by
          cases args with
          | mk l => match l, e1 with
            | [x', y'], e1 => simp at e1; exact ⟨x', y', rfl, e1.1.symm, e1.2.symm⟩
        obtain rfl : ts = #[t', t'] := by cases ts; simp at e2; simp [e2]
        exact (good_append hT h hd hm hn' ho hk).op
      · rename_i x y t t' e1 e2
        obtain ⟨x', y', rfl, rfl, rfl⟩ : ∃ x' y', args = #[x', y'] ∧ x = σ.ev x' ∧ y = σ.ev y' := by
          cases args with
          | mk l => match l, e1 with
            | [x', y'], e1 => simp at e1; exact ⟨x', y', rfl, e1.1.symm, e1.2.symm⟩
        obtain rfl : ts = #[t, t'] := by cases ts; simp at e2; simp [e2]
        exact (good_min h hd ho hk).op
      · rename_i x y t t' e1 e2
        obtain ⟨x', y', rfl, rfl, rfl⟩ : ∃ x' y', args = #[x', y'] ∧ x = σ.ev x' ∧ y = σ.ev y' := by
          cases args with
          | mk l => match l, e1 with
            | [x', y'], e1 => simp at e1; exact ⟨x', y', rfl, e1.1.symm, e1.2.symm⟩
        obtain rfl : ts = #[t, t'] := by cases ts; simp at e2; simp [e2]
        exact (good_max h hd ho hk).op
      · rename_i x t e1 e2
        obtain ⟨y, rfl, rfl⟩ : ∃ y, args = #[y] ∧ x = σ.ev y := by
          cases args with
          | mk l => match l, e1 with
            | [y], e1 => simp at e1; exact ⟨y, rfl, e1.symm⟩
        obtain rfl : ts = #[t] := by cases ts; simp at e2; simp [e2]
        exact (good_clear hT h hd hm ho hk).op
      · exact hk.elim
    · rename_i f
      split at hk
      · rename_i fid caps hf
        refine good_call h hd hm ho hf (fun j => ?_) hk
        cases hdst : o.dst with
        | none => exact hn0 j hdst
        | some d => exact hn d hdst j
      · exact hk.elim
    · exact hk.elim
  · exact hk.elim

end
end Go.Am

/-! The abstract machine, part 17: regions in the text's order, code, loops. -/
namespace Go.Am
open Go

/-- One operation of a region. -/
def amOp1 (P : Program) (T : TypeId → Option TI) (o : Oper) (σ : S) (k : S → Prop) : Prop :=
  (match o.dst with | some d => d < σ.n | none => True) ∧ amOp P T σ.ev σ.m σ.ep o fun e => k (σ.app o.dst e)

/-- The slot that a guard looks at. -/
def gslot (ops : Array Oper) (j : Nat) : Option Nat := (ops[j]?).bind (·.dst)

/-- A step of another kind: told by what it does to whatever the state stands for. -/
def ExtOp (P : Program) (o : Oper) (σ : S) (k : S → Prop) : Prop :=
  ∀ (w0 : World) (A : Nat → Prop) (locs : List (Option Loc)) (β : Nat → Option Loc) (a : Act) (w : World), Sim w0 A locs β σ a w →
    ∀ (next : Act → World → Prop) (Q : Exit → Act → World → Prop), (∀ σ', k σ' → ∀ β' a' w', Sim w0 A locs β' σ' a' w' → next a' w') → o.wp P a w next Q

def amOps (P : Program) (T : TypeId → Option TI) (ops : Array Oper) : List Oper → S → (S → Prop) → Prop
  | [], σ, k => k σ
  | o :: rest, σ, k =>
    match o.guard with
    | none => amOp1 P T o σ (fun σ' => amOps P T ops rest σ' k) ∨ ExtOp P o σ fun σ' => amOps P T ops rest σ' k
    | some (j, want) =>
      match gslot ops j with
      | none => False
      | some s =>
        match σ.t s with
        | .imm (.bool b) => (b = want → amOp1 P T o { σ with t := upd σ.t s (.imm (.bool want)) } (fun σ' => amOps P T ops rest σ' k) ∨ ExtOp P o { σ with t := upd σ.t s (.imm (.bool want)) } fun σ' => amOps P T ops rest σ' k) ∧
            (b = !want → (match o.dst with | some d => d < σ.n | none => True) ∧ amOps P T ops rest (S.put { σ with t := upd σ.t s (.imm (.bool (!want))) } o.dst .undef) k)
        | .undef => (match o.dst with | some d => d < σ.n | none => True) ∧ amOps P T ops rest (σ.put o.dst .undef) k
        | _ => False

/-- Whatever the first state stands for, the second does. -/
def Ref (σ σ1 : S) : Prop := ∀ w0 A locs β a w, Sim w0 A locs β σ a w → ∃ β', Sim w0 A locs β' σ1 a w

def thenQ (k : S → Prop) (Q : Exit → S → Prop) : Exit → S → Prop
  | .normal, σ => k σ
  | e, σ => Q e σ

def blockQ (id : Nat) (Q : Exit → S → Prop) : Exit → S → Prop
  | .exit id', σ => if id' = id then Q .normal σ else Q (.exit id') σ
  | e, σ => Q e σ

def loopQ (I : Nat → S → Prop) (n : Nat) (Q : Exit → S → Prop) : Exit → S → Prop
  | .normal, σ => ∃ n' σ1, n' < n ∧ Ref σ σ1 ∧ I n' σ1
  | e, σ => Q e σ

/-- A state's assertion as one on slots and memory. -/
def lift (w0 : World) (A : Nat → Prop) (locs : List (Option Loc)) (Q : Exit → S → Prop) : Exit → Act → World → Prop :=
  fun e a w => ∃ σ β, Q e σ ∧ Sim w0 A locs β σ a w

section
variable {P : Program} {T : TypeId → Option TI} (hT : TOk P T) {w0 w : World} {A : Nat → Prop} {locs : List (Option Loc)} {β : Nat → Option Loc} {σ : S} {a : Act}

theorem yielded_of {ops : Array Oper} {j s : Nat} (hs : gslot ops j = some s) {b : Bool} (hb : a.tmps.getD s Go.undef = .bool b) : yielded ops a.tmps j = some b := by
  unfold yielded
  unfold gslot at hs
  rw [hs]
  simp only [Option.bind_some]
  have : a.tmps[s]? = some (.bool b) := by
    simp only [Array.getD_eq_getD_getElem?] at hb
    cases he : a.tmps[s]? with
    | none => rw [he] at hb; cases hb
    | some v => rw [he] at hb; simp at hb; rw [hb]
  rw [this]

theorem yielded_undef {ops : Array Oper} {j s : Nat} (hs : gslot ops j = some s) (hb : a.tmps.getD s Go.undef = Go.undef) : yielded ops a.tmps j = none := by
  unfold yielded
  unfold gslot at hs
  rw [hs]
  simp only [Option.bind_some]
  cases he : a.tmps[s]? with
  | none => rfl
  | some v =>
    have : v = Go.undef := by simpa [Array.getD_eq_getD_getElem?, he] using hb
    subst this
    rfl

/-- A slot's datum, said once more. -/
theorem Sim.same (h : Sim w0 A locs β σ a w) {s : Nat} {av : AV} (hs : σ.t s = av) : Sim w0 A locs β { σ with t := upd σ.t s av } a w := by
  have : upd σ.t s av = σ.t := by
    funext j
    unfold upd
    split
    · rename_i e; rw [e, hs]
    · rfl
  rw [this]; exact h

include hT in
theorem amOps_sound {ops : Array Oper} {Q : Exit → Act → World → Prop} : ∀ (l : List Oper) (σ : S) (k : S → Prop), amOps P T ops l σ k → ∀ (β : Nat → Option Loc) (a : Act) (w : World), Sim w0 A locs β σ a w →
    (∀ σ' β' a' w', k σ' → Sim w0 A locs β' σ' a' w' → Q .normal a' w') → wpList P ops Q l a w := by
  intro l
  induction l with
  | nil =>
    intro σ k hk β a w h hQ
    exact hQ σ β a w hk h
  | cons o rest ih =>
    intro σ k hk β a w h hQ
    have op1 : ∀ (σ1 : S), Sim w0 A locs β σ1 a w → amOp1 P T o σ1 (fun σ' => amOps P T ops rest σ' k) → o.wp P a w (wpList P ops Q rest) Q := by
      intro σ1 h1 h2
      obtain ⟨hd, h2⟩ := h2
      refine good_op hT h1 (fun d hdd => by rw [hdd] at hd; exact hd) (m' := σ1.m) (fun _ _ h => h) (fun _ _ _ h => h) (fun _ _ h => h) h2 _ _ ?_
      intro e hK β' a' w' hs
      exact ih _ k hK β' a' w' hs hQ
    unfold wpList
    simp only [amOps] at hk
    split at hk
    · rename_i hg
      rw [if_pos (by simp [Region.wanted, hg])]
      rcases hk with hk | hk
      · exact .inl (op1 σ h hk)
      · exact .inl (hk w0 A locs β a w h _ Q fun σ' h1 β' a' w' hs => ih σ' k h1 β' a' w' hs hQ)
    · rename_i j want hg
      split at hk
      · exact hk.elim
      · rename_i s hs
        split at hk
        · rename_i b hb
          have hv := h.slot s
          rw [hb] at hv
          have hv' := rep_bool hv
          have hy := yielded_of hs hv'
          by_cases hw : b = want
          · rw [if_pos (by simp [Region.wanted, hg, hy, hw])]
            subst hw
            rcases hk.1 rfl with hk1 | hk1
            · exact .inl (op1 _ (h.same hb) hk1)
            · exact .inl (hk1 w0 A locs β a w (h.same hb) _ Q fun σ' h1 β' a' w' hs => ih σ' k h1 β' a' w' hs hQ)
          · rw [if_neg (by simp [Region.wanted, hg, hy, hw])]
            have hbw : b = !want := by cases b <;> cases want <;> simp_all
            obtain ⟨hd, h2⟩ := hk.2 hbw
            subst hbw
            exact ih _ k h2 β _ w ((h.same hb).put (fun d hdd => by rw [hdd] at hd; exact hd) rfl) hQ
        · rename_i hb
          have hv := h.slot s
          rw [hb] at hv
          have hy := yielded_undef hs hv
          rw [if_neg (by simp [Region.wanted, hg, hy])]
          obtain ⟨hd, h2⟩ := hk
          exact ih _ k h2 β _ w (h.put (fun d hdd => by rw [hdd] at hd; exact hd) rfl) hQ
        · exact hk.elim

theorem Sim.epoch (h : Sim w0 A locs β σ a w) (n : Nat) : Sim w0 A locs β { σ with ep := n } a w :=
  { size := h.size, defers := h.defers, slot := h.slot, ob := h.ob, inj := h.inj, new := h.new, fr := h.fr, lt := h.lt, pm := h.pm }

end
end Go.Am

/-! The abstract machine, part 18: states written out, what a state may be weakened to, and a function's contract from its body. -/
namespace Go.Am
open Go

def lookT : List (Nat × AV) → Nat → AV
  | [], _ => .dead
  | (j, v) :: r, i => if i = j then v else lookT r i

def lookM : List (Nat × O) → Nat → Option O
  | [], _ => none
  | (j, o) :: r, i => if i = j then some o else lookM r i

/-- A state written out: the slots that are known, the objects. -/
def st (n : Nat) (ts : List (Nat × AV)) (ms : List (Nat × O)) (pm : List Nat) : S := { t := lookT ts, m := lookM ms, ep := 1, n := n, pm := pm }

/-- A mixed value's cells under new names. -/
def avRen (ρ : Nat → Nat) : AV → AV
  | .own id off len => .own (ρ id) off len
  | x => x
def avRenOk (m1 : Nat → Option O) : AV → Bool
  | .imm _ => true
  | .own id _ _ => (m1 id).isSome
  | _ => false

/-- The first value is the second, its objects' names read by ρ. -/
def WAV (ρ : Nat → Nat) (m1 : Nat → Option O) : AV → AV → Prop
  | .dead, _ => True
  | .undef, a => a = .undef
  | .imm d, a => a = .imm d
  | .own id off len, a => a = .own (ρ id) off len ∧ (m1 id).isSome = true
  | .box id off, a => a = .box (ρ id) off ∧ (m1 id).isSome = true
  | .eptr id r off, a => a = .eptr (ρ id) r off ∧ (m1 id).isSome = true
  | .clo f ids, a => a = .clo f (ids.map ρ) ∧ ∀ id ∈ ids, (m1 id).isSome = true
  | .tup _, _ => False
  | .tv id d, a => a = .tv (ρ id) d ∧ (m1 id).isSome = true
  | .mix l, a => a = .mix (l.map (avRen ρ)) ∧ l.all (avRenOk m1) = true

def WAVs (ρ : Nat → Nat) (m1 : Nat → Option O) : List AV → List AV → Prop
  | [], [] => True
  | x :: l, y :: l' => WAV ρ m1 x y ∧ WAVs ρ m1 l l'
  | _, _ => False

def WO (ρ : Nat → Nat) (m1 : Nat → Option O) : O → Option O → Prop
  | .gone, o => o.isSome = true
  | .arr ty sz rows, o => o = some (.arr ty sz rows)
  | .reg c, o => o = some (.reg c)
  | .cel sz rows, o => o = some (.cel sz rows)
  | .ext I, o => o = some (.ext I)
  | .box ty cells, o => match o with | some (.box ty' cells') => ty' = ty ∧ WAVs ρ m1 cells cells' | _ => False

def wT (ρ : Nat → Nat) (m1 : Nat → Option O) (t : Nat → AV) : List (Nat × AV) → Prop
  | [] => True
  | (i, av) :: r => WAV ρ m1 av (t i) ∧ wT ρ m1 t r

def wM (ρ : Nat → Nat) (m1 : Nat → Option O) (m : Nat → Option O) : List (Nat × O) → Prop
  | [] => True
  | (i, o) :: r => WO ρ m1 o (m (ρ i)) ∧ wM ρ m1 m r

theorem wT_at {ρ : Nat → Nat} {m1 : Nat → Option O} {t : Nat → AV} : ∀ {ts : List (Nat × AV)}, wT ρ m1 t ts → ∀ i, WAV ρ m1 (lookT ts i) (t i)
  | [], _, i => trivial
  | (j, v) :: r, h, i => by
    unfold lookT
    split
    · rename_i e; subst e; exact h.1
    · exact wT_at h.2 i

theorem wM_at {ρ : Nat → Nat} {m1 m : Nat → Option O} : ∀ {ms : List (Nat × O)}, wM ρ m1 m ms → ∀ i o, lookM ms i = some o → WO ρ m1 o (m (ρ i)) ∧ i ∈ ms.map (·.1)
  | [], _, i, o, h => by cases h
  | (j, v) :: r, h, i, o, hi => by
    unfold lookM at hi
    split at hi
    · rename_i e; subst e; injection hi with hi; subst hi; exact ⟨h.1, by simp⟩
    · obtain ⟨h1, h2⟩ := wM_at h.2 i o hi
      exact ⟨h1, by simp only [List.map_cons, List.mem_cons]; exact .inr h2⟩

theorem WAVs_at {ρ : Nat → Nat} {m1 : Nat → Option O} : ∀ {l l' : List AV}, WAVs ρ m1 l l' → l.length = l'.length ∧ ∀ (j : Nat) (x : AV), l[j]? = some x → ∃ y, l'[j]? = some y ∧ WAV ρ m1 x y
  | [], [], _ => ⟨rfl, fun j x h => by simp at h⟩
  | [], _ :: _, h => h.elim
  | _ :: _, [], h => h.elim
  | x :: l, y :: l', h => by
    obtain ⟨h1, h2⟩ := WAVs_at h.2
    refine ⟨by simp [h1], fun j z hj => ?_⟩
    cases j with
    | zero => simp at hj; subst hj; exact ⟨y, rfl, h.1⟩
    | succ j => simpa using h2 j z (by simpa using hj)

theorem wav_box {β : Nat → Option Loc} {ρ : Nat → Nat} {m1 m : Nat → Option O} (hm : ∀ i o, m1 i = some o → WO ρ m1 o (m (ρ i))) {id off : Nat} (hs : (m1 id).isSome = true) {v : Value} (h : BoxAt β m (ρ id) off v) :
    BoxAt (fun i => β (ρ i)) m1 id off v := by
  obtain ⟨o1, ho1⟩ := Option.isSome_iff_exists.1 hs
  have hw := hm id o1 ho1
  unfold BoxAt at h ⊢
  rw [ho1]
  cases o1 with
  | gone => trivial
  | arr ty sz rows => simp only [WO] at hw; rw [hw] at h; exact h
  | reg c => simp only [WO] at hw; rw [hw] at h; exact h
  | cel sz rows => simp only [WO] at hw; rw [hw] at h; exact h
  | ext I => simp only [WO] at hw; rw [hw] at h; exact h
  | box ty cells =>
    simp only [WO] at hw
    split at hw
    · rename_i ty' cells' hmm; rw [hmm] at h; exact h
    · exact hw.elim

theorem wav_own {w : World} {B B' : Nat → Prop} {β : Nat → Option Loc} {ρ : Nat → Nat} {m1 m : Nat → Option O} (hm : ∀ i o, m1 i = some o → WO ρ m1 o (m (ρ i))) {id off len : Nat} (hs : (m1 id).isSome = true) {v : Value}
    (h : AvRep0 w B β m (.own (ρ id) off len) v) : AvRep0 w B' (fun i => β (ρ i)) m1 (.own id off len) v := by
  obtain ⟨o1, ho1⟩ := Option.isSome_iff_exists.1 hs
  have hw := hm id o1 ho1
  simp only [AvRep0] at h ⊢
  rw [ho1]
  cases o1 with
  | gone => trivial
  | arr ty sz rows => simp only [WO] at hw; rw [hw] at h; exact h
  | reg c => simp only [WO] at hw; rw [hw] at h; exact h
  | cel sz rows => simp only [WO] at hw; rw [hw] at h; exact h
  | ext I => simp only [WO] at hw; rw [hw] at h; exact h
  | box ty cells =>
    simp only [WO] at hw
    split at hw
    · rename_i ty' cells' hmm; rw [hmm] at h; exact h.elim
    · exact hw.elim

theorem wav_rep0 {w : World} {B B' : Nat → Prop} {β : Nat → Option Loc} {ρ : Nat → Nat} {m1 m : Nat → Option O} (hm : ∀ i o, m1 i = some o → WO ρ m1 o (m (ρ i))) (hB : ∀ b, B' b → B b) {x y : AV} (hx : ∀ l, x ≠ .mix l) (hw : WAV ρ m1 x y) {v : Value}
    (h : AvRep w B β m y v) : AvRep0 w B' (fun i => β (ρ i)) m1 x v := by
  have kk : Keeps w B w B' := ⟨Nat.le_refl _, fun _ _ _ => rfl, fun b _ hb hb' => hb (hB b hb')⟩
  cases x with
  | dead => trivial
  | undef => simp only [WAV] at hw; subst hw; exact h
  | imm d => simp only [WAV] at hw; subst hw; exact Rep.keep kk h
  | tup l => exact hw.elim
  | box id off =>
    obtain ⟨rfl, hs⟩ := hw
    exact wav_box hm hs h
  | clo f ids =>
    obtain ⟨rfl, hs⟩ := hw
    obtain ⟨vs, h1, h2, h3⟩ := h
    refine ⟨vs, h1, by simpa using h2, fun i id hi => ?_⟩
    exact wav_box hm (hs id (List.mem_of_getElem? hi)) (h3 i (ρ id) (by simp [hi]))
  | own id off len =>
    obtain ⟨rfl, hs⟩ := hw
    obtain ⟨o1, ho1⟩ := Option.isSome_iff_exists.1 hs
    have hw := hm id o1 ho1
    simp only [AvRep, AvRep0] at h ⊢
    rw [ho1]
    cases o1 with
    | gone => trivial
    | arr ty sz rows => simp only [WO] at hw; rw [hw] at h; exact h
    | reg c => simp only [WO] at hw; rw [hw] at h; exact h
    | cel sz rows => simp only [WO] at hw; rw [hw] at h; exact h
    | ext I => simp only [WO] at hw; rw [hw] at h; exact h
    | box ty cells =>
      simp only [WO] at hw
      split at hw
      · rename_i ty' cells' hmm; rw [hmm] at h; exact h.elim
      · exact hw.elim
  | eptr id r off =>
    obtain ⟨rfl, hs⟩ := hw
    obtain ⟨o1, ho1⟩ := Option.isSome_iff_exists.1 hs
    have hw := hm id o1 ho1
    simp only [AvRep, AvRep0] at h ⊢
    rw [ho1]
    cases o1 with
    | gone => trivial
    | arr ty sz rows => simp only [WO] at hw; rw [hw] at h; exact h
    | reg c => simp only [WO] at hw; rw [hw] at h; exact h
    | cel sz rows => simp only [WO] at hw; rw [hw] at h; exact h
    | ext I => simp only [WO] at hw; rw [hw] at h; exact h
    | box ty cells =>
      simp only [WO] at hw
      split at hw
      · rename_i ty' cells' hmm; rw [hmm] at h; exact h.elim
      · exact hw.elim
  | tv id d =>
    obtain ⟨rfl, hs⟩ := hw
    obtain ⟨o1, ho1⟩ := Option.isSome_iff_exists.1 hs
    have hw := hm id o1 ho1
    simp only [AvRep, AvRep0] at h ⊢
    rw [ho1]
    cases o1 with
    | gone => trivial
    | arr ty sz rows => simp only [WO] at hw; rw [hw] at h; exact h
    | reg c => simp only [WO] at hw; rw [hw] at h; exact h
    | cel sz rows => simp only [WO] at hw; rw [hw] at h; exact h
    | ext I => simp only [WO] at hw; rw [hw] at h; exact h
    | box ty cells =>
      simp only [WO] at hw
      split at hw
      · rename_i ty' cells' hmm; rw [hmm] at h; exact h.elim
      · exact hw.elim
  | mix l => exact absurd rfl (hx l)

theorem wav_rep {w : World} {B B' : Nat → Prop} {β : Nat → Option Loc} {ρ : Nat → Nat} {m1 m : Nat → Option O} (hm : ∀ i o, m1 i = some o → WO ρ m1 o (m (ρ i))) (hB : ∀ b, B' b → B b) {x y : AV} (hw : WAV ρ m1 x y) {v : Value}
    (h : AvRep w B β m y v) : AvRep w B' (fun i => β (ρ i)) m1 x v := by
  have kk : Keeps w B w B' := ⟨Nat.le_refl _, fun _ _ _ => rfl, fun b _ hb hb' => hb (hB b hb')⟩
  cases x with
  | mix l =>
    obtain ⟨rfl, hs⟩ := hw
    obtain ⟨vs, h1, h2, h3⟩ := h
    refine ⟨vs, h1, by simpa using h2, fun i x hi => ?_⟩
    have hx := (List.all_eq_true.1 hs) x (List.mem_of_getElem? hi)
    have h4 := h3 i (avRen ρ x) (by simp [hi])
    cases x with
    | imm d => exact Rep.keep kk h4
    | own id off len => exact wav_own hm hx h4
    | _ => cases hx
  | _ => exact avRep_of0 (wav_rep0 hm hB (fun l e => by cases e) hw h)

theorem inj_of_nodup {ρ : Nat → Nat} : ∀ {l : List Nat}, (l.map ρ).Nodup → ∀ i ∈ l, ∀ j ∈ l, ρ i = ρ j → i = j
  | [], _, i, hi, _, _, _ => by cases hi
  | x :: l, h, i, hi, j, hj, e => by
    simp only [List.map_cons, List.nodup_cons] at h
    rcases List.mem_cons.1 hi with h1 | h1 <;> rcases List.mem_cons.1 hj with h2 | h2
    · rw [h1, h2]
    · subst h1; exact absurd (List.mem_map.2 ⟨j, h2, e.symm⟩) h.1
    · subst h2; exact absurd (List.mem_map.2 ⟨i, h1, e⟩) h.1
    · exact inj_of_nodup h.2 i h1 j h2 e

/-- A state may be weakened to one that is written out, under new names for its objects. -/
theorem ref_st (ρ : Nat → Nat) {σ : S} {n : Nat} {ts : List (Nat × AV)} {ms : List (Nat × O)} {pm : List Nat} (hn : σ.n = n) (ht : wT ρ (lookM ms) σ.t ts) (hmm : wM ρ (lookM ms) σ.m ms)
    (hnd : ((ms.map (·.1)).map ρ).Nodup) (hpm : σ.pm = pm.map ρ) (hpl : ∀ i ∈ pm, (lookM ms i).isSome = true) : Ref σ (st n ts ms pm) := by
  intro w0 A locs β a w h
  have hm : ∀ i o, lookM ms i = some o → WO ρ (lookM ms) o (σ.m (ρ i)) := fun i o hi => (wM_at hmm i o hi).1
  have hlive : ∀ i o, lookM ms i = some o → o.live = true → ∃ o', σ.m (ρ i) = some o' ∧ o'.live = true := fun i o hi hl => by
    have hw := hm i o hi
    cases o with
    | gone => simp [O.live] at hl
    | arr ty sz rows => exact ⟨_, hw, rfl⟩
    | reg c => exact ⟨_, hw, rfl⟩
    | cel sz rows => exact ⟨_, hw, rfl⟩
    | ext I => exact ⟨_, hw, rfl⟩
    | box ty cells =>
      simp only [WO] at hw
      split at hw
      · rename_i hmm; exact ⟨_, hmm, rfl⟩
      · exact hw.elim
  have hB : ∀ b, Bl A (fun i => β (ρ i)) (lookM ms) b → Bl A β σ.m b := by
    rintro b (hA | ⟨i, o, l, h1, h2, h3, h4⟩)
    · exact .inl hA
    · obtain ⟨o', e1, e2⟩ := hlive i o h1 h2
      exact .inr ⟨ρ i, o', l, e1, e2, h3, h4⟩
  refine ⟨fun i => β (ρ i), { size := h.size.trans hn, defers := h.defers, slot := ?_, ob := ?_, inj := ?_, new := ?_, fr := h.fr, lt := h.lt, pm := ?_ }⟩
  · intro i
    exact wav_rep hm hB (wT_at ht i) (h.slot i)
  · intro i o hi
    have hi' : lookM ms i = some o := hi
    have hw := hm i o hi'
    have kk : Keeps w (Bl A β σ.m) w (Bl A (fun i => β (ρ i)) (lookM ms)) := ⟨Nat.le_refl _, fun _ _ _ => rfl, fun b _ hb hb' => hb (hB b hb')⟩
    cases o with
    | gone => trivial
    | cel sz rows =>
      obtain ⟨q1, q2, q3⟩ := h.ob _ _ hw
      refine ⟨q1, q2, ?_⟩
      rcases q3 with ⟨q3, q4⟩ | ⟨l, g, q3, q4⟩
      · exact .inl ⟨q3, q4⟩
      · exact .inr ⟨l, g, q3, fun j d hj => ⟨(q4 j d hj).1, (q4 j d hj).2.keep kk⟩⟩
    | arr ty sz rows =>
      have hob := h.ob _ _ hw
      obtain ⟨q1, q2, q3⟩ := hob
      refine ⟨q1, q2, ?_⟩
      rcases q3 with ⟨q3, q4⟩ | ⟨l, cs, q3, q4, q5, q6, q7, q8⟩
      · exact .inl ⟨q3, q4⟩
      · exact .inr ⟨l, cs, q3, q4, q5, q6, q7, fun j d hj => (q8 j d hj).keep kk⟩
    | reg c => exact h.ob _ _ hw
    | ext I => exact h.ob _ _ hw
    | box ty cells =>
      simp only [WO] at hw
      split at hw
      · rename_i ty' cells' hmm'
        obtain ⟨rfl, hws⟩ := hw
        obtain ⟨hl, hat⟩ := WAVs_at hws
        obtain ⟨l, cs, q1, q2, q3, q4⟩ := h.ob _ _ hmm'
        refine ⟨l, cs, q1, q2, q3.trans hl.symm, fun j x hj => ?_⟩
        obtain ⟨y, hy, hxy⟩ := hat j x hj
        have hq := q4 j y hy
        cases x with
        | mix l =>
          obtain ⟨rfl, _⟩ := hxy
          exact hq.elim
        | _ => exact wav_rep0 hm hB (fun l e => by cases e) hxy (avRep_of0 hq)
      · exact hw.elim
  · intro i j oi oj li lj b h1 h2 h3 h4 h5 h6 h7 h7'
    obtain ⟨o1, e1, e2⟩ := hlive i oi h1 h2
    obtain ⟨o2, f1, f2⟩ := hlive j oj h4 h5
    have := h.inj (ρ i) (ρ j) o1 o2 li lj b e1 e2 h3 f1 f2 h6 h7 h7'
    exact inj_of_nodup hnd i (wM_at hmm i oi h1).2 j (wM_at hmm j oj h4).2 this
  · intro i o l h1 h2 h3
    obtain ⟨o1, e1, e2⟩ := hlive i o h1 h2
    exact h.new (ρ i) o1 l e1 e2 h3
  · have hp := h.pm
    rw [hpm] at hp
    refine ⟨by have := hp.1; simpa [st] using this, fun k i hk => ?_⟩
    have hk' : pm[k]? = some i := hk
    obtain ⟨h1, _⟩ := hp.2 k (ρ i) (by simp [hk'])
    exact ⟨h1, Option.isSome_iff_exists.1 (hpl i (List.mem_of_getElem? hk'))⟩

/-! ### A function's contract from its body -/

/-- Data that lie in no memory. -/
def D.gr : D → Bool
  | .int _ _ | .bool _ | .str _ | .other _ => true
  | .list [] => true
  | _ => false

/-- Plain data whose parts lie in no memory. -/
def D.gr' : D → Bool
  | .agg cs => cs.all D.gr
  | d => d.gr

def O.gr : O → Bool
  | .arr _ _ rows => rows.all fun r => r.all D.gr
  | .box _ cells => cells.all fun c => match c with | .imm d => d.gr | _ => false
  | .gone => true
  | .reg _ => true
  | .cel _ rows => rows.all fun r => r.all D.gr
  | .ext _ => true

/-- Where a result is read. -/
def retAV (T : TypeId → Option TI) (σ : S) : ResultVar → AV
  | .tmp t => σ.t t
  | .cell x ty =>
    match σ.t x, T ty with
    | .box id off, some ti =>
      match σ.m id with
      | some (.box _ cells) =>
        match ti.agg with
        | true => if off + ti.size ≤ cells.length then (match imms ((cells.drop off).take ti.size) with | some ds => .imm (.agg ds) | none => .mix ((cells.drop off).take ti.size)) else .dead
        | false => match cells[off]? with | some (.tup _) => .dead | some (.mix _) => .dead | some av => av | none => .dead
      | _ => .dead
    | _, _ => .dead

/-- One result as what is handed back; 'used': the arrays that earlier results took. -/
def Ret1 (σ : S) (sep : Bool) (av : AV) (r : R0) : Prop :=
  match av, r with
  | .imm d', .imm d => d' = d ∧ (sep = true → d.gr' = true)
  | .own id off len, .imm d =>
    match σ.m id with
    | some (.arr _ _ rows) => d = .list ((rows.drop off).take len) ∧ (sep = true → ∀ x ∈ (rows.drop off).take len, x.all D.gr = true) ∧ id ∉ σ.pm
    | _ => False
  | .own id off len, .arr ty sz rows =>
    match σ.m id with
    | some (.arr ty' sz' rows') => ty' = ty ∧ sz' = sz ∧ rows = (rows'.drop off).take len ∧ (sep = true → ∀ x ∈ rows, x.all D.gr = true) ∧ id ∉ σ.pm
    | _ => False
  | _, _ => False

/-- The names of arrays that are handed on. -/
def ownIds : List AV → List Nat
  | [] => []
  | .own id _ _ :: r => id :: ownIds r
  | _ :: r => ownIds r

def RetAll (σ : S) (sep : Bool) : List AV → List R0 → Prop
  | [], [] => True
  | av :: avs, r :: rs => Ret1 σ sep av r ∧ RetAll σ sep avs rs
  | _, _ => False

/-- What was lent, as it comes back. -/
def MutsOk (σ : S) (out : Out) : List Nat → List Nat → Prop
  | [], [] => True
  | i :: is, id :: ids => σ.m id = some (out.muts.getD i .gone) ∧ (out.sep = true → (out.muts.getD i .gone).gr = true) ∧ MutsOk σ out is ids
  | _, _ => False

def RetOk0 (T : TypeId → Option TI) (fn : Func) (ins : List In) (out : Out) (σ : S) : Prop :=
  RetAll σ out.sep (fn.results.toList.map (retAV T σ)) out.res ∧ (ownIds (fn.results.toList.map (retAV T σ))).Nodup ∧ σ.pm.Nodup ∧ MutsOk σ out (mutIdx ins) σ.pm

def RetOk (T : TypeId → Option TI) (fn : Func) (ins : List In) (out : Out) (σ : S) : Prop :=
  match out.agg with
  | false => RetOk0 T fn ins out σ
  | true => ∃ (rv : ResultVar) (l : List AV), fn.results.toList = [rv] ∧ retAV T σ rv = .mix l ∧ RetAll σ out.sep l out.res ∧ (ownIds l).Nodup ∧ σ.pm.Nodup ∧ MutsOk σ out (mutIdx ins) σ.pm

def retQ (T : TypeId → Option TI) (fn : Func) (ins : List In) (out : Out) : Exit → S → Prop
  | .normal, σ => RetOk T fn ins out σ
  | .ret, σ => RetOk T fn ins out σ
  | _, _ => False

end Go.Am

/-! The abstract machine, part 19: a function's contract from its body. -/
namespace Go.Am
open Go

theorem Rep.gr {w w' : World} {B B' : Nat → Prop} {v : Value} {d : D} (hr : Rep w B v d) (hg : d.gr = true) : Rep w' B' v d := by
  cases hr with
  | int k n => exact .int k n
  | bool b => exact .bool b
  | str s => exact .str s
  | other v => exact .other v
  | nil a c => exact .nil a c
  | list ad n c rows sz g hn hc hrr hb hB hs hcell hrep =>
    cases rows with
    | nil => simp at hn; subst hn; exact .nil _ _
    | cons r rows => simp [D.gr] at hg
  | agg vs ds hs hj => simp [D.gr] at hg
  | fn f vs ds hs hj => simp [D.gr] at hg
  | ptr ad ds g hb hB hs hc hr => simp [D.gr] at hg

theorem Rep.gr' {w w' : World} {B B' : Nat → Prop} {v : Value} {d : D} (hr : Rep w B v d) (hg : d.gr' = true) : Rep w' B' v d := by
  cases d with
  | agg cs =>
    obtain ⟨vs, rfl, hs, hj⟩ := rep_agg hr
    exact .agg _ _ hs fun j d hd => (hj j d hd).gr ((List.all_eq_true.1 hg) d (List.mem_of_getElem? hd))
  | _ => exact Rep.gr hr hg

theorem mapM_run {P : Program} {w : World} (f : ResultVar → Sem Value) : ∀ (l : List ResultVar) (vs : List Value), l.length = vs.length → (∀ (j : Nat) (rv : ResultVar), l[j]? = some rv → (f rv).run P w = .ok (vs.getD j Go.undef) w) → (l.mapM f).run P w = .ok vs w
  | [], [], _, _ => rfl
  | [], _ :: _, h, _ => by simp at h
  | _ :: _, [], h, _ => by simp at h
  | rv :: l, v :: vs, hl, h => by
    have h0 := h 0 rv rfl
    have ih := mapM_run f l vs (by simpa using hl) (fun j rv' hj => by have := h (j + 1) rv' (by simpa using hj); simpa using this)
    simp only [List.mapM_cons, Sem.run_bind, h0, Result.andThen_ok, ih, Sem.run_pure]
    rfl

/-- How one result is read. -/
def retSem (a : Act) : ResultVar → Sem Value
  | .tmp t => pure (a.tmps.getD t Go.undef)
  | .cell x ty => do loadVar ty (← asAddr (a.tmps.getD x Go.undef))

theorem results_eq (fn : Func) (a : Act) : results fn a.tmps = (do let vs ← fn.results.mapM (retSem a); pure (if h : vs.size = 1 then vs[0] else .tuple vs)) := by
  unfold results
  congr 1

section
variable {P : Program} {T : TypeId → Option TI} (hT : TOk P T) {w0 w : World} {A : Nat → Prop} {locs : List (Option Loc)} {β : Nat → Option Loc} {σ : S} {a : Act}

include hT in
/-- A result's value. -/
theorem ret_val (h : Sim w0 A locs β σ a w) (rv : ResultVar) (hnd : retAV T σ rv ≠ .dead) :
    ∃ v, (retSem a rv).run P w = .ok v w ∧ AvRep w (Bl A β σ.m) β σ.m (retAV T σ rv) v := by
  cases rv with
  | tmp t => exact ⟨_, rfl, h.slot t⟩
  | cell x ty =>
    simp only [retSem]
    simp only [retAV] at hnd ⊢
    cases hx : σ.t x with
    | box id off =>
      cases hty : T ty with
      | none => simp [hx, hty] at hnd
      | some ti =>
        simp only [hx, hty] at hnd ⊢
        have hslot := h.slot x
        rw [hx] at hslot
        cases hmm : σ.m id with
        | none => simp [hmm] at hnd
        | some ob =>
          cases ob with
          | gone => simp [hmm] at hnd
          | arr ty sz rows => simp [hmm] at hnd
          | reg c => simp [hmm] at hnd
          | cel sz rows => simp [hmm] at hnd
          | ext I => simp [hmm] at hnd
          | box tyb cells =>
            simp only [hmm] at hnd ⊢
            simp only [AvRep, AvRep0, BoxAt, hmm] at hslot
            obtain ⟨l, hl, hv⟩ := hslot
            obtain ⟨l', cs, hl', hheap, hsz, hcs⟩ := h.ob id _ hmm
            rw [hl] at hl'; injection hl' with hl'; subst hl'
            have hcell : ∀ j, off + j < cs.size → w.cell? ((⟨l.b, off, none⟩ : Addr).add j) = some (cs.getD (off + j) Go.undef) := fun j hj => by
              rw [add_spot rfl]; exact run_load_at hheap hj
            have hrun : (∀ j, j < (if ti.agg then ti.size else 1) → off + j < cs.size) →
                (do loadVar ty (← asAddr (a.tmps.getD x Go.undef)) : Sem Value).run P w = .ok (if ti.agg then .agg ((List.range ti.size).map fun j => cs.getD (off + j) Go.undef).toArray else cs.getD (off + 0) Go.undef) w := fun hc => by
              have := run_loadAt hT hty ⟨l.b, off, none⟩ (fun j => cs.getD (off + j) Go.undef) (fun j hj => hcell j (hc j hj))
              rw [hv]
              simp only [Instr.loadAt, Sem.run_bind] at this
              have e0 : (Instr.sureAddr (.pointer (some (⟨l.b, off, none⟩ : Addr)))).run P w = .ok ⟨l.b, off, none⟩ w := rfl
              rw [e0] at this
              simp only [Result.andThen_ok] at this
              simp only [Sem.run_bind]
              have e1 : (asAddr (.pointer (some (⟨l.b, off, none⟩ : Addr)))).run P w = .ok ⟨l.b, off, none⟩ w := rfl
              rw [e1]
              exact this
            cases hag : ti.agg with
            | true =>
              simp only [hag] at hnd ⊢
              split at hnd
              · rename_i hle
                rw [if_pos hle]
                cases hi : imms ((cells.drop off).take ti.size) with
                | none =>
                  refine ⟨_, hrun (fun j hj => by simp only [hag, if_true] at hj; omega), ?_⟩
                  simp only [hag, if_true]
                  refine ⟨_, rfl, by simp; omega, fun j c hj => ?_⟩
                  rw [List.getElem?_take] at hj
                  split at hj
                  · rename_i hjs
                    rw [List.getElem?_drop] at hj
                    rw [range_getD _ _ _ hjs]
                    exact hcs _ _ hj
                  · cases hj
                | some ds =>
                  obtain ⟨h1, h2⟩ := imms_at hi
                  refine ⟨_, hrun (fun j hj => by simp only [hag, if_true] at hj; omega), ?_⟩
                  simp only [hag, if_true]
                  refine Rep.agg _ _ (by rw [← h1]; simp; omega) fun j d hj => ?_
                  have h3 := h2 j d hj
                  rw [List.getElem?_take] at h3
                  split at h3
                  · rename_i hjs
                    rw [List.getElem?_drop] at h3
                    rw [range_getD _ _ _ hjs]
                    exact hcs _ _ h3
                  · cases h3
              · simp at hnd
            | false =>
              simp only [hag] at hnd ⊢
              cases hc : cells[off]? with
              | none => simp [hc] at hnd
              | some av =>
                have hlt : off < cs.size := by rw [hsz]; exact (List.getElem?_eq_some_iff.1 hc).1
                refine ⟨_, hrun (fun j hj => by simp only [hag, Bool.false_eq_true, if_false] at hj; omega), ?_⟩
                have h3 := hcs off av hc
                simp only [hag, Bool.false_eq_true, if_false, Nat.add_zero]
                cases av with
                | tup l => exact h3.elim
                | mix l => exact h3.elim
                | _ => exact h3
    | _ => simp [hx] at hnd


theorem ret1_own {σ : S} {sep : Bool} {av : AV} {r : R0} (h : Ret1 σ sep av r) : (∃ d, av = .imm d ∧ r = .imm d ∧ (sep = true → d.gr' = true)) ∨
    (∃ (id off len ty sz : Nat) (rows : List (List D)), av = .own id off len ∧ σ.m id = some (.arr ty sz rows) ∧ id ∉ σ.pm ∧ (sep = true → ∀ x ∈ (rows.drop off).take len, x.all D.gr = true) ∧
      (r = .imm (.list ((rows.drop off).take len)) ∨ r = .arr ty sz ((rows.drop off).take len))) := by
  unfold Ret1 at h
  split at h
  · obtain ⟨rfl, h2⟩ := h; exact .inl ⟨_, rfl, rfl, h2⟩
  · rename_i id off len d
    split at h
    · rename_i ty sz rows hm
      obtain ⟨rfl, h2, h3⟩ := h
      exact .inr ⟨id, off, len, ty, sz, rows, rfl, hm, h3, h2, .inl rfl⟩
    · exact h.elim
  · rename_i id off len ty sz rows
    split at h
    · rename_i ty' sz' rows' hm
      obtain ⟨rfl, rfl, rfl, h2, h3⟩ := h
      exact .inr ⟨id, off, len, ty', sz', rows', rfl, hm, h3, h2, .inr rfl⟩
    · exact h.elim
  · exact h.elim

theorem retAll_at {σ : S} {sep : Bool} : ∀ {avs : List AV} {rs : List R0}, RetAll σ sep avs rs → avs.length = rs.length ∧ ∀ (j : Nat) (av : AV) (r : R0), avs[j]? = some av → rs[j]? = some r → Ret1 σ sep av r
  | [], [], _ => ⟨rfl, fun j av r h => by simp at h⟩
  | [], _ :: _, h => h.elim
  | _ :: _, [], h => h.elim
  | av :: avs, r :: rs, h => by
    obtain ⟨h1, h2⟩ := retAll_at h.2
    refine ⟨by simp [h1], fun j av' r' hj hr => ?_⟩
    cases j with
    | zero => simp at hj hr; subst hj hr; exact h.1
    | succ j => exact h2 j av' r' (by simpa using hj) (by simpa using hr)

theorem ownIds_mem : ∀ {avs : List AV} {j : Nat} {id off len : Nat}, avs[j]? = some (.own id off len) → id ∈ ownIds avs
  | [], j, _, _, _, h => by simp at h
  | av :: avs, 0, id, off, len, h => by simp at h; subst h; simp [ownIds]
  | av :: avs, j + 1, id, off, len, h => by
    have := ownIds_mem (avs := avs) (j := j) (id := id) (off := off) (len := len) (by simpa using h)
    cases av <;> simp [ownIds, this]

theorem ownIds_inj : ∀ {avs : List AV}, (ownIds avs).Nodup → ∀ {i j id off len off' len' : Nat}, avs[i]? = some (.own id off len) → avs[j]? = some (.own id off' len') → i = j
  | [], _, i, j, _, _, _, _, _, h, _ => by simp at h
  | av :: avs, hnd, i, j, id, off, len, off', len', hi, hj => by
    have hnd' : (ownIds avs).Nodup := by cases av <;> simp [ownIds] at hnd <;> first | exact hnd | exact hnd.2
    cases i with
    | zero =>
      cases j with
      | zero => rfl
      | succ j =>
        simp at hi; subst hi
        have := ownIds_mem (avs := avs) (j := j) (by simpa using hj)
        simp [ownIds] at hnd
        exact absurd this hnd.1
    | succ i =>
      cases j with
      | zero =>
        simp at hj; subst hj
        have := ownIds_mem (avs := avs) (j := i) (by simpa using hi)
        simp [ownIds] at hnd
        exact absurd this hnd.1
      | succ j => rw [ownIds_inj hnd' (i := i) (j := j) (by simpa using hi) (by simpa using hj)]

theorem mutsOk_at {σ : S} {out : Out} : ∀ {is ids : List Nat}, MutsOk σ out is ids → is.length = ids.length ∧ ∀ (k i id : Nat), is[k]? = some i → ids[k]? = some id → σ.m id = some (out.muts.getD i .gone) ∧ (out.sep = true → (out.muts.getD i .gone).gr = true)
  | [], [], _ => ⟨rfl, fun k i id h => by simp at h⟩
  | [], _ :: _, h => h.elim
  | _ :: _, [], h => h.elim
  | i :: is, id :: ids, h => by
    obtain ⟨h1, h2⟩ := mutsOk_at h.2.2
    refine ⟨by simp [h1], fun k i' id' hk hk' => ?_⟩
    cases k with
    | zero => simp at hk hk'; subst hk hk'; exact ⟨h.1, h.2.1⟩
    | succ k => exact h2 k i' id' (by simpa using hk) (by simpa using hk')

end
end Go.Am

/-! The abstract machine, part 20: a function's contract from its body, closed. -/
namespace Go.Am
open Go

theorem rep_list_gr {w : World} {B B' : Nat → Prop} {v : Value} {rows : List (List D)} (hr : Rep w B v (.list rows)) (hg : ∀ x ∈ rows, x.all D.gr = true) (hb : ∀ ad n c, v = .slice (some ad) n c → 0 < n → ¬ B' ad.block) : Rep w B' v (.list rows) := by
  cases hr with
  | nil a c => exact .nil _ _
  | list ad n c rows sz g hn hc hrr hbl hB hs hcell hrep =>
    by_cases h0 : 0 < n
    · refine .list ad n c rows sz g hn hc hrr hbl (hb ad n c rfl h0) hs hcell fun j d hj => (hrep j d hj).gr ?_
      obtain ⟨r, hr1, hr2⟩ := List.mem_flatten.1 (List.mem_of_getElem? hj)
      exact (List.all_eq_true.1 (hg r hr1)) d hr2
    · have : rows = [] := List.eq_nil_of_length_eq_zero (by omega)
      have hn0 : n = 0 := by omega
      subst this hn0
      exact .nil _ _

theorem mutIdx_nodup (ins : List In) : (mutIdx ins).Nodup := List.filter_sublist.nodup List.nodup_range

theorem nodup_at {l : List Nat} (h : l.Nodup) {i j : Nat} {x : Nat} (hi : l[i]? = some x) (hj : l[j]? = some x) : i = j := by
  obtain ⟨h1, h2⟩ := List.getElem?_eq_some_iff.1 hi
  obtain ⟨h3, h4⟩ := List.getElem?_eq_some_iff.1 hj
  exact (List.getElem_inj h).1 (h2.trans h4.symm)

theorem getD_toArray (vs : List Value) (j : Nat) : vs.toArray.getD j Go.undef = vs.getD j Go.undef := by simp [Array.getD_eq_getD_getElem?]

section
variable {P : Program} {T : TypeId → Option TI} (hT : TOk P T) {W w : World} {A : Nat → Prop} {locs : List (Option Loc)} {β : Nat → Option Loc} {σ : S} {a : Act}

set_option maxHeartbeats 2000000 in
theorem ret_sim0 (h : Sim W A locs β σ a w) {ins : List In} {out : Out} {avs : List AV} {vs : List Value} (hvl : vs.length = avs.length) (hvat : ∀ (j : Nat) (av : AV), avs[j]? = some av → AvRep w (Bl A β σ.m) β σ.m av (vs.getD j Go.undef)) (hlen : ins.length ≤ 1000)
    (hmo : ∀ c o, outM ins out c = some o → ∃ ds : List D, ∀ ty cells, o = .box ty cells → cells = ds.map .imm) (hall : RetAll σ out.sep avs out.res) (hnd : (ownIds avs).Nodup) (hpnd : σ.pm.Nodup) (hmuts : MutsOk σ out (mutIdx ins) σ.pm) :
    ∃ β', Sim W (sepA W A locs out.sep) locs β' (outS ins out) ⟨vs.toArray, []⟩ w := by
  obtain ⟨hl1, hr1⟩ := retAll_at hall
  obtain ⟨hl2, hm2⟩ := mutsOk_at hmuts
  have hl1' : avs.length = out.res.length := hl1
  have hret1 : ∀ (j : Nat) (rv : AV) (r : R0), avs[j]? = some rv → out.res[j]? = some r → Ret1 σ out.sep rv r := fun j rv r h2 h3 => hr1 j rv r h2 h3
  -- names and places
  let β' : Nat → Option Loc := fun c => if c < 1000 then (match ((mutIdx ins).zip σ.pm).find? (fun x => x.1 == c) with | some x => β x.2 | none => none)
    else match avs[c - 1000]? with
      | some (.own id off _) => (match β id, σ.m id with | some l, some (.arr _ sz _) => some ⟨l.b, l.base + off * sz, l.tot - off, l.rg⟩ | _, _ => none)
      | _ => none
  have hβm : ∀ (k i id : Nat), (mutIdx ins)[k]? = some i → σ.pm[k]? = some id → i < 1000 ∧ β' i = β id := fun k i id hk hk' => by
    have hi : i < 1000 := by
      obtain ⟨inn, h1, _⟩ := mem_mutIdx.1 (List.mem_of_getElem? hk)
      have := (List.getElem?_eq_some_iff.1 h1).1
      omega
    refine ⟨hi, ?_⟩
    simp only [β', if_pos hi]
    have hmem : (i, id) ∈ (mutIdx ins).zip σ.pm := by
      refine List.mem_of_getElem? (i := k) ?_
      rw [List.getElem?_zip_eq_some]; exact ⟨hk, hk'⟩
    cases hf : ((mutIdx ins).zip σ.pm).find? (fun x => x.1 == i) with
    | none => exact absurd (List.find?_eq_none.1 hf _ hmem) (by simp)
    | some x =>
      have e1 : x.1 = i := by simpa using List.find?_some hf
      obtain ⟨k', hk2⟩ := List.getElem?_of_mem (List.mem_of_find?_eq_some hf)
      obtain ⟨h3, h4⟩ := List.getElem?_zip_eq_some.1 hk2
      rw [e1] at h3
      have := nodup_at (mutIdx_nodup ins) hk h3
      subst this
      rw [hk'] at h4
      injection h4 with h4
      show β x.2 = β id
      rw [h4]
  -- each object of what comes back
  have hobj : ∀ c o, outM ins out c = some o → (∃ k id : Nat, (mutIdx ins)[k]? = some c ∧ σ.pm[k]? = some id ∧ σ.m id = some o ∧ β' c = β id ∧ (out.sep = true → o.gr = true) ∧ c < 1000) ∨
      (∃ (j : Nat) (rv : AV) (id off len : Nat) (ty sz : Nat) (rows : List (List D)), c = 1000 + j ∧ avs[j]? = some rv ∧ rv = .own id off len ∧ σ.m id = some (.arr ty sz rows) ∧ id ∉ σ.pm ∧ o = .arr ty sz ((rows.drop off).take len) ∧
        out.res[j]? = some (.arr ty sz ((rows.drop off).take len)) ∧ (out.sep = true → ∀ x ∈ (rows.drop off).take len, x.all D.gr = true) ∧
        β' c = (match β id with | some l => some ⟨l.b, l.base + off * sz, l.tot - off, l.rg⟩ | none => none)) := by
    intro c o ho
    unfold outM at ho
    split at ho
    · rename_i hc
      have hcm : c ∈ mutIdx ins ∧ o = out.muts.getD c .gone := by
        split at ho
        · rename_i hi; injection ho with ho; exact ⟨mem_mutIdx.2 ⟨_, hi, rfl⟩, ho.symm⟩
        · rename_i hi; injection ho with ho; exact ⟨mem_mutIdx.2 ⟨_, hi, rfl⟩, ho.symm⟩
        · rename_i hi; injection ho with ho; exact ⟨mem_mutIdx.2 ⟨_, hi, rfl⟩, ho.symm⟩
        · cases ho
      obtain ⟨hcm, rfl⟩ := hcm
      obtain ⟨k, hk⟩ := List.getElem?_of_mem hcm
      have hlt : k < σ.pm.length := by rw [← hl2]; exact (List.getElem?_eq_some_iff.1 hk).1
      have hk' := List.getElem?_eq_getElem hlt
      obtain ⟨e1, e2⟩ := hm2 k c _ hk hk'
      exact .inl ⟨k, _, hk, hk', e1, (hβm k c _ hk hk').2, e2, hc⟩
    · rename_i hc
      split at ho
      · rename_i ty sz rows hres
        injection ho with ho
        subst ho
        have hlt : c - 1000 < avs.length := by rw [hl1']; exact (List.getElem?_eq_some_iff.1 hres).1
        have hrv := List.getElem?_eq_getElem hlt
        have hr := hret1 _ _ _ hrv hres
        rcases ret1_own hr with ⟨d, _, e, _⟩ | ⟨id, off, len, ty', sz', rows', e1, e2, e3, e4, e5 | e5⟩
        · cases e
        · cases e5
        · injection e5 with f1 f2 f3
          subst f1 f2 f3
          refine .inr ⟨c - 1000, _, id, off, len, ty, sz, rows', by omega, hrv, e1, e2, e3, rfl, hres, e4, ?_⟩
          simp only [β', if_neg hc, hrv, e1, e2]
          cases β id <;> rfl
      · rename_i dd hres
        have hlt : c - 1000 < avs.length := by rw [hl1']; exact (List.getElem?_eq_some_iff.1 hres).1
        have hr := hret1 _ _ _ (List.getElem?_eq_getElem hlt) hres
        rcases ret1_own hr with ⟨d, _, e, _⟩ | ⟨id, off, len, ty', sz', rows', e1, e2, e3, e4, e5 | e5⟩
        · cases e
        · cases e5
        · cases e5
      · cases ho
  -- the block of an object of ours is kept from nobody
  have hfree : ∀ id o l, σ.m id = some o → o.live = true → β id = some l → ∀ b, l.has b → ¬ sepA W A locs out.sep b := fun id o l e1 e2 e3 b hb hs => by
    obtain ⟨n1, n2, n3⟩ := h.new id o l e1 e2 e3 b hb
    rcases hs with hs | ⟨_, hs1, hs2⟩
    · exact n2 hs
    · rcases n3 with n3 | ⟨l0, n3, n4⟩
      · omega
      · exact hs2 l0 n3 n4
  have hBout : ∀ b, Bl (sepA W A locs out.sep) β' (outM ins out) b → sepA W A locs out.sep b ∨ ∃ c o id oid l, outM ins out c = some o ∧ o.live = true ∧ σ.m id = some oid ∧ oid.live = true ∧ β id = some l ∧ l.has b ∧
      ((∃ k : Nat, σ.pm[k]? = some id) ∨ ∃ (j : Nat) (rv : AV) (off len : Nat), avs[j]? = some rv ∧ rv = .own id off len ∧ (∃ (ty sz : Nat) (rows : List (List D)), out.res[j]? = some (.arr ty sz rows))) := by
    rintro b (hs | ⟨c, o, l, g1, g2, g3, g4⟩)
    · exact .inl hs
    · right
      rcases hobj c o g1 with ⟨k, id, e1, e2, e3, e4, _⟩ | ⟨j, rv, id, off, len, ty, sz, rows, rfl, e1, e2, e3, e4, rfl, e5, _, e6⟩
      · rw [e4] at g3
        exact ⟨c, o, id, o, l, g1, g2, e3, g2, g3, g4, .inl ⟨k, e2⟩⟩
      · rw [e6] at g3
        cases hb : β id with
        | none => rw [hb] at g3; cases g3
        | some l0 =>
          rw [hb] at g3; injection g3 with g3; subst g3
          exact ⟨_, _, id, _, l0, g1, rfl, e3, rfl, hb, g4, .inr ⟨j, rv, off, len, e1, e2, _, _, _, e5⟩⟩
  have hkeep : out.sep = false → Keeps w (Bl A β σ.m) w (Bl (sepA W A locs out.sep) β' (outM ins out)) := fun hs => by
    refine ⟨Nat.le_refl _, fun _ _ _ => rfl, fun b _ hB hB' => hB ?_⟩
    rcases hBout b hB' with h1 | ⟨c, o, id, oid, l, _, _, e1, e2, e3, e4, _⟩
    · rcases h1 with h1 | ⟨h1, _⟩
      · exact .inl h1
      · rw [hs] at h1; cases h1
    · exact .inr ⟨id, oid, l, e1, e2, e3, e4⟩
  have hrep : ∀ (v : Value) (d : D), Rep w (Bl A β σ.m) v d → (out.sep = true → d.gr = true) → Rep w (Bl (sepA W A locs out.sep) β' (outM ins out)) v d := fun v d hr hg => by
    cases hs : out.sep with
    | true => exact hr.gr (hg hs)
    | false => have := hr.keep (hkeep hs); rw [hs] at this; exact this
  have hinj : ∀ c c' o o' l l' b, outM ins out c = some o → o.live = true → β' c = some l → outM ins out c' = some o' → o'.live = true → β' c' = some l' → l.has b → l'.has b → c = c' := by
    intro c c' o o' l l' b g1 g2 g3 g4 g5 g6 g7 g8
    rcases hobj c o g1 with ⟨k, id, e1, e2, e3, e4, _⟩ | ⟨j, rv, id, off, len, ty, sz, rows, rfl, e1, e2, e3, e4, rfl, e5, _, e6⟩ <;>
      rcases hobj c' o' g4 with ⟨k', id', f1, f2, f3, f4, _⟩ | ⟨j', rv', id', off', len', ty', sz', rows', rfl, f1, f2, f3, f4, rfl, f5, _, f6⟩
    · rw [e4] at g3; rw [f4] at g6
      have := h.inj id id' o o' l l' b e3 g2 g3 f3 g5 g6 g7 g8
      subst this
      have hkk : k = k' := nodup_at hpnd e2 f2
      subst hkk
      rw [e1] at f1; injection f1
    · rw [e4] at g3; rw [f6] at g6
      cases hb : β id' with
      | none => rw [hb] at g6; cases g6
      | some l0 =>
        rw [hb] at g6; injection g6 with g6; subst g6
        have := h.inj id id' o _ l l0 b e3 g2 g3 f3 rfl hb g7 g8
        subst this
        exact absurd (List.mem_of_getElem? e2) f4
    · rw [e6] at g3; rw [f4] at g6
      cases hb : β id with
      | none => rw [hb] at g3; cases g3
      | some l0 =>
        rw [hb] at g3; injection g3 with g3; subst g3
        have := h.inj id id' _ o' l0 l' b e3 rfl hb f3 g5 g6 g7 g8
        subst this
        exact absurd (List.mem_of_getElem? f2) e4
    · rw [e6] at g3; rw [f6] at g6
      cases hb : β id with
      | none => rw [hb] at g3; cases g3
      | some l0 =>
        cases hb' : β id' with
        | none => rw [hb'] at g6; cases g6
        | some l0' =>
          rw [hb] at g3; injection g3 with g3; subst g3
          rw [hb'] at g6; injection g6 with g6; subst g6
          have := h.inj id id' _ _ l0 l0' b e3 rfl hb f3 rfl hb' g7 g8
          subst this
          have hjj := ownIds_inj hnd (i := j) (j := j') (id := id) (off := off) (len := len) (off' := off') (len' := len') (by simp [e1, e2]) (by simp [f1, f2])
          rw [hjj]
  refine ⟨β', { size := by simp [outS, hvl, hl1'], defers := rfl, slot := ?_, ob := ?_, inj := hinj, new := ?_, fr := h.fr, lt := ?_, pm := ?_ }⟩
  · intro j
    show AvRep w (Bl (sepA W A locs out.sep) β' (outM ins out)) β' (outM ins out) (outT out j) (vs.toArray.getD j Go.undef)
    have hgd : vs.toArray.getD j Go.undef = vs.getD j Go.undef := getD_toArray vs j
    rw [hgd]
    cases hres : out.res[j]? with
    | none =>
      unfold outT; rw [hres]
      have : vs.length ≤ j := by rw [hvl, hl1']; exact List.getElem?_eq_none_iff.1 hres
      show vs.getD j Go.undef = Go.undef
      simp [List.getD, List.getElem?_eq_none this]
    | some r =>
      have hlt : j < avs.length := by rw [hl1']; exact (List.getElem?_eq_some_iff.1 hres).1
      have hrv := List.getElem?_eq_getElem hlt
      have hr := hret1 _ _ _ hrv hres
      have hav := hvat j _ hrv
      rcases ret1_own hr with ⟨d, e1, rfl, e2⟩ | ⟨id, off, len, ty, sz, rows, e1, e2, e3, e4, e5⟩
      · unfold outT; rw [hres]
        rw [e1] at hav
        cases hs : out.sep with
        | true => exact Rep.gr' hav (e2 hs)
        | false =>
          have := Rep.keep (hkeep hs) hav
          rw [hs] at this
          exact this
      · rw [e1] at hav
        have hav0 : AvRep0 w (Bl A β σ.m) β σ.m (.own id off len) (vs.getD j Go.undef) := hav
        rcases e5 with rfl | rfl
        · -- read as plain data
          unfold outT; rw [hres]
          have hnot : ∀ l, β id = some l → ¬ Bl (sepA W A locs out.sep) β' (outM ins out) l.b := fun l hl hB => by
            rcases hBout l.b hB with h1 | ⟨c, o, oid, oo, l2, _, _, g1, g2, g3, g4, g5⟩
            · exact hfree id _ l e2 rfl hl _ l.self h1
            · have := h.inj id oid _ oo l l2 _ e2 rfl hl g1 g2 g3 l.self g4
              subst this
              rcases g5 with ⟨k, g5⟩ | ⟨j', rv', off', len', g5, g6, ty', sz', rows', g7⟩
              · exact e3 (List.mem_of_getElem? g5)
              · have hjj := ownIds_inj hnd (i := j) (j := j') (id := id) (off := off) (len := len) (off' := off') (len' := len') (by rw [hrv, e1]) (by simp [g5, g6])
                subst hjj
                rw [hres] at g7; cases g7
          show Rep w _ _ _
          cases hs : out.sep with
          | false =>
            refine own_view h e2 hav0 (fun b hb hB => ?_) (fun l hl => by have := hnot l hl; rw [hs] at this; exact this)
            have := (hkeep hs).out b hb hB
            rw [hs] at this; exact this
          | true =>
            have hv := own_view h e2 hav0 (B' := fun b => Bl A β σ.m b ∧ ∀ l, β id = some l → l.b ≠ b) (fun b _ hB hB' => hB hB'.1) (fun l hl hB' => hB'.2 l hl rfl)
            refine rep_list_gr hv (e4 hs) fun ad n c hve hn hB' => ?_
            simp only [AvRep0, e2] at hav0
            obtain ⟨hle, hav0⟩ := hav0
            rcases hav0 with ⟨_, hve'⟩ | ⟨l, ad', hβ, hve', hot, had⟩
            · rw [hve] at hve'; cases hve'
            · rw [hve] at hve'
              injection hve' with q1 q2 q3
              injection q1 with q1
              subst q1 q2
              have hlt2 : off < l.tot := by
                obtain ⟨_, _, hob⟩ := h.ob id _ e2
                rcases hob with ⟨hb, _⟩ | ⟨l', cs, hb, _, _, hb2, _⟩
                · rw [hβ] at hb; cases hb
                · rw [hβ] at hb; injection hb with hb; subst hb; omega
              have := had hlt2
              subst this
              rw [← hs] at hB'
              exact hnot l hβ hB'
        · -- handed on as an array
          unfold outT; rw [hres]
          have hmm : outM ins out (1000 + j) = some (.arr ty sz ((rows.drop off).take len)) := by
            unfold outM
            rw [if_neg (by omega), show 1000 + j - 1000 = j from by omega, hres]
          have hb' : β' (1000 + j) = (match β id with | some l => some ⟨l.b, l.base + off * sz, l.tot - off, l.rg⟩ | none => none) := by
            simp only [β']
            rw [if_neg (by omega), show 1000 + j - 1000 = j from by omega]
            simp only [hrv, e1, e2]
            cases β id <;> rfl
          simp only [AvRep, AvRep0, hmm, hb']
          simp only [AvRep0, e2] at hav0
          obtain ⟨hle, hav0⟩ := hav0
          refine ⟨by omega, ?_⟩
          rcases hav0 with ⟨hβ, hve⟩ | ⟨l, ad, hβ, hve, hot, had⟩
          · left
            rw [hβ]
            exact ⟨rfl, hve⟩
          · right
            rw [hβ]
            refine ⟨_, ad, rfl, ?_, Nat.zero_le _, fun hlt2 => ?_⟩
            · rw [hve]
              have : ((rows.drop off).take len).length = len := by rw [List.length_take, List.length_drop]; omega
              rw [this]; rfl
            · rw [had (by simp at hlt2; omega)]
              simp
  · intro c o hc
    have hc' : outM ins out c = some o := hc
    rcases hobj c o hc' with ⟨k, id, e1, e2, e3, e4, e5, _⟩ | ⟨j, rv, id, off, len, ty, sz, rows, rfl, e1, e2, e3, e4, rfl, e5, e6, e7⟩
    · have hob := h.ob id o e3
      show ObRep w (Bl (sepA W A locs out.sep) β' (outM ins out)) β' (outM ins out) c o
      cases o with
      | gone => trivial
      | cel sz rows =>
        obtain ⟨q1, q2, q3⟩ := hob
        refine ⟨q1, q2, ?_⟩
        rcases q3 with ⟨q3, q4⟩ | ⟨l, g, q3, q4⟩
        · exact .inl ⟨e4.trans q3, q4⟩
        · refine .inr ⟨l, g, e4.trans q3, fun j d hj => ⟨(q4 j d hj).1, hrep _ d (q4 j d hj).2 fun hs => ?_⟩⟩
          have hg := e5 hs
          obtain ⟨r, hr1, hr2⟩ := List.mem_flatten.1 (List.mem_of_getElem? hj)
          exact (List.all_eq_true.1 ((List.all_eq_true.1 hg) r hr1)) d hr2
      | arr ty sz rows =>
        obtain ⟨q1, q2, q3⟩ := hob
        refine ⟨q1, q2, ?_⟩
        rcases q3 with ⟨q3, q4⟩ | ⟨l, cs, q3, q4, q5, q6, q7, q8⟩
        · exact .inl ⟨e4.trans q3, q4⟩
        · refine .inr ⟨l, cs, e4.trans q3, q4, q5, q6, q7, fun j d hj => hrep _ d (q8 j d hj) fun hs => ?_⟩
          have hg := e5 hs
          obtain ⟨r, hr1, hr2⟩ := List.mem_flatten.1 (List.mem_of_getElem? hj)
          exact (List.all_eq_true.1 ((List.all_eq_true.1 hg) r hr1)) d hr2
      | box ty cells =>
        obtain ⟨l, cs, q1, q2, q3, q4⟩ := hob
        refine ⟨l, cs, e4.trans q1, q2, q3, fun j av hj => ?_⟩
        have hcv := q4 j av hj
        rcases hmo c _ hc' with ⟨ds, hds⟩ 
        have hds' : cells = ds.map .imm := hds _ _ rfl
        subst hds'
        simp only [List.getElem?_map, Option.map_eq_some_iff] at hj
        obtain ⟨d, hd, rfl⟩ := hj
        refine hrep _ d hcv fun hs => ?_
        have hg := e5 hs
        simp only [O.gr, List.all_map, List.all_eq_true] at hg
        exact hg d (List.mem_of_getElem? hd)
      | reg c' =>
        rcases hob with q | ⟨l, r, q1, q2, q3, q4⟩
        · exact .inl (e4.trans q)
        · exact .inr ⟨l, r, e4.trans q1, q2, q3, q4⟩
      | ext I =>
        show ExtAt I w (foot (β' c))
        rw [e4]
        exact hob
    · show ObRep w (Bl (sepA W A locs out.sep) β' (outM ins out)) β' (outM ins out) (1000 + j) _
      have hob := h.ob id _ e3
      obtain ⟨q1, q2, q3⟩ := hob
      refine ⟨fun r hr => q1 r (List.mem_of_mem_drop (List.mem_of_mem_take hr)), q2, ?_⟩
      rcases q3 with ⟨q3, q4⟩ | ⟨l, cs, q3, q4, q5, q6, q7, q8⟩
      · left
        subst q4
        exact ⟨by rw [e7, q3], by simp⟩
      · right
        have hav := hvat j _ e1
        rw [e2] at hav
        have hav0 : AvRep0 w (Bl A β σ.m) β σ.m (.own id off len) (vs.getD j Go.undef) := hav
        simp only [AvRep0, e3] at hav0
        obtain ⟨hle, _⟩ := hav0
        refine ⟨⟨l.b, l.base + off * sz, l.tot - off, l.rg⟩, cs, by rw [e7, q3], q4, ?_, ?_, ?_, ?_⟩
        · show cs.size = l.base + off * sz + (l.tot - off) * sz
          rw [q5, Nat.add_assoc, ← Nat.add_mul]
          congr 2
          omega
        · show ((rows.drop off).take len).length ≤ l.tot - off
          rw [List.length_take, List.length_drop]; omega
        · show l.tot - off ≤ maxLen
          omega
        · intro i d hi
          show Rep w _ (cs.getD (l.base + off * sz + i) Go.undef) d
          have hfl : rows.flatten[off * sz + i]? = some d := by
            rw [flat_take (sz := sz) _ (fun r hr => q1 r (List.mem_of_mem_drop hr)), flat_drop rows q1] at hi
            rw [List.getElem?_take] at hi
            split at hi
            · rwa [List.getElem?_drop] at hi
            · cases hi
          have := q8 _ d hfl
          rw [← Nat.add_assoc] at this
          refine hrep _ d this fun hs => ?_
          obtain ⟨r, hr1, hr2⟩ := List.mem_flatten.1 (List.mem_of_getElem? hi)
          exact (List.all_eq_true.1 (e6 hs r hr1)) d hr2
  · intro c o l hc hl hb
    have hc' : outM ins out c = some o := hc
    rcases hobj c o hc' with ⟨k, id, e1, e2, e3, e4, e5, _⟩ | ⟨j, rv, id, off, len, ty, sz, rows, rfl, e1, e2, e3, e4, rfl, e5, e6, e7⟩
    · rw [e4] at hb
      intro b hbb
      obtain ⟨n1, n2, n3⟩ := h.new id o l e3 hl hb b hbb
      exact ⟨n1, hfree id o l e3 hl hb b hbb, n3⟩
    · rw [e7] at hb
      cases hβ : β id with
      | none => rw [hβ] at hb; cases hb
      | some l0 =>
        rw [hβ] at hb; injection hb with hb; subst hb
        intro b hbb
        obtain ⟨n1, n2, n3⟩ := h.new id _ l0 e3 rfl hβ b hbb
        exact ⟨n1, hfree id _ l0 e3 rfl hβ b hbb, n3⟩
  · rintro b (hA | ⟨_, hb, _⟩)
    · exact h.lt b hA
    · exact Nat.lt_of_lt_of_le hb h.fr.size
  · refine ⟨hl2.trans h.pm.1, fun k i hk => ?_⟩
    have hk1 : (mutIdx ins)[k]? = some i := hk
    have hlt : k < σ.pm.length := by rw [← hl2]; exact (List.getElem?_eq_some_iff.1 hk1).1
    have hk' := List.getElem?_eq_getElem hlt
    obtain ⟨p1, _⟩ := h.pm.2 k _ hk'
    obtain ⟨q1, q2⟩ := hβm k i _ hk1 hk'
    refine ⟨by rw [p1, q2], ?_⟩
    show ∃ o, outM ins out i = some o
    obtain ⟨inn, r1, r2⟩ := mem_mutIdx.1 (List.mem_of_getElem? hk1)
    unfold outM
    rw [if_pos q1, r1]
    cases inn with
    | imm d => cases r2
    | arr ty sz rows => exact ⟨_, rfl⟩
    | box ty cells => exact ⟨_, rfl⟩
    | reg c d => exact ⟨_, rfl⟩

set_option maxHeartbeats 2000000 in
include hT in
theorem ret_sim (h : Sim W A locs β σ a w) {fn : Func} {ins : List In} {out : Out} (hlen : ins.length ≤ 1000) (hmo : ∀ c o, outM ins out c = some o → ∃ ds : List D, ∀ ty cells, o = .box ty cells → cells = ds.map .imm) (hret : RetOk T fn ins out σ) :
    ∃ vals β', (results fn a.tmps).run P w = .ok (packO out.agg vals) w ∧ Sim W (sepA W A locs out.sep) locs β' (outS ins out) ⟨vals, []⟩ w := by
  unfold RetOk at hret
  cases hagg : out.agg with
  | true =>
    rw [hagg] at hret
    obtain ⟨rv, l, hfr, hrv, hall, hnd, hpnd, hmuts⟩ := hret
    obtain ⟨v, h3, h4⟩ := ret_val hT h rv (by rw [hrv]; intro e; cases e)
    rw [hrv] at h4
    obtain ⟨vs, rfl, hs, hat⟩ := h4
    obtain ⟨β', hsim⟩ := ret_sim0 h (avs := l) (vs := vs.toList) (by simpa using hs) (fun j av hj => by
      have := hat j av hj
      have e : vs.toList.getD j Go.undef = vs.getD j Go.undef := by simp [Array.getD_eq_getD_getElem?, List.getD_eq_getElem?_getD]
      rw [e]
      exact avRep_of0 this) hlen hmo hall hnd hpnd hmuts
    refine ⟨vs, β', ?_, by simpa using hsim⟩
    rw [results_eq]
    have hm := mapM_run (P := P) (w := w) (retSem a) fn.results.toList [.agg vs] (by simp [hfr]) (fun j rv' hj => by
      rw [hfr] at hj
      cases j with
      | zero => simp at hj; subst hj; exact h3
      | succ j => simp at hj)
    simp only [Array.mapM_eq_mapM_toList, Sem.run_bind, Sem.run_map, hm, Result.andThen_ok, Sem.run_pure]
    rfl
  | false =>
  rw [hagg] at hret
  obtain ⟨hall, hnd, hpnd, hmuts⟩ := hret
  obtain ⟨hl1, hr1⟩ := retAll_at hall
  obtain ⟨hl2, hm2⟩ := mutsOk_at hmuts
  let avs := fn.results.toList.map (retAV T σ)
  have hl1' : fn.results.toList.length = out.res.length := by simpa using hl1
  have hret1 : ∀ (j : Nat) (rv : ResultVar) (r : R0), fn.results.toList[j]? = some rv → out.res[j]? = some r → Ret1 σ out.sep (retAV T σ rv) r := fun j rv r h2 h3 => hr1 j _ r (by simp [h2]) h3
  have hnotdead : ∀ (j : Nat) (rv : ResultVar), fn.results.toList[j]? = some rv → retAV T σ rv ≠ .dead := fun j rv hj e => by
    have hlt : j < out.res.length := by rw [← hl1']; exact (List.getElem?_eq_some_iff.1 hj).1
    have := hret1 j rv _ hj (List.getElem?_eq_getElem hlt)
    rw [e] at this
    exact this
  -- the values
  have hvals : ∃ vs : List Value, vs.length = fn.results.toList.length ∧ ∀ (j : Nat) (rv : ResultVar), fn.results.toList[j]? = some rv →
      (retSem a rv).run P w = .ok (vs.getD j Go.undef) w ∧ AvRep w (Bl A β σ.m) β σ.m (retAV T σ rv) (vs.getD j Go.undef) := by
    have : ∀ l : List ResultVar, (∀ rv ∈ l, retAV T σ rv ≠ .dead) → ∃ vs : List Value, vs.length = l.length ∧ ∀ (j : Nat) (rv : ResultVar), l[j]? = some rv →
      (retSem a rv).run P w = .ok (vs.getD j Go.undef) w ∧ AvRep w (Bl A β σ.m) β σ.m (retAV T σ rv) (vs.getD j Go.undef) := by
      intro l
      induction l with
      | nil => intro _; exact ⟨[], rfl, fun j rv hj => by simp at hj⟩
      | cons rv l ih =>
        intro hd
        obtain ⟨vs, h1, h2⟩ := ih (fun rv' hrv => hd rv' (by simp [hrv]))
        obtain ⟨v, h3, h4⟩ := ret_val hT h rv (hd rv (by simp))
        refine ⟨v :: vs, by simp [h1], fun j rv' hj => ?_⟩
        cases j with
        | zero => simp at hj; subst hj; exact ⟨by simpa using h3, by simpa using h4⟩
        | succ j => simpa using h2 j rv' (by simpa using hj)
    refine this _ fun rv hrv => ?_
    obtain ⟨j, hj⟩ := List.getElem?_of_mem hrv
    exact hnotdead j rv hj
  obtain ⟨vs, hvl, hvat⟩ := hvals
  have hrun : (results fn a.tmps).run P w = .ok (packO false vs.toArray) w := by
    have hm := mapM_run (P := P) (w := w) (retSem a) fn.results.toList vs hvl.symm (fun j rv hj => (hvat j rv hj).1)
    rw [results_eq]
    simp only [Array.mapM_eq_mapM_toList, Sem.run_bind, Sem.run_map, hm, Result.andThen_ok, Sem.run_pure]
    show _ = Result.ok (packR vs.toArray) w
    unfold packR
    congr 1
    split
    · rename_i h1
      have h1' : vs.length = 1 := by simpa using h1
      match vs, h1' with
      | [x], _ => rfl
    · rfl
  obtain ⟨β', hsim⟩ := ret_sim0 h (avs := fn.results.toList.map (retAV T σ)) (vs := vs) (by simpa using hvl) (fun j av hj => by
    simp only [List.getElem?_map, Option.map_eq_some_iff] at hj
    obtain ⟨rv, hj, rfl⟩ := hj
    exact (hvat j rv hj).2) hlen hmo hall hnd hpnd hmuts
  exact ⟨vs.toArray, β', hrun, hsim⟩

end
end Go.Am

/-! The abstract machine, part 21: a contract from a body. -/
namespace Go.Am
open Go

theorem retOk_of {T : TypeId → Option TI} {fn : Func} {ins : List In} {out : Out} {e : Exit} {σ : S} (h : retQ T fn ins out e σ) : (e = .normal ∨ e = .ret) ∧ RetOk T fn ins out σ := by
  cases e with
  | normal => exact ⟨.inl rfl, h⟩
  | ret => exact ⟨.inr rfl, h⟩
  | _ => exact h.elim

theorem mutOk_box {ins : List In} {out : Out} (hm : MutOk ins out) : ∀ c o, outM ins out c = some o → ∃ ds : List D, ∀ ty cells, o = .box ty cells → cells = ds.map .imm := by
  intro c o ho
  unfold outM at ho
  split at ho
  · have key : ∀ o', inM ins c = some o' → ∃ ds : List D, ∀ ty cells, out.muts.getD c .gone = .box ty cells → cells = ds.map .imm := fun o' h' => by
      obtain ⟨_, h2⟩ := hm c o' h'
      rcases h2 with ⟨ty, sz, rows, h2⟩ | ⟨ty, ds, h2⟩ | h2 | ⟨c', h2⟩
      · exact ⟨[], fun ty' cells e => by rw [h2] at e; cases e⟩
      · exact ⟨ds, fun ty' cells e => by rw [h2] at e; injection e with _ e; exact e.symm⟩
      · exact ⟨[], fun ty' cells e => by rw [h2] at e; cases e⟩
      · exact ⟨[], fun ty' cells e => by rw [h2] at e; cases e⟩
    split at ho
    · rename_i hi
      injection ho with ho; subst ho
      exact key _ (by unfold inM; rw [hi])
    · rename_i hi
      injection ho with ho; subst ho
      exact key _ (by unfold inM; rw [hi])
    · rename_i hi
      injection ho with ho; subst ho
      exact key _ (by unfold inM; rw [hi])
    · cases ho
  · split at ho
    · injection ho with ho; subst ho; exact ⟨[], fun _ _ e => by cases e⟩
    · injection ho with ho; subst ho; exact ⟨[], fun _ _ e => by cases e⟩
    · cases ho

end Go.Am

/-! The abstract machine, part 22: values looked at. -/
namespace Go.Am
open Go

def dstOk (d : Option Nat) (n : Nat) : Bool := match d with | some d => Nat.blt d n | none => true

theorem dstOk_at : ∀ {d : Option Nat} {n : Nat}, dstOk d n = true → (match d with | some d => d < n | none => True)
  | none, _, _ => trivial
  | some _, _, h => Nat.le_of_ble_eq_true h

/-- The value, looked at first. -/
def forceV (v : AV) (K : AV → Prop) : Prop :=
  match v with
  | .imm (.int k n) => K (.imm (.int k n))
  | .imm (.bool b) => K (.imm (.bool b))
  | .imm (.str s) => K (.imm (.str s))
  | .imm (.list l) => K (.imm (.list l))
  | .imm (.agg l) => K (.imm (.agg l))
  | .imm (.fn f l) => K (.imm (.fn f l))
  | .imm (.ptr l) => K (.imm (.ptr l))
  | .imm (.other x) => K (.imm (.other x))
  | .own a b c => K (.own a b c)
  | .box a b => K (.box a b)
  | .eptr a b c => K (.eptr a b c)
  | .clo f l => K (.clo f l)
  | .tv a b => K (.tv a b)
  | .tup l => K (.tup l)
  | .mix l => K (.mix l)
  | .undef => K .undef
  | .dead => K .dead

theorem forceV_eq (v : AV) (K : AV → Prop) : forceV v K = K v := by
  cases v with
  | imm d => cases d <;> rfl
  | _ => rfl

/-- The objects, looked at first: so no closure of what went before is carried along. -/
def forceU (up : List (Nat × O)) (K : List (Nat × O) → Prop) : Prop :=
  match up with
  | [] => K []
  | x :: r => K (x :: r)
theorem forceU_eq (up : List (Nat × O)) (K : List (Nat × O) → Prop) : forceU up K = K up := by
  cases up <;> rfl

def forceM (m : Nat → Option O) : List (Nat × O) → ((Nat → Option O) → Prop) → Prop
  | [], K => K m
  | (i, o) :: r, K => forceM (upd m i (some o)) r K

theorem forceM_eq : ∀ (up : List (Nat × O)) (m : Nat → Option O) (K : (Nat → Option O) → Prop), forceM m up K = K (upm m up)
  | [], _, _ => rfl
  | (i, o) :: r, m, K => forceM_eq r (upd m i (some o)) K

def putT (t : Nat → AV) (d : Option Nat) (v : AV) : Nat → AV := match d with | some d => upd t d v | none => t

theorem app_eq (σ : S) (d : Option Nat) (e : Eff) : σ.app d e = ⟨putT σ.t d e.v, upm σ.m e.up, σ.ep, σ.n, σ.pm⟩ := by
  cases d <;> rfl

theorem put_eq (σ : S) (d : Option Nat) (v : AV) : σ.put d v = ⟨putT σ.t d v, σ.m, σ.ep, σ.n, σ.pm⟩ := by
  cases d <;> rfl

def evT (t : Nat → AV) : Operand → AV
  | .tmp i => t i
  | .const v => .imm (toD v)
  | .func f => .imm (.fn f [])
  | .global _ => .dead

theorem ev_eq (σ : S) : σ.ev = evT σ.t := by funext x; cases x <;> rfl

end Go.Am

