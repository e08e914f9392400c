/- The abstract machine, part 14: the callee's first state, and the caller's behind the call. -/
import Derived.Test.YtjebblagiiajaaaAm13
namespace Go.Am
open Go

theorem mem_mutIdx {ins : List In} {i : Nat} : i ∈ mutIdx ins ↔ ∃ inn, ins[i]? = some inn ∧ inn.isMut = true := by
  unfold mutIdx
  rw [List.mem_filter, List.mem_range]
  constructor
  · rintro ⟨h1, h2⟩
    rw [List.getElem?_eq_getElem h1] at h2 ⊢
    exact ⟨_, rfl, by simpa using h2⟩
  · rintro ⟨inn, h1, h2⟩
    exact ⟨(List.getElem?_eq_some_iff.1 h1).1, by rw [h1]; simpa using h2⟩

section
variable {P : Program} {w0 w : World} {A : Nat → Prop} {locs : List (Option Loc)} {β : Nat → Option Loc} {σ : S} {a : Act}

/-- What the callee may not read through. -/
def calleeA (A : Nat → Prop) (β : Nat → Option Loc) (m : Nat → Option O) (ids : List Nat) : Nat → Prop := fun b => Bl A β m b ∧ ∀ id ∈ ids, ∀ l, β id = some l → l.b ≠ b

def calleeβ (β : Nat → Option Loc) (gs : List (Option Nat)) (i : Nat) : Option Loc :=
  match gs[i]? with
  | some (some id) => β id
  | _ => none

/-- The callee's first state. -/
theorem callee_sim (h : Sim w0 A locs β σ a w) {md : List Nat} {args : List AV} {ins : List In} {vs fz : List Nat} {gs : List (Option Nat)} (hin : argsIn σ.m md args = some (ins, vs, fz, gs))
    (hnd : (fz ++ gs.filterMap id).Nodup) (hv : ∀ v ∈ vs, v ∉ fz ∧ some v ∉ gs) (vals : Array Value) (hsz : vals.size = args.length)
    (hvals : ∀ (i : Nat) (av : AV), args[i]? = some av → AvRep w (Bl A β σ.m) β σ.m av (vals.getD i Go.undef)) :
    Sim w (calleeA A β (upm σ.m (kills fz)) (vs ++ gs.filterMap id)) ((mutIdx ins).map (calleeβ β gs)) (calleeβ β gs) (inS ins vals.size) ⟨vals, []⟩ w := by
  obtain ⟨q1, q2, q3, q4, q5⟩ := argsIn_at args md ins vs fz gs hin
  have hlv : ∀ x ∈ vs, ∃ o, σ.m x = some o ∧ o.live = true := fun x hx => by
    obtain ⟨av, k, inn, v, f, g, _, r2, r3⟩ := q4 x hx
    exact (argIn_live r2).1 x r3
  have hlf : ∀ x ∈ fz, ∃ o, σ.m x = some o ∧ o.live = true := fun x hx => by
    obtain ⟨av, k, inn, v, f, g, _, r2, r3⟩ := q5 x hx
    exact (argIn_live r2).2.1 x r3
  have hgi : ∀ (i x : Nat), gs[i]? = some (some x) → ∃ (av : AV) (k : Nat) (inn : In) (v f : List Nat), args[i]? = some av ∧ ins[i]? = some inn ∧ argIn σ.m k av = some (inn, v, f, some x) := fun i x hi => by
    have hlt : i < args.length := by rw [← q2]; exact (List.getElem?_eq_some_iff.1 hi).1
    obtain ⟨k, inn, v, f, g, r1, r2, r3, _⟩ := q3 i _ (List.getElem?_eq_getElem hlt)
    rw [hi] at r2; injection r2 with r2; subst r2
    exact ⟨_, k, inn, v, f, List.getElem?_eq_getElem hlt, r1, r3⟩
  have hlg : ∀ (i x : Nat), gs[i]? = some (some x) → ∃ o, σ.m x = some o ∧ o.live = true := fun i x hi => by
    obtain ⟨av, k, inn, v, f, _, _, r3⟩ := hgi i x hi
    exact (argIn_live r3).2.2 x rfl
  have hgmem : ∀ (i x : Nat), gs[i]? = some (some x) → x ∈ gs.filterMap id := fun i x hi => by
    rw [List.mem_filterMap]
    exact ⟨some x, List.mem_of_getElem? hi, rfl⟩
  have hinj : ∀ (i j x : Nat), gs[i]? = some (some x) → gs[j]? = some (some x) → i = j := filterMap_inj gs (List.nodup_append.1 hnd).2.1
  -- which parameters are lent
  have hmut : ∀ (i : Nat) (o : O), inM ins i = some o → ∃ (x : Nat) (ox : O), gs[i]? = some (some x) ∧ σ.m x = some ox ∧ ox.live = true ∧ ((∃ ty sz rows, ox = .arr ty sz rows ∧ o = .arr ty sz rows) ∨ ∃ (ty : TypeId) (cells : List AV) (ds : List D), ox = .box ty cells ∧ cells = ds.map .imm ∧ o = .box ty (ds.map .imm)) := by
    intro i o hi
    unfold inM at hi
    have hget : ∀ inn, ins[i]? = some inn → inn.isMut = true → ∃ (av : AV) (k : Nat) (v f : List Nat) (g : Option Nat), args[i]? = some av ∧ gs[i]? = some g ∧ argIn σ.m k av = some (inn, v, f, g) := fun inn h1 _ => by
      have hlt : i < args.length := by rw [← q1]; exact (List.getElem?_eq_some_iff.1 h1).1
      obtain ⟨k, inn', v, f, g, r1, r2, r3, _⟩ := q3 i _ (List.getElem?_eq_getElem hlt)
      rw [h1] at r1; injection r1 with r1; subst r1
      exact ⟨_, k, v, f, g, List.getElem?_eq_getElem hlt, r2, r3⟩
    split at hi
    · rename_i ty sz rows h1
      injection hi with hi; subst hi
      obtain ⟨av, k, v, f, g, _, r2, r3⟩ := hget _ h1 rfl
      rcases argIn_inv r3 with ⟨d, _, e, _⟩ | ⟨id, off, len, ty, sz, rows, _, hm, e, _⟩ | ⟨id, len, ty', sz', rows', _, hm, _, e, _, _, rfl⟩ | ⟨id, off, ds, _, hm, e, _⟩ | ⟨id, ty, cells, ds, _, hm, _, e, _⟩ | ⟨fn, ids, ds, _, hm, e, _⟩ <;> cases e
      exact ⟨id, _, r2, hm, rfl, .inl ⟨_, _, _, rfl, rfl⟩⟩
    · rename_i ty cells h1
      injection hi with hi; subst hi
      obtain ⟨av, k, v, f, g, _, r2, r3⟩ := hget _ h1 rfl
      rcases argIn_inv r3 with ⟨d, _, e, _⟩ | ⟨id, off, len, ty, sz, rows, _, hm, e, _⟩ | ⟨id, len, ty', sz', rows', _, hm, _, e, _, _, rfl⟩ | ⟨id, off, ds, _, hm, e, _⟩ | ⟨id, ty', cells', ds, _, hm, hi', e, _, _, rfl⟩ | ⟨fn, ids, ds, _, hm, e, _⟩ <;> cases e
      exact ⟨id, _, r2, hm, rfl, .inr ⟨_, _, _, rfl, imms_eq hi', rfl⟩⟩
    · cases hi
  have hβc : ∀ (i x : Nat), gs[i]? = some (some x) → calleeβ β gs i = β x := fun i x hi => by unfold calleeβ; rw [hi]
  -- the bars of the callee
  have hBc : ∀ b, Bl (calleeA A β (upm σ.m (kills fz)) (vs ++ gs.filterMap id)) (calleeβ β gs) (inM ins) b →
      (calleeA A β (upm σ.m (kills fz)) (vs ++ gs.filterMap id) b) ∨ ∃ (i x : Nat) (ox : O) (l : Loc), gs[i]? = some (some x) ∧ σ.m x = some ox ∧ ox.live = true ∧ β x = some l ∧ l.b = b := by
    rintro b (hA | ⟨i, o, l, h1, h2, h3, h4⟩)
    · exact .inl hA
    · obtain ⟨x, ox, g1, g2, g3, _⟩ := hmut i o h1
      rw [hβc i x g1] at h3
      exact .inr ⟨i, x, ox, l, g1, g2, g3, h3, h4⟩
  have hkl : ∀ b, Bl A β (upm σ.m (kills fz)) b → Bl A β σ.m b ∧ ∀ x ∈ fz, ∀ l, β x = some l → l.b ≠ b := by
    rintro b (hA | ⟨i, o, l, h1, h2, h3, h4⟩)
    · refine ⟨.inl hA, fun x hx l hl e => ?_⟩
      obtain ⟨ox, e1, e2⟩ := hlf x hx
      exact (h.new x ox l e1 e2 hl).2.1 (e ▸ hA)
    · have hif : i ∉ fz := fun hif => by
        have : ∀ (m : Nat → Option O) (ks : List Nat), i ∈ ks → upm m (kills ks) i = some .gone := by
          intro m ks
          induction ks generalizing m with
          | nil => intro hj; cases hj
          | cons k ks ihk =>
            intro hj
            by_cases hjk : i ∈ ks
            · exact ihk _ hjk
            · have : i = k := by simp at hj; exact hj.resolve_right hjk
              subst this
              show upm (upd m i (some .gone)) (kills ks) i = _
              rw [upm_kills_other _ _ _ hjk, upd_same]
        rw [this _ _ hif] at h1
        injection h1 with h1; subst h1; simp [O.live] at h2
      rw [upm_kills_other _ _ _ hif] at h1
      refine ⟨.inr ⟨i, o, l, h1, h2, h3, h4⟩, fun x hx l' hl' e => ?_⟩
      obtain ⟨ox, e1, e2⟩ := hlf x hx
      have := h.inj x i ox o l' l e1 e2 hl' h1 h2 h3 (e.trans h4.symm)
      subst this
      exact hif hx
  have hout : ∀ b, b < w.heap.size → ¬ Bl A β σ.m b → ¬ Bl (calleeA A β (upm σ.m (kills fz)) (vs ++ gs.filterMap id)) (calleeβ β gs) (inM ins) b := fun b _ hB hB' => by
    rcases hBc b hB' with h1 | ⟨i, x, ox, l, g1, g2, g3, g4, g5⟩
    · exact hB (hkl b h1.1).1
    · exact hB (.inr ⟨x, ox, l, g2, g3, g4, g5⟩)
  -- a viewed or given up object's block is no bar
  have hfreev : ∀ x ∈ vs, ∀ l, β x = some l → ¬ Bl (calleeA A β (upm σ.m (kills fz)) (vs ++ gs.filterMap id)) (calleeβ β gs) (inM ins) l.b := fun x hx l hl hB' => by
    rcases hBc _ hB' with h1 | ⟨i, y, oy, l', g1, g2, g3, g4, g5⟩
    · exact h1.2 x (List.mem_append_left _ hx) l hl rfl
    · obtain ⟨ox, e1, e2⟩ := hlv x hx
      have := h.inj y x oy ox l' l g2 g3 g4 e1 e2 hl g5
      subst this
      exact (hv y hx).2 (List.mem_of_getElem? g1)
  have hfreef : ∀ x ∈ fz, ∀ l, β x = some l → ¬ Bl (calleeA A β (upm σ.m (kills fz)) (vs ++ gs.filterMap id)) (calleeβ β gs) (inM ins) l.b := fun x hx l hl hB' => by
    rcases hBc _ hB' with h1 | ⟨i, y, oy, l', g1, g2, g3, g4, g5⟩
    · exact (hkl _ h1.1).2 x hx l hl rfl
    · obtain ⟨ox, e1, e2⟩ := hlf x hx
      have := h.inj y x oy ox l' l g2 g3 g4 e1 e2 hl g5
      subst this
      exact (List.nodup_append.1 hnd).2.2 y hx y (hgmem i y g1) rfl
  have kk : Keeps w (Bl A β σ.m) w (Bl (calleeA A β (upm σ.m (kills fz)) (vs ++ gs.filterMap id)) (calleeβ β gs) (inM ins)) := ⟨Nat.le_refl _, fun _ _ _ => rfl, hout⟩
  refine { size := rfl, defers := rfl, slot := ?_, ob := ?_, inj := ?_, new := ?_, fr := Fr.refl _ _ (h.tb ?_), lt := ?_, pm := ?_ }
  · intro i
    show AvRep w _ (calleeβ β gs) (inM ins) (inT ins i) (vals.getD i Go.undef)
    unfold inT
    cases hi : ins[i]? with
    | none =>
      have : vals.size ≤ i := by rw [hsz, ← q1]; exact List.getElem?_eq_none_iff.1 hi
      show vals.getD i Go.undef = Go.undef
      simp [Array.getD, Nat.not_lt.2 this]
    | some inn0 =>
      have hlt : i < args.length := by rw [← q1]; exact (List.getElem?_eq_some_iff.1 hi).1
      obtain ⟨k, inn, v, f, g, r1, r2, r3, r4, r5⟩ := q3 i _ (List.getElem?_eq_getElem hlt)
      rw [hi] at r1; injection r1 with r1; subst r1
      have hval := hvals i _ (List.getElem?_eq_getElem hlt)
      rcases argIn_inv r3 with ⟨d, e0, rfl, rfl, rfl, rfl⟩ | ⟨id, off, len, ty, sz, rows, e0, hm, rfl, rfl, hvf⟩ | ⟨id, len, ty, sz, rows, e0, hm, hlen, rfl, rfl, rfl, rfl⟩ | ⟨id, off, ds, e0, hm, rfl, rfl, rfl, rfl⟩ | ⟨id, ty, cells, ds, e0, hm, him, rfl, rfl, rfl, rfl⟩ | ⟨fn, ids, ds, e0, hm, rfl, rfl, rfl, rfl⟩
      · rw [e0] at hval
        exact Rep.keep kk hval
      · rw [e0] at hval
        refine own_view h hm hval hout ?_
        rcases hvf with ⟨rfl, rfl⟩ | ⟨rfl, rfl⟩
        · exact hfreev id (r4 id (by simp))
        · exact hfreef id (r5 id (by simp))
      · rw [e0] at hval
        have hin' : inM ins i = some (.arr ty sz rows) := by unfold inM; rw [hi]
        simp only [AvRep, AvRep0, hm] at hval
        subst hlen
        simp only [AvRep, AvRep0, hin', hβc i id r2]
        exact hval
      · rw [e0] at hval
        exact box_view h hm hval hout (hfreev id (r4 id (by simp)))
      · rw [e0] at hval
        have hin' : inM ins i = some (.box ty (ds.map .imm)) := by unfold inM; rw [hi]
        simp only [AvRep, AvRep0, BoxAt, hm] at hval
        simp only [AvRep, AvRep0, BoxAt, hin', hβc i id r2]
        exact hval
      · rw [e0] at hval
        obtain ⟨vs', hv1, hv2, hv3⟩ := hval
        rw [hv1]
        obtain ⟨p1, p2⟩ := viewClo_at hm
        refine Rep.fn fn vs' ds (by rw [hv2, p1]) fun j d hj => ?_
        obtain ⟨id, cs, s1, s2, rfl⟩ := p2 j d hj
        exact box_view h s2 (hv3 j id s1) hout (hfreev id (r4 id (List.mem_of_getElem? s1)))
  · intro i o hi
    obtain ⟨x, ox, g1, g2, g3, g4⟩ := hmut i o hi
    have hob := h.ob x ox g2
    rcases g4 with ⟨ty, sz, rows, rfl, rfl⟩ | ⟨ty, cells, ds, rfl, rfl, rfl⟩
    · obtain ⟨p1, p2, p3⟩ := hob
      refine ⟨p1, p2, ?_⟩
      rcases p3 with ⟨p3, p4⟩ | ⟨l, cs, p3, p4, p5, p6, p7, p8⟩
      · exact .inl ⟨by show calleeβ β gs i = none; rw [hβc i x g1]; exact p3, p4⟩
      · exact .inr ⟨l, cs, by show calleeβ β gs i = some l; rw [hβc i x g1]; exact p3, p4, p5, p6, p7, fun j d hj => (p8 j d hj).keep kk⟩
    · obtain ⟨l, cs, p1, p2, p3, p4⟩ := hob
      refine ⟨l, cs, by show calleeβ β gs i = some l; rw [hβc i x g1]; exact p1, p2, p3, fun j av hj => ?_⟩
      have := p4 j av hj
      simp only [List.getElem?_map, Option.map_eq_some_iff] at hj
      obtain ⟨d, _, rfl⟩ := hj
      exact Rep.keep kk this
  · intro i j oi oj li lj h1 h2 h3 h4 h5 h6 h7
    obtain ⟨x, ox, g1, g2, g3, _⟩ := hmut i oi h1
    obtain ⟨y, oy, f1, f2, f3, _⟩ := hmut j oj h4
    have h3' : calleeβ β gs i = some li := h3
    have h6' : calleeβ β gs j = some lj := h6
    rw [hβc i x g1] at h3'
    rw [hβc j y f1] at h6'
    have := h.inj x y ox oy li lj g2 g3 h3' f2 f3 h6' h7
    subst this
    exact hinj i j x g1 f1
  · intro i o l h1 h2 h3
    obtain ⟨x, ox, g1, g2, g3, _⟩ := hmut i o h1
    have h3' : calleeβ β gs i = some l := h3
    rw [hβc i x g1] at h3'
    refine ⟨(h.new x ox l g2 g3 h3').1, fun hA' => hA'.2 x (List.mem_append_right _ (hgmem i x g1)) l h3' rfl, .inr ⟨l, ?_, rfl⟩⟩
    rw [List.mem_map]
    refine ⟨i, mem_mutIdx.2 ?_, h3⟩
    have h1' : inM ins i = some o := h1
    clear h1
    have h1 := h1'
    unfold inM at h1
    cases hi : ins[i]? with
    | none => simp [hi] at h1
    | some inn => cases inn <;> simp [hi] at h1 <;> exact ⟨_, rfl, rfl⟩
  · intro l hl
    obtain ⟨i, hi, e⟩ := List.mem_map.1 hl
    obtain ⟨inn, h1, h2⟩ := mem_mutIdx.1 hi
    have h3 : ∃ o, inM ins i = some o := by
      unfold inM
      rw [h1]
      cases inn <;> first | exact ⟨_, rfl⟩ | (simp [In.isMut] at h2)
    obtain ⟨o, ho⟩ := h3
    obtain ⟨x, ox, g1, g2, g3, _⟩ := hmut i o ho
    exact ⟨x, ox, g2, g3, (hβc i x g1).symm.trans e⟩
  · intro b hb
    exact h.live_lt b (hkl b hb.1).1
  · refine ⟨by simp [inS], fun k i hk => ⟨by show ((mutIdx ins).map (calleeβ β gs))[k]? = _; rw [List.getElem?_map]; show Option.map _ (mutIdx ins)[k]? = _; rw [show (mutIdx ins)[k]? = some i from hk]; rfl, ?_⟩⟩
    have hmem : i ∈ mutIdx ins := List.mem_of_getElem? hk
    obtain ⟨inn, h1, h2⟩ := mem_mutIdx.1 hmem
    show ∃ o, inM ins i = some o
    unfold inM
    rw [h1]
    cases inn <;> first | exact ⟨_, rfl⟩ | (simp [In.isMut] at h2)

end
end Go.Am
