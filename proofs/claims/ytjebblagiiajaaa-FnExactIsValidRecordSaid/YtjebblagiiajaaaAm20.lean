/- The abstract machine, part 20: a function's contract from its body, closed. -/
import Derived.Test.YtjebblagiiajaaaAm19
namespace Go.Am
open Go

theorem rep_list_gr {w : World} {B B' : Nat → Prop} {v : Value} {rows : List (List D)} (hr : Rep w B v (.list rows)) (hg : ∀ x ∈ rows, x.all D.gr = true) (hb : ∀ ad n c, v = .slice (some ad) n c → 0 < n → ¬ B' ad.block) : Rep w B' v (.list rows) := by
  cases hr with
  | nil a c => exact .nil _ _
  | list ad n c rows sz g hn hc hrr hbl hB hs hcell hrep =>
    by_cases h0 : 0 < n
    · refine .list ad n c rows sz g hn hc hrr hbl (hb ad n c rfl h0) hs hcell fun j d hj => (hrep j d hj).gr ?_
      obtain ⟨r, hr1, hr2⟩ := List.mem_flatten.1 (List.mem_of_getElem? hj)
      exact (List.all_eq_true.1 (hg r hr1)) d hr2
    · have : rows = [] := List.eq_nil_of_length_eq_zero (by omega)
      have hn0 : n = 0 := by omega
      subst this hn0
      exact .nil _ _

theorem mutIdx_nodup (ins : List In) : (mutIdx ins).Nodup := List.filter_sublist.nodup List.nodup_range

theorem nodup_at {l : List Nat} (h : l.Nodup) {i j : Nat} {x : Nat} (hi : l[i]? = some x) (hj : l[j]? = some x) : i = j := by
  obtain ⟨h1, h2⟩ := List.getElem?_eq_some_iff.1 hi
  obtain ⟨h3, h4⟩ := List.getElem?_eq_some_iff.1 hj
  exact (List.getElem_inj h).1 (h2.trans h4.symm)

theorem getD_toArray (vs : List Value) (j : Nat) : vs.toArray.getD j Go.undef = vs.getD j Go.undef := by simp [Array.getD_eq_getD_getElem?]

section
variable {P : Program} {T : TypeId → Option TI} (hT : TOk P T) {W w : World} {A : Nat → Prop} {locs : List (Option Loc)} {β : Nat → Option Loc} {σ : S} {a : Act}

set_option maxHeartbeats 2000000 in
include hT in
theorem ret_sim (h : Sim W A locs β σ a w) {fn : Func} {ins : List In} {out : Out} (hlen : ins.length ≤ 1000) (hmo : ∀ c o, outM ins out c = some o → ∃ ds : List D, ∀ ty cells, o = .box ty cells → cells = ds.map .imm) (hret : RetOk T fn ins out σ) :
    ∃ vals β', (results fn a.tmps).run P w = .ok (packR vals) w ∧ Sim W (sepA W A locs out.sep) locs β' (outS ins out) ⟨vals, []⟩ w := by
  obtain ⟨hall, hnd, hpnd, hmuts⟩ := hret
  obtain ⟨hl1, hr1⟩ := retAll_at hall
  obtain ⟨hl2, hm2⟩ := mutsOk_at hmuts
  let avs := fn.results.toList.map (retAV T σ)
  have hl1' : fn.results.toList.length = out.res.length := by simpa using hl1
  have hret1 : ∀ (j : Nat) (rv : ResultVar) (r : R0), fn.results.toList[j]? = some rv → out.res[j]? = some r → Ret1 σ out.sep (retAV T σ rv) r := fun j rv r h2 h3 => hr1 j _ r (by simp [h2]) h3
  have hnotdead : ∀ (j : Nat) (rv : ResultVar), fn.results.toList[j]? = some rv → retAV T σ rv ≠ .dead := fun j rv hj e => by
    have hlt : j < out.res.length := by rw [← hl1']; exact (List.getElem?_eq_some_iff.1 hj).1
    have := hret1 j rv _ hj (List.getElem?_eq_getElem hlt)
    rw [e] at this
    exact this
  -- the values
  have hvals : ∃ vs : List Value, vs.length = fn.results.toList.length ∧ ∀ (j : Nat) (rv : ResultVar), fn.results.toList[j]? = some rv →
      (retSem a rv).run P w = .ok (vs.getD j Go.undef) w ∧ AvRep w (Bl A β σ.m) β σ.m (retAV T σ rv) (vs.getD j Go.undef) := by
    have : ∀ l : List ResultVar, (∀ rv ∈ l, retAV T σ rv ≠ .dead) → ∃ vs : List Value, vs.length = l.length ∧ ∀ (j : Nat) (rv : ResultVar), l[j]? = some rv →
      (retSem a rv).run P w = .ok (vs.getD j Go.undef) w ∧ AvRep w (Bl A β σ.m) β σ.m (retAV T σ rv) (vs.getD j Go.undef) := by
      intro l
      induction l with
      | nil => intro _; exact ⟨[], rfl, fun j rv hj => by simp at hj⟩
      | cons rv l ih =>
        intro hd
        obtain ⟨vs, h1, h2⟩ := ih (fun rv' hrv => hd rv' (by simp [hrv]))
        obtain ⟨v, h3, h4⟩ := ret_val hT h rv (hd rv (by simp))
        refine ⟨v :: vs, by simp [h1], fun j rv' hj => ?_⟩
        cases j with
        | zero => simp at hj; subst hj; exact ⟨by simpa using h3, by simpa using h4⟩
        | succ j => simpa using h2 j rv' (by simpa using hj)
    refine this _ fun rv hrv => ?_
    obtain ⟨j, hj⟩ := List.getElem?_of_mem hrv
    exact hnotdead j rv hj
  obtain ⟨vs, hvl, hvat⟩ := hvals
  have hrun : (results fn a.tmps).run P w = .ok (packR vs.toArray) w := by
    have hm := mapM_run (P := P) (w := w) (retSem a) fn.results.toList vs hvl.symm (fun j rv hj => (hvat j rv hj).1)
    rw [results_eq]
    simp only [Array.mapM_eq_mapM_toList, Sem.run_bind, Sem.run_map, hm, Result.andThen_ok, Sem.run_pure]
    unfold packR
    congr 1
    split
    · rename_i h1
      have h1' : vs.length = 1 := by simpa using h1
      match vs, h1' with
      | [x], _ => rfl
    · rfl
  -- names and places
  let β' : Nat → Option Loc := fun c => if c < 1000 then (match ((mutIdx ins).zip σ.pm).find? (fun x => x.1 == c) with | some x => β x.2 | none => none)
    else match (fn.results.toList.map (retAV T σ))[c - 1000]? with
      | some (.own id off _) => (match β id, σ.m id with | some l, some (.arr _ sz _) => some ⟨l.b, l.base + off * sz, l.tot - off⟩ | _, _ => none)
      | _ => none
  have hβm : ∀ (k i id : Nat), (mutIdx ins)[k]? = some i → σ.pm[k]? = some id → i < 1000 ∧ β' i = β id := fun k i id hk hk' => by
    have hi : i < 1000 := by
      obtain ⟨inn, h1, _⟩ := mem_mutIdx.1 (List.mem_of_getElem? hk)
      have := (List.getElem?_eq_some_iff.1 h1).1
      omega
    refine ⟨hi, ?_⟩
    simp only [β', if_pos hi]
    have hmem : (i, id) ∈ (mutIdx ins).zip σ.pm := by
      refine List.mem_of_getElem? (i := k) ?_
      rw [List.getElem?_zip_eq_some]; exact ⟨hk, hk'⟩
    cases hf : ((mutIdx ins).zip σ.pm).find? (fun x => x.1 == i) with
    | none => exact absurd (List.find?_eq_none.1 hf _ hmem) (by simp)
    | some x =>
      have e1 : x.1 = i := by simpa using List.find?_some hf
      obtain ⟨k', hk2⟩ := List.getElem?_of_mem (List.mem_of_find?_eq_some hf)
      obtain ⟨h3, h4⟩ := List.getElem?_zip_eq_some.1 hk2
      rw [e1] at h3
      have := nodup_at (mutIdx_nodup ins) hk h3
      subst this
      rw [hk'] at h4
      injection h4 with h4
      show β x.2 = β id
      rw [h4]
  -- each object of what comes back
  have hobj : ∀ c o, outM ins out c = some o → (∃ k id : Nat, (mutIdx ins)[k]? = some c ∧ σ.pm[k]? = some id ∧ σ.m id = some o ∧ β' c = β id ∧ (out.sep = true → o.gr = true) ∧ c < 1000) ∨
      (∃ (j : Nat) (rv : ResultVar) (id off len : Nat) (ty sz : Nat) (rows : List (List D)), c = 1000 + j ∧ fn.results.toList[j]? = some rv ∧ retAV T σ rv = .own id off len ∧ σ.m id = some (.arr ty sz rows) ∧ id ∉ σ.pm ∧ o = .arr ty sz ((rows.drop off).take len) ∧
        out.res[j]? = some (.arr ty sz ((rows.drop off).take len)) ∧ (out.sep = true → ∀ x ∈ (rows.drop off).take len, x.all D.gr = true) ∧
        β' c = (match β id with | some l => some ⟨l.b, l.base + off * sz, l.tot - off⟩ | none => none)) := by
    intro c o ho
    unfold outM at ho
    split at ho
    · rename_i hc
      have hcm : c ∈ mutIdx ins ∧ o = out.muts.getD c .gone := by
        split at ho
        · rename_i hi; injection ho with ho; exact ⟨mem_mutIdx.2 ⟨_, hi, rfl⟩, ho.symm⟩
        · rename_i hi; injection ho with ho; exact ⟨mem_mutIdx.2 ⟨_, hi, rfl⟩, ho.symm⟩
        · cases ho
      obtain ⟨hcm, rfl⟩ := hcm
      obtain ⟨k, hk⟩ := List.getElem?_of_mem hcm
      have hlt : k < σ.pm.length := by rw [← hl2]; exact (List.getElem?_eq_some_iff.1 hk).1
      have hk' := List.getElem?_eq_getElem hlt
      obtain ⟨e1, e2⟩ := hm2 k c _ hk hk'
      exact .inl ⟨k, _, hk, hk', e1, (hβm k c _ hk hk').2, e2, hc⟩
    · rename_i hc
      split at ho
      · rename_i ty sz rows hres
        injection ho with ho
        subst ho
        have hlt : c - 1000 < fn.results.toList.length := by rw [hl1']; exact (List.getElem?_eq_some_iff.1 hres).1
        have hrv := List.getElem?_eq_getElem hlt
        have hr := hret1 _ _ _ hrv hres
        rcases ret1_own hr with ⟨d, _, e, _⟩ | ⟨id, off, len, ty', sz', rows', e1, e2, e3, e4, e5 | e5⟩
        · cases e
        · cases e5
        · injection e5 with f1 f2 f3
          subst f1 f2 f3
          refine .inr ⟨c - 1000, _, id, off, len, ty, sz, rows', by omega, hrv, e1, e2, e3, rfl, hres, e4, ?_⟩
          simp only [β', if_neg hc, List.getElem?_map, hrv, Option.map_some, e1, e2]
          cases β id <;> rfl
      · cases ho
  -- the block of an object of ours is kept from nobody
  have hfree : ∀ id o l, σ.m id = some o → o.live = true → β id = some l → ¬ sepA W A locs out.sep l.b := fun id o l e1 e2 e3 hs => by
    obtain ⟨n1, n2, n3⟩ := h.new id o l e1 e2 e3
    rcases hs with hs | ⟨_, hs1, hs2⟩
    · exact n2 hs
    · rcases n3 with n3 | ⟨l0, n3, n4⟩
      · omega
      · exact hs2 l0 n3 n4
  have hBout : ∀ b, Bl (sepA W A locs out.sep) β' (outM ins out) b → sepA W A locs out.sep b ∨ ∃ c o id oid l, outM ins out c = some o ∧ o.live = true ∧ σ.m id = some oid ∧ oid.live = true ∧ β id = some l ∧ l.b = b ∧
      ((∃ k : Nat, σ.pm[k]? = some id) ∨ ∃ (j : Nat) (rv : ResultVar) (off len : Nat), fn.results.toList[j]? = some rv ∧ retAV T σ rv = .own id off len ∧ (∃ (ty sz : Nat) (rows : List (List D)), out.res[j]? = some (.arr ty sz rows))) := by
    rintro b (hs | ⟨c, o, l, g1, g2, g3, g4⟩)
    · exact .inl hs
    · right
      rcases hobj c o g1 with ⟨k, id, e1, e2, e3, e4, _⟩ | ⟨j, rv, id, off, len, ty, sz, rows, rfl, e1, e2, e3, e4, rfl, e5, _, e6⟩
      · rw [e4] at g3
        exact ⟨c, o, id, o, l, g1, g2, e3, g2, g3, g4, .inl ⟨k, e2⟩⟩
      · rw [e6] at g3
        cases hb : β id with
        | none => rw [hb] at g3; cases g3
        | some l0 =>
          rw [hb] at g3; injection g3 with g3; subst g3
          exact ⟨_, _, id, _, l0, g1, rfl, e3, rfl, hb, g4, .inr ⟨j, rv, off, len, e1, e2, _, _, _, e5⟩⟩
  have hkeep : out.sep = false → Keeps w (Bl A β σ.m) w (Bl (sepA W A locs out.sep) β' (outM ins out)) := fun hs => by
    refine ⟨Nat.le_refl _, fun _ _ _ => rfl, fun b _ hB hB' => hB ?_⟩
    rcases hBout b hB' with h1 | ⟨c, o, id, oid, l, _, _, e1, e2, e3, e4, _⟩
    · rcases h1 with h1 | ⟨h1, _⟩
      · exact .inl h1
      · rw [hs] at h1; cases h1
    · exact .inr ⟨id, oid, l, e1, e2, e3, e4⟩
  have hrep : ∀ (v : Value) (d : D), Rep w (Bl A β σ.m) v d → (out.sep = true → d.gr = true) → Rep w (Bl (sepA W A locs out.sep) β' (outM ins out)) v d := fun v d hr hg => by
    cases hs : out.sep with
    | true => exact hr.gr (hg hs)
    | false => have := hr.keep (hkeep hs); rw [hs] at this; exact this
  have hinj : ∀ c c' o o' l l', outM ins out c = some o → o.live = true → β' c = some l → outM ins out c' = some o' → o'.live = true → β' c' = some l' → l.b = l'.b → c = c' := by
    intro c c' o o' l l' g1 g2 g3 g4 g5 g6 g7
    rcases hobj c o g1 with ⟨k, id, e1, e2, e3, e4, _⟩ | ⟨j, rv, id, off, len, ty, sz, rows, rfl, e1, e2, e3, e4, rfl, e5, _, e6⟩ <;>
      rcases hobj c' o' g4 with ⟨k', id', f1, f2, f3, f4, _⟩ | ⟨j', rv', id', off', len', ty', sz', rows', rfl, f1, f2, f3, f4, rfl, f5, _, f6⟩
    · rw [e4] at g3; rw [f4] at g6
      have := h.inj id id' o o' l l' e3 g2 g3 f3 g5 g6 g7
      subst this
      have hkk : k = k' := nodup_at hpnd e2 f2
      subst hkk
      rw [e1] at f1; injection f1
    · rw [e4] at g3; rw [f6] at g6
      cases hb : β id' with
      | none => rw [hb] at g6; cases g6
      | some l0 =>
        rw [hb] at g6; injection g6 with g6; subst g6
        have := h.inj id id' o _ l l0 e3 g2 g3 f3 rfl hb g7
        subst this
        exact absurd (List.mem_of_getElem? e2) f4
    · rw [e6] at g3; rw [f4] at g6
      cases hb : β id with
      | none => rw [hb] at g3; cases g3
      | some l0 =>
        rw [hb] at g3; injection g3 with g3; subst g3
        have := h.inj id id' _ o' l0 l' e3 rfl hb f3 g5 g6 g7
        subst this
        exact absurd (List.mem_of_getElem? f2) e4
    · rw [e6] at g3; rw [f6] at g6
      cases hb : β id with
      | none => rw [hb] at g3; cases g3
      | some l0 =>
        cases hb' : β id' with
        | none => rw [hb'] at g6; cases g6
        | some l0' =>
          rw [hb] at g3; injection g3 with g3; subst g3
          rw [hb'] at g6; injection g6 with g6; subst g6
          have := h.inj id id' _ _ l0 l0' e3 rfl hb f3 rfl hb' g7
          subst this
          have hjj := ownIds_inj hnd (i := j) (j := j') (id := id) (off := off) (len := len) (off' := off') (len' := len') (by simp [e1, e2]) (by simp [f1, f2])
          rw [hjj]
  refine ⟨vs.toArray, β', hrun, { size := by simp [outS, hvl, hl1'], defers := rfl, slot := ?_, ob := ?_, inj := hinj, new := ?_, fr := h.fr, lt := ?_, pm := ?_ }⟩
  · intro j
    show AvRep w (Bl (sepA W A locs out.sep) β' (outM ins out)) β' (outM ins out) (outT out j) (vs.toArray.getD j Go.undef)
    have hgd : vs.toArray.getD j Go.undef = vs.getD j Go.undef := getD_toArray vs j
    rw [hgd]
    cases hres : out.res[j]? with
    | none =>
      unfold outT; rw [hres]
      have : vs.length ≤ j := by rw [hvl, hl1']; exact List.getElem?_eq_none_iff.1 hres
      show vs.getD j Go.undef = Go.undef
      simp [List.getD, List.getElem?_eq_none this]
    | some r =>
      have hlt : j < fn.results.toList.length := by rw [hl1']; exact (List.getElem?_eq_some_iff.1 hres).1
      have hrv := List.getElem?_eq_getElem hlt
      have hr := hret1 _ _ _ hrv hres
      obtain ⟨_, hav⟩ := hvat j _ hrv
      rcases ret1_own hr with ⟨d, e1, rfl, e2⟩ | ⟨id, off, len, ty, sz, rows, e1, e2, e3, e4, e5⟩
      · unfold outT; rw [hres]
        rw [e1] at hav
        cases hs : out.sep with
        | true => exact Rep.gr' hav (e2 hs)
        | false =>
          have := Rep.keep (hkeep hs) hav
          rw [hs] at this
          exact this
      · rw [e1] at hav
        have hav0 : AvRep0 w (Bl A β σ.m) β σ.m (.own id off len) (vs.getD j Go.undef) := hav
        rcases e5 with rfl | rfl
        · -- read as plain data
          unfold outT; rw [hres]
          have hnot : ∀ l, β id = some l → ¬ Bl (sepA W A locs out.sep) β' (outM ins out) l.b := fun l hl hB => by
            rcases hBout l.b hB with h1 | ⟨c, o, oid, oo, l2, _, _, g1, g2, g3, g4, g5⟩
            · exact hfree id _ l e2 rfl hl h1
            · have := h.inj id oid _ oo l l2 e2 rfl hl g1 g2 g3 g4.symm
              subst this
              rcases g5 with ⟨k, g5⟩ | ⟨j', rv', off', len', g5, g6, ty', sz', rows', g7⟩
              · exact e3 (List.mem_of_getElem? g5)
              · have hjj := ownIds_inj hnd (i := j) (j := j') (id := id) (off := off) (len := len) (off' := off') (len' := len') (by rw [List.getElem?_map, hrv, Option.map_some, e1]) (by simp [g5, g6])
                subst hjj
                rw [hres] at g7; cases g7
          show Rep w _ _ _
          cases hs : out.sep with
          | false =>
            refine own_view h e2 hav0 (fun b hb hB => ?_) (fun l hl => by have := hnot l hl; rw [hs] at this; exact this)
            have := (hkeep hs).out b hb hB
            rw [hs] at this; exact this
          | true =>
            have hv := own_view h e2 hav0 (B' := fun b => Bl A β σ.m b ∧ ∀ l, β id = some l → l.b ≠ b) (fun b _ hB hB' => hB hB'.1) (fun l hl hB' => hB'.2 l hl rfl)
            refine rep_list_gr hv (e4 hs) fun ad n c hve hn hB' => ?_
            simp only [AvRep0, e2] at hav0
            obtain ⟨hle, hav0⟩ := hav0
            rcases hav0 with ⟨_, hve'⟩ | ⟨l, ad', hβ, hve', hot, had⟩
            · rw [hve] at hve'; cases hve'
            · rw [hve] at hve'
              injection hve' with q1 q2 q3
              injection q1 with q1
              subst q1 q2
              have hlt2 : off < l.tot := by
                obtain ⟨_, _, hob⟩ := h.ob id _ e2
                rcases hob with ⟨hb, _⟩ | ⟨l', cs, hb, _, _, hb2, _⟩
                · rw [hβ] at hb; cases hb
                · rw [hβ] at hb; injection hb with hb; subst hb; omega
              have := had hlt2
              subst this
              rw [← hs] at hB'
              exact hnot l hβ hB'
        · -- handed on as an array
          unfold outT; rw [hres]
          have hmm : outM ins out (1000 + j) = some (.arr ty sz ((rows.drop off).take len)) := by
            unfold outM
            rw [if_neg (by omega), show 1000 + j - 1000 = j from by omega, hres]
          have hb' : β' (1000 + j) = (match β id with | some l => some ⟨l.b, l.base + off * sz, l.tot - off⟩ | none => none) := by
            simp only [β']
            rw [if_neg (by omega), show 1000 + j - 1000 = j from by omega]
            simp only [List.getElem?_map, hrv, Option.map_some, e1, e2]
            cases β id <;> rfl
          simp only [AvRep, AvRep0, hmm, hb']
          simp only [AvRep0, e2] at hav0
          obtain ⟨hle, hav0⟩ := hav0
          refine ⟨by omega, ?_⟩
          rcases hav0 with ⟨hβ, hve⟩ | ⟨l, ad, hβ, hve, hot, had⟩
          · left
            rw [hβ]
            exact ⟨rfl, hve⟩
          · right
            rw [hβ]
            refine ⟨_, ad, rfl, ?_, Nat.zero_le _, fun hlt2 => ?_⟩
            · rw [hve]
              have : ((rows.drop off).take len).length = len := by rw [List.length_take, List.length_drop]; omega
              rw [this]; rfl
            · rw [had (by simp at hlt2; omega)]
              simp
  · intro c o hc
    have hc' : outM ins out c = some o := hc
    rcases hobj c o hc' with ⟨k, id, e1, e2, e3, e4, e5, _⟩ | ⟨j, rv, id, off, len, ty, sz, rows, rfl, e1, e2, e3, e4, rfl, e5, e6, e7⟩
    · have hob := h.ob id o e3
      show ObRep w (Bl (sepA W A locs out.sep) β' (outM ins out)) β' (outM ins out) c o
      cases o with
      | gone => trivial
      | arr ty sz rows =>
        obtain ⟨q1, q2, q3⟩ := hob
        refine ⟨q1, q2, ?_⟩
        rcases q3 with ⟨q3, q4⟩ | ⟨l, cs, q3, q4, q5, q6, q7, q8⟩
        · exact .inl ⟨e4.trans q3, q4⟩
        · refine .inr ⟨l, cs, e4.trans q3, q4, q5, q6, q7, fun j d hj => hrep _ d (q8 j d hj) fun hs => ?_⟩
          have hg := e5 hs
          obtain ⟨r, hr1, hr2⟩ := List.mem_flatten.1 (List.mem_of_getElem? hj)
          exact (List.all_eq_true.1 ((List.all_eq_true.1 hg) r hr1)) d hr2
      | box ty cells =>
        obtain ⟨l, cs, q1, q2, q3, q4⟩ := hob
        refine ⟨l, cs, e4.trans q1, q2, q3, fun j av hj => ?_⟩
        have hcv := q4 j av hj
        rcases hmo c _ hc' with ⟨ds, hds⟩ 
        have hds' : cells = ds.map .imm := hds _ _ rfl
        subst hds'
        simp only [List.getElem?_map, Option.map_eq_some_iff] at hj
        obtain ⟨d, hd, rfl⟩ := hj
        refine hrep _ d hcv fun hs => ?_
        have hg := e5 hs
        simp only [O.gr, List.all_map, List.all_eq_true] at hg
        exact hg d (List.mem_of_getElem? hd)
    · show ObRep w (Bl (sepA W A locs out.sep) β' (outM ins out)) β' (outM ins out) (1000 + j) _
      have hob := h.ob id _ e3
      obtain ⟨q1, q2, q3⟩ := hob
      refine ⟨fun r hr => q1 r (List.mem_of_mem_drop (List.mem_of_mem_take hr)), q2, ?_⟩
      rcases q3 with ⟨q3, q4⟩ | ⟨l, cs, q3, q4, q5, q6, q7, q8⟩
      · left
        subst q4
        exact ⟨by rw [e7, q3], by simp⟩
      · right
        obtain ⟨_, hav⟩ := hvat j _ e1
        rw [e2] at hav
        have hav0 : AvRep0 w (Bl A β σ.m) β σ.m (.own id off len) (vs.getD j Go.undef) := hav
        simp only [AvRep0, e3] at hav0
        obtain ⟨hle, _⟩ := hav0
        refine ⟨⟨l.b, l.base + off * sz, l.tot - off⟩, cs, by rw [e7, q3], q4, ?_, ?_, ?_, ?_⟩
        · show cs.size = l.base + off * sz + (l.tot - off) * sz
          rw [q5, Nat.add_assoc, ← Nat.add_mul]
          congr 2
          omega
        · show ((rows.drop off).take len).length ≤ l.tot - off
          rw [List.length_take, List.length_drop]; omega
        · show l.tot - off ≤ maxLen
          omega
        · intro i d hi
          show Rep w _ (cs.getD (l.base + off * sz + i) Go.undef) d
          have hfl : rows.flatten[off * sz + i]? = some d := by
            rw [flat_take (sz := sz) _ (fun r hr => q1 r (List.mem_of_mem_drop hr)), flat_drop rows q1] at hi
            rw [List.getElem?_take] at hi
            split at hi
            · rwa [List.getElem?_drop] at hi
            · cases hi
          have := q8 _ d hfl
          rw [← Nat.add_assoc] at this
          refine hrep _ d this fun hs => ?_
          obtain ⟨r, hr1, hr2⟩ := List.mem_flatten.1 (List.mem_of_getElem? hi)
          exact (List.all_eq_true.1 (e6 hs r hr1)) d hr2
  · intro c o l hc hl hb
    have hc' : outM ins out c = some o := hc
    rcases hobj c o hc' with ⟨k, id, e1, e2, e3, e4, e5, _⟩ | ⟨j, rv, id, off, len, ty, sz, rows, rfl, e1, e2, e3, e4, rfl, e5, e6, e7⟩
    · rw [e4] at hb
      obtain ⟨n1, n2, n3⟩ := h.new id o l e3 hl hb
      exact ⟨n1, hfree id o l e3 hl hb, n3⟩
    · rw [e7] at hb
      cases hβ : β id with
      | none => rw [hβ] at hb; cases hb
      | some l0 =>
        rw [hβ] at hb; injection hb with hb; subst hb
        obtain ⟨n1, n2, n3⟩ := h.new id _ l0 e3 rfl hβ
        exact ⟨n1, hfree id _ l0 e3 rfl hβ, n3⟩
  · rintro b (hA | ⟨_, hb, _⟩)
    · exact h.lt b hA
    · exact Nat.lt_of_lt_of_le hb h.fr.size
  · refine ⟨hl2.trans h.pm.1, fun k i hk => ?_⟩
    have hk1 : (mutIdx ins)[k]? = some i := hk
    have hlt : k < σ.pm.length := by rw [← hl2]; exact (List.getElem?_eq_some_iff.1 hk1).1
    have hk' := List.getElem?_eq_getElem hlt
    obtain ⟨p1, _⟩ := h.pm.2 k _ hk'
    obtain ⟨q1, q2⟩ := hβm k i _ hk1 hk'
    refine ⟨by rw [p1, q2], ?_⟩
    show ∃ o, outM ins out i = some o
    obtain ⟨inn, r1, r2⟩ := mem_mutIdx.1 (List.mem_of_getElem? hk1)
    unfold outM
    rw [if_pos q1, r1]
    cases inn with
    | imm d => cases r2
    | arr ty sz rows => exact ⟨_, rfl⟩
    | box ty cells => exact ⟨_, rfl⟩


end
end Go.Am
