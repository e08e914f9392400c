/- The abstract machine, part 15: the caller behind a call. -/
import Derived.Test.YtjebblagiiajaaaAm14
namespace Go.Am
open Go

def tripMut : Nat → List (Option Nat) → List O → List (Nat × Nat × O)
  | i, some x :: gs, os => (x, i, os.headD .gone) :: tripMut (i + 1) gs os.tail
  | i, none :: gs, os => tripMut (i + 1) gs os.tail
  | _, [], _ => []

def tripRes (ep d : Nat) : Nat → List R0 → List (Nat × Nat × O)
  | _, [] => []
  | j, .imm _ :: r => tripRes ep d (j + 1) r
  | j, .arr ty sz rows :: r => (rid ep d j, 1000 + j, .arr ty sz rows) :: tripRes ep d (j + 1) r

theorem upMut_trip : ∀ (gs : List (Option Nat)) (os : List O) (i : Nat), upMut gs os = (tripMut i gs os).map fun t => (t.1, t.2.2)
  | [], _, _ => rfl
  | some x :: gs, os, i => by simp [upMut, tripMut, upMut_trip gs os.tail (i + 1)]
  | none :: gs, os, i => by simp [upMut, tripMut, upMut_trip gs os.tail (i + 1)]

theorem resUp_trip (ep d : Nat) : ∀ (res : List R0) (j : Nat), resUp ep d j res = (tripRes ep d j res).map fun t => (t.1, t.2.2)
  | [], _ => rfl
  | .imm _ :: r, j => by simp [resUp, tripRes, resUp_trip ep d r (j + 1)]
  | .arr _ _ _ :: r, j => by simp [resUp, tripRes, resUp_trip ep d r (j + 1)]

theorem mem_tripMut : ∀ {gs : List (Option Nat)} {os : List O} {i : Nat} {t : Nat × Nat × O}, t ∈ tripMut i gs os → ∃ k : Nat, gs[k]? = some (some t.1) ∧ t.2.1 = i + k ∧ t.2.2 = os.getD k .gone
  | [], os, i, t, h => by simp [tripMut] at h
  | some x :: gs, os, i, t, h => by
    simp only [tripMut, List.mem_cons] at h
    rcases h with rfl | h
    · exact ⟨0, rfl, rfl, by cases os <;> rfl⟩
    · obtain ⟨k, h1, h2, h3⟩ := mem_tripMut h
      exact ⟨k + 1, by simpa using h1, by omega, by rw [h3]; cases os <;> simp⟩
  | none :: gs, os, i, t, h => by
    simp only [tripMut] at h
    obtain ⟨k, h1, h2, h3⟩ := mem_tripMut h
    exact ⟨k + 1, by simpa using h1, by omega, by rw [h3]; cases os <;> simp⟩

theorem tripMut_mem : ∀ {gs : List (Option Nat)} {os : List O} {i k x : Nat}, gs[k]? = some (some x) → (x, i + k, os.getD k .gone) ∈ tripMut i gs os
  | [], os, i, k, x, h => by simp at h
  | some y :: gs, os, i, 0, x, h => by
    simp at h; subst h
    simp only [tripMut, List.mem_cons]
    left
    cases os <;> rfl
  | some y :: gs, os, i, k + 1, x, h => by
    simp only [tripMut, List.mem_cons]
    right
    have := tripMut_mem (os := os.tail) (i := i + 1) (k := k) (x := x) (gs := gs) (by simpa using h)
    have e : i + 1 + k = i + (k + 1) := by omega
    rw [e] at this
    cases os <;> simpa using this
  | none :: gs, os, i, 0, x, h => by simp at h
  | none :: gs, os, i, k + 1, x, h => by
    simp only [tripMut]
    have := tripMut_mem (os := os.tail) (i := i + 1) (k := k) (x := x) (gs := gs) (by simpa using h)
    have e : i + 1 + k = i + (k + 1) := by omega
    rw [e] at this
    cases os <;> simpa using this

theorem mem_tripRes {ep d : Nat} : ∀ {res : List R0} {j : Nat} {t : Nat × Nat × O}, t ∈ tripRes ep d j res → ∃ (k : Nat) (ty sz : Nat) (rows : List (List D)), res[k]? = some (.arr ty sz rows) ∧ t = (rid ep d (j + k), 1000 + (j + k), .arr ty sz rows)
  | [], j, t, h => by simp [tripRes] at h
  | .imm _ :: r, j, t, h => by
    simp only [tripRes] at h
    obtain ⟨k, ty, sz, rows, h1, h2⟩ := mem_tripRes h
    refine ⟨k + 1, ty, sz, rows, by simpa using h1, ?_⟩
    have e : j + 1 + k = j + (k + 1) := by omega
    rw [h2, e]
  | .arr ty sz rows :: r, j, t, h => by
    simp only [tripRes, List.mem_cons] at h
    rcases h with rfl | h
    · exact ⟨0, ty, sz, rows, rfl, rfl⟩
    · obtain ⟨k, ty, sz, rows, h1, h2⟩ := mem_tripRes h
      refine ⟨k + 1, ty, sz, rows, by simpa using h1, ?_⟩
      have e : j + 1 + k = j + (k + 1) := by omega
      rw [h2, e]

theorem tripRes_mem {ep d : Nat} : ∀ {res : List R0} {j k : Nat} {ty sz : Nat} {rows : List (List D)}, res[k]? = some (.arr ty sz rows) → (rid ep d (j + k), 1000 + (j + k), O.arr ty sz rows) ∈ tripRes ep d j res
  | [], j, k, ty, sz, rows, h => by simp at h
  | .imm _ :: r, j, 0, ty, sz, rows, h => by simp at h
  | .imm _ :: r, j, k + 1, ty, sz, rows, h => by
    simp only [tripRes]
    have := tripRes_mem (ep := ep) (d := d) (j := j + 1) (k := k) (res := r) (by simpa using h)
    have e : j + 1 + k = j + (k + 1) := by omega
    rwa [e] at this
  | .arr _ _ _ :: r, j, 0, ty, sz, rows, h => by
    simp at h
    obtain ⟨rfl, rfl, rfl⟩ := h
    simp [tripRes]
  | .arr _ _ _ :: r, j, k + 1, ty, sz, rows, h => by
    simp only [tripRes, List.mem_cons]
    right
    have := tripRes_mem (ep := ep) (d := d) (j := j + 1) (k := k) (res := r) (by simpa using h)
    have e : j + 1 + k = j + (k + 1) := by omega
    rwa [e] at this

theorem upm_mem (id : Nat) : ∀ (l : List (Nat × O)) (m : Nat → Option O), (∀ o1 o2, (id, o1) ∈ l → (id, o2) ∈ l → o1 = o2) → ∀ o, (id, o) ∈ l → upm m l id = some o
  | [], m, _, o, h => by cases h
  | (k, o') :: l, m, hu, o, h => by
    show upm (upd m k (some o')) l id = some o
    by_cases hl : ∃ o2, (id, o2) ∈ l
    · obtain ⟨o2, h2⟩ := hl
      have := upm_mem id l (upd m k (some o')) (fun a b ha hb => hu a b (List.mem_cons_of_mem _ ha) (List.mem_cons_of_mem _ hb)) o2 h2
      rw [this, hu o2 o (List.mem_cons_of_mem _ h2) h]
    · rcases List.mem_cons.1 h with h | h
      · injection h with h1 h2
        subst h1 h2
        have : ∀ (l : List (Nat × O)) (m : Nat → Option O), (¬ ∃ o2, (id, o2) ∈ l) → upm m l id = m id := by
          intro l
          induction l with
          | nil => intro m _; rfl
          | cons x l ih =>
            intro m hx
            obtain ⟨k, o3⟩ := x
            show upm (upd m k (some o3)) l id = m id
            rw [ih _ (fun ⟨o4, h4⟩ => hx ⟨o4, List.mem_cons_of_mem _ h4⟩), upd_other]
            rintro rfl
            exact hx ⟨o3, by simp⟩
        rw [this l _ hl, upd_same]
      · exact absurd ⟨o, h⟩ hl

theorem upm_nmem (id : Nat) : ∀ (l : List (Nat × O)) (m : Nat → Option O), (¬ ∃ o2, (id, o2) ∈ l) → upm m l id = m id
  | [], _, _ => rfl
  | (k, o3) :: l, m, hx => by
    show upm (upd m k (some o3)) l id = m id
    rw [upm_nmem id l _ (fun ⟨o4, h4⟩ => hx ⟨o4, List.mem_cons_of_mem _ h4⟩), upd_other]
    rintro rfl
    exact hx ⟨o3, by simp⟩

theorem freshAll_mem {m : Nat → Option O} : ∀ {l : List (Nat × O)}, freshAll m l → ∀ x ∈ l, m x.1 = none
  | [], _, x, hx => by cases hx
  | (i, o) :: l, h, x, hx => by
    rcases List.mem_cons.1 hx with rfl | hx
    · exact h.1
    · exact freshAll_mem h.2 x hx

theorem rid_inj {ep d j k : Nat} (h : rid ep d j = rid ep d k) : j = k := by unfold rid at h; omega

theorem resAV_at {ep d : Nat} : ∀ (res : List R0) (j : Nat), (resAV ep d j res).length = res.length ∧ ∀ (k : Nat) (av : AV), (resAV ep d j res)[k]? = some av →
    (∃ dd, res[k]? = some (.imm dd) ∧ av = .imm dd) ∨ ∃ (ty sz : Nat) (rows : List (List D)), res[k]? = some (.arr ty sz rows) ∧ av = .own (rid ep d (j + k)) 0 rows.length
  | [], j => ⟨rfl, fun k av h => by simp [resAV] at h⟩
  | .imm dd :: r, j => by
    obtain ⟨h1, h2⟩ := resAV_at (ep := ep) (d := d) r (j + 1)
    refine ⟨by simp [resAV, h1], fun k av h => ?_⟩
    cases k with
    | zero => simp [resAV] at h; subst h; exact .inl ⟨dd, rfl, rfl⟩
    | succ k =>
      have := h2 k av (by simpa [resAV] using h)
      have e : j + 1 + k = j + (k + 1) := by omega
      rw [e] at this
      simpa using this
  | .arr ty sz rows :: r, j => by
    obtain ⟨h1, h2⟩ := resAV_at (ep := ep) (d := d) r (j + 1)
    refine ⟨by simp [resAV, h1], fun k av h => ?_⟩
    cases k with
    | zero => simp [resAV] at h; subst h; exact .inr ⟨ty, sz, rows, rfl, rfl⟩
    | succ k =>
      have := h2 k av (by simpa [resAV] using h)
      have e : j + 1 + k = j + (k + 1) := by omega
      rw [e] at this
      simpa using this

theorem packAV_rep {w : World} {B : Nat → Prop} {β : Nat → Option Loc} {m : Nat → Option O} {l : List AV} {vals : Array Value} (hs : vals.size = l.length)
    (hr : ∀ (k : Nat) (av : AV), l[k]? = some av → AvRep0 w B β m av (vals.getD k Go.undef)) : AvRep w B β m (packAV l) (packR vals) := by
  unfold packAV packR
  match l, hs, hr with
  | [], hs, _ =>
    have : vals = #[] := Array.eq_empty_of_size_eq_zero (by simpa using hs)
    subst this
    rfl
  | [x], hs, hr =>
    rw [if_pos (by simpa using hs)]
    have := hr 0 x rfl
    show AvRep _ _ _ _ x _
    cases x with
    | tup l => exact this.elim
    | _ => exact this
  | x :: y :: l, hs, hr =>
    rw [if_neg (by simp at hs; omega)]
    exact ⟨vals, rfl, hs, hr⟩

section
variable {P : Program} {w0 w : World} {A : Nat → Prop} {locs : List (Option Loc)} {β : Nat → Option Loc} {σ : S} {a : Act}

theorem call_back (h : Sim w0 A locs β σ a w) {md : List Nat} {args : List AV} {ins : List In} {vs fz : List Nat} {gs : List (Option Nat)} (hin : argsIn σ.m md args = some (ins, vs, fz, gs))
    (hnd : (fz ++ gs.filterMap id).Nodup) (hv : ∀ v ∈ vs, v ∉ fz ∧ some v ∉ gs) {out : Out} (hsep : out.sep = true ∨ vs = []) {ep d : Nat} (hfr : freshAll σ.m (resUp ep d 0 out.res)) (hmut : MutOk ins out) (hlen : ins.length ≤ 1000)
    {w' : World} {vals : Array Value} {β' : Nat → Option Loc}
    (hc : Sim w (sepA w (calleeA A β (upm σ.m (kills fz)) (vs ++ gs.filterMap id)) ((mutIdx ins).map (calleeβ β gs)) out.sep) ((mutIdx ins).map (calleeβ β gs)) β' (outS ins out) ⟨vals, []⟩ w') :
    ∃ β'', Sim w0 A locs β'' { σ with m := upm σ.m (callEff ep d fz gs out).up } a w' ∧
      AvRep w' (Bl A β'' (upm σ.m (callEff ep d fz gs out).up)) β'' (upm σ.m (callEff ep d fz gs out).up) (callEff ep d fz gs out).v (packR vals) := by
  obtain ⟨q1, q2, q3, q4, q5⟩ := argsIn_at args md ins vs fz gs hin
  have hlf : ∀ x ∈ fz, σ.m x ≠ none := fun x hx => by
    obtain ⟨av, k, inn, v, f, g, _, r2, r3⟩ := q5 x hx
    obtain ⟨o, ho, _⟩ := (argIn_live r2).2.1 x r3
    rw [ho]; simp
  have h1 := kills_sim h fz hlf
  have hgi : ∀ (i x : Nat), gs[i]? = some (some x) → ∃ (inn : In) (o ox : O), ins[i]? = some inn ∧ inM ins i = some o ∧ σ.m x = some ox ∧ ox.live = true ∧ x ∉ fz ∧ (∀ o', o.sub o' → ox.sub o') := fun i x hi => by
    have hlt : i < args.length := by rw [← q2]; exact (List.getElem?_eq_some_iff.1 hi).1
    obtain ⟨k, inn, v, f, g, r1, r2, r3, _⟩ := q3 i _ (List.getElem?_eq_getElem hlt)
    rw [hi] at r2; injection r2 with r2; subst r2
    have hxf : x ∉ fz := fun hx => (List.nodup_append.1 hnd).2.2 x hx x (by rw [List.mem_filterMap]; exact ⟨some x, List.mem_of_getElem? hi, rfl⟩) rfl
    rcases argIn_inv r3 with ⟨d, _, _, _, _, e⟩ | ⟨id, off, len, ty, sz, rows, _, hm, _, e, _⟩ | ⟨id, len, ty', sz', rows', _, hm, _, rfl, _, _, e⟩ | ⟨id, off, ds, _, hm, _, _, _, e⟩ | ⟨id, ty', cells', ds, _, hm, hi', rfl, _, _, e⟩ | ⟨fn, ids, ds, _, hm, _, _, _, e⟩ <;> cases e
    · exact ⟨_, _, _, r1, by unfold inM; rw [r1], hm, rfl, hxf, fun o' ho => ho⟩
    · exact ⟨_, .box ty' (ds.map .imm), _, r1, by unfold inM; rw [r1], hm, rfl, hxf, fun o' ho => ho⟩
  have hmemg : ∀ (i x : Nat), gs[i]? = some (some x) → i ∈ mutIdx ins := fun i x hi => by
    obtain ⟨inn, o, ox, r1, r2, _⟩ := hgi i x hi
    refine mem_mutIdx.2 ⟨inn, r1, ?_⟩
    unfold inM at r2
    rw [r1] at r2
    cases inn <;> first | rfl | (simp at r2)
  have hinj : ∀ (i j x : Nat), gs[i]? = some (some x) → gs[j]? = some (some x) → i = j := filterMap_inj gs (List.nodup_append.1 hnd).2.1
  have hβc : ∀ (i x : Nat), gs[i]? = some (some x) → calleeβ β gs i = β x := fun i x hi => by unfold calleeβ; rw [hi]
  have hβ' : ∀ (i x : Nat), gs[i]? = some (some x) → β x = β' i := fun i x hi => by
    obtain ⟨k, hk⟩ := List.getElem?_of_mem (hmemg i x hi)
    obtain ⟨e1, _⟩ := hc.pm.2 k i hk
    rw [List.getElem?_map, hk] at e1
    simp only [Option.map_some, Option.some.injEq] at e1
    rw [← hβc i x hi, e1]
  have hlocs : ∀ l, some l ∈ (mutIdx ins).map (calleeβ β gs) → ∃ (i x : Nat), gs[i]? = some (some x) ∧ β x = some l := fun l hl => by
    rw [List.mem_map] at hl
    obtain ⟨i, _, e⟩ := hl
    unfold calleeβ at e
    split at e
    · rename_i x hx; exact ⟨i, x, hx, e⟩
    · cases e
  -- the list of what is taken over
  let trip := tripMut 0 gs out.muts ++ tripRes ep d 0 out.res
  have hup : upMut gs out.muts ++ resUp ep d 0 out.res = trip.map fun t => (t.1, t.2.2) := by
    simp only [trip, List.map_append, ← upMut_trip, ← resUp_trip]
  have hres_none : ∀ t ∈ tripRes ep d 0 out.res, σ.m t.1 = none := fun t ht => by
    refine freshAll_mem hfr (t.1, t.2.2) ?_
    rw [resUp_trip]
    exact List.mem_map.2 ⟨t, ht, rfl⟩
  have huniq : ∀ t ∈ trip, ∀ t' ∈ trip, t.1 = t'.1 → t = t' := by
    intro t ht t' ht' e
    rcases List.mem_append.1 ht with h2 | h2 <;> rcases List.mem_append.1 ht' with h3 | h3
    · obtain ⟨k, e1, e2, e3⟩ := mem_tripMut h2
      obtain ⟨k', f1, f2, f3⟩ := mem_tripMut h3
      rw [e] at e1
      have := hinj k k' _ e1 f1
      subst this
      exact Prod.ext e (Prod.ext (by omega) (by rw [e3, f3]))
    · exfalso
      obtain ⟨k, e1, _⟩ := mem_tripMut h2
      obtain ⟨_, _, ox, _, _, r3, _⟩ := hgi k _ e1
      have := hres_none t' h3
      rw [← e, r3] at this; cases this
    · exfalso
      obtain ⟨k, e1, _⟩ := mem_tripMut h3
      obtain ⟨_, _, ox, _, _, r3, _⟩ := hgi k _ e1
      have := hres_none t h2
      rw [e, r3] at this; cases this
    · obtain ⟨k, ty, sz, rows, e1, rfl⟩ := mem_tripRes h2
      obtain ⟨k', ty', sz', rows', f1, rfl⟩ := mem_tripRes h3
      have := rid_inj e
      have : k = k' := by omega
      subst this
      rw [e1] at f1
      injection f1 with f1
      injection f1 with g1 g2 g3
      subst g1 g2 g3
      rfl
  have hcal : ∀ t ∈ trip, outM ins out t.2.1 = some t.2.2 := by
    intro t ht
    rcases List.mem_append.1 ht with h2 | h2
    · obtain ⟨k, e1, e2, e3⟩ := mem_tripMut h2
      obtain ⟨inn, o, ox, r1, r2, _⟩ := hgi k _ e1
      have hk : k < 1000 := by have := (List.getElem?_eq_some_iff.1 r1).1; omega
      rw [e2, e3]
      unfold outM
      rw [Nat.zero_add, if_pos hk]
      unfold inM at r2
      rw [r1] at r2 ⊢
      cases inn <;> simp at r2 ⊢
    · obtain ⟨k, ty, sz, rows, e1, rfl⟩ := mem_tripRes h2
      unfold outM
      rw [if_neg (by simp), Nat.zero_add]
      simp [e1]
  have hcinj : ∀ t ∈ trip, ∀ t' ∈ trip, t.2.1 = t'.2.1 → t.1 = t'.1 := by
    intro t ht t' ht' e
    rcases List.mem_append.1 ht with h2 | h2 <;> rcases List.mem_append.1 ht' with h3 | h3
    · obtain ⟨k, e1, e2, e3⟩ := mem_tripMut h2
      obtain ⟨k', f1, f2, f3⟩ := mem_tripMut h3
      have : k = k' := by omega
      subst this
      rw [e1] at f1
      injection f1 with f1; injection f1
    · exfalso
      obtain ⟨k, e1, e2, _⟩ := mem_tripMut h2
      obtain ⟨inn, o, ox, r1, _⟩ := hgi k _ e1
      have hk : k < 1000 := by have := (List.getElem?_eq_some_iff.1 r1).1; omega
      obtain ⟨k', ty', sz', rows', f1, rfl⟩ := mem_tripRes h3
      simp only at e
      omega
    · exfalso
      obtain ⟨k, e1, e2, _⟩ := mem_tripMut h3
      obtain ⟨inn, o, ox, r1, _⟩ := hgi k _ e1
      have hk : k < 1000 := by have := (List.getElem?_eq_some_iff.1 r1).1; omega
      obtain ⟨k', ty', sz', rows', f1, rfl⟩ := mem_tripRes h2
      simp only at e
      omega
    · obtain ⟨k, ty, sz, rows, e1, rfl⟩ := mem_tripRes h2
      obtain ⟨k', ty', sz', rows', f1, rfl⟩ := mem_tripRes h3
      simp only at e
      have : k = k' := by omega
      rw [this]
  let src : Nat → Option Nat := fun id => (trip.find? fun t => t.1 == id).map (·.2.1)
  have hsrc1 : ∀ id c, src id = some c → ∃ t ∈ trip, t.1 = id ∧ t.2.1 = c := fun id c hs => by
    simp only [src, Option.map_eq_some_iff] at hs
    obtain ⟨t, ht, rfl⟩ := hs
    exact ⟨t, List.mem_of_find?_eq_some ht, by simpa using List.find?_some ht, rfl⟩
  have hsrc2 : ∀ t ∈ trip, src t.1 = some t.2.1 := fun t ht => by
    simp only [src]
    cases hf : trip.find? fun t' => t'.1 == t.1 with
    | none => exact absurd (List.find?_eq_none.1 hf t ht) (by simp)
    | some t' =>
      have := huniq t' (List.mem_of_find?_eq_some hf) t ht (by simpa using List.find?_some hf)
      subst this; rfl
  have hmt : ∀ t ∈ trip, upm (upm σ.m (kills fz)) (trip.map fun t => (t.1, t.2.2)) t.1 = some t.2.2 := fun t ht => by
    refine upm_mem _ _ _ (fun o1 o2 h2 h3 => ?_) _ (List.mem_map.2 ⟨t, ht, rfl⟩)
    obtain ⟨t1, g1, g2⟩ := List.mem_map.1 h2
    obtain ⟨t2, f1, f2⟩ := List.mem_map.1 h3
    injection g2 with g2 g3
    injection f2 with f2 f3
    have := huniq t1 g1 t2 f1 (g2.trans f2.symm)
    subst this
    rw [← g3, ← f3]
  have hmn : ∀ id, src id = none → upm (upm σ.m (kills fz)) (trip.map fun t => (t.1, t.2.2)) id = upm σ.m (kills fz) id := fun id hs => by
    refine upm_nmem _ _ _ fun ⟨o, ho⟩ => ?_
    obtain ⟨t, g1, g2⟩ := List.mem_map.1 ho
    injection g2 with g2 g3
    have := hsrc2 t g1
    rw [g2, hs] at this; cases this
  have hmlive : ∀ (i x : Nat), gs[i]? = some (some x) → ∃ ox, upm σ.m (kills fz) x = some ox ∧ ox.live = true := fun i x hi => by
    obtain ⟨_, _, ox, _, _, r3, r4, r5, _⟩ := hgi i x hi
    exact ⟨ox, by rw [upm_kills_other _ _ _ r5]; exact r3, r4⟩
  have hglue := Sim.glue h1 hc (upm (upm σ.m (kills fz)) (trip.map fun t => (t.1, t.2.2))) (fun id => match src id with | some c => β' c | none => β id) src
    (fun id c hs => by
      obtain ⟨t, g1, g2, g3⟩ := hsrc1 id c hs
      subst g2 g3
      exact ⟨by rw [hmt t g1]; exact (hcal t g1).symm, by rw [hs], _, hcal t g1⟩)
    (fun id hs => ⟨hmn id hs, by rw [hs]⟩)
    (fun id id' c hs hs' => by
      obtain ⟨t, g1, g2, g3⟩ := hsrc1 id c hs
      obtain ⟨t', f1, f2, f3⟩ := hsrc1 id' c hs'
      rw [← g2, ← f2]
      exact hcinj t g1 t' f1 (g3.trans f3.symm))
    (fun id c hs => by
      obtain ⟨t, g1, g2, g3⟩ := hsrc1 id c hs
      subst g2 g3
      rcases List.mem_append.1 g1 with h2 | h2
      · obtain ⟨k, e1, e2, e3⟩ := mem_tripMut h2
        obtain ⟨inn, o, ox, r1, r2, r3, r4, r5, r6⟩ := hgi k _ e1
        refine .inr ⟨ox, t.2.2, by show upm σ.m (kills fz) t.1 = _; rw [upm_kills_other _ _ _ r5]; exact r3, r4, ?_, hcal t g1, ?_, fun l hl => ?_⟩
        · rw [e2, Nat.zero_add]; exact hβ' k _ e1
        · rw [e3]; exact r6 _ (hmut k o r2).1
        · rw [List.mem_map]
          exact ⟨k, hmemg k _ e1, by rw [hβc k _ e1]; exact hl⟩
      · refine .inl ?_
        show upm σ.m (kills fz) t.1 = none
        rw [upm_kills_none _ _ _ hlf (hres_none t h2)])
    (fun l hl => by
      obtain ⟨i, x, e1, e2⟩ := hlocs l hl
      obtain ⟨ox, g1, g2⟩ := hmlive i x e1
      have hmem : (x, 0 + i, out.muts.getD i .gone) ∈ trip := List.mem_append_left _ (tripMut_mem e1)
      exact ⟨x, _, ox, hsrc2 _ hmem, e2, g1, g2⟩)
    (fun c o ho => by
      have ho' : outM ins out c = some o := ho
      unfold outM at ho'
      split at ho'
      · split at ho'
        · rename_i hi
          injection ho' with ho'
          subst ho'
          exact (hmut c _ (by unfold inM; rw [hi])).2
        · rename_i hi
          injection ho' with ho'
          subst ho'
          exact (hmut c _ (by unfold inM; rw [hi])).2
        · cases ho'
      · split at ho'
        · injection ho' with ho'
          subst ho'
          exact .inl ⟨_, _, _, rfl⟩
        · cases ho')
    (fun b hb => by
      rcases hb with hA | ⟨id, o, l, g1, g2, g3, g4⟩
      · refine .inl (.inl ⟨.inl hA, fun x hx l hl e => ?_⟩)
        have hxl : ∃ o, σ.m x = some o ∧ o.live = true := by
          rcases List.mem_append.1 hx with hx | hx
          · obtain ⟨av, k, inn, v, f, g, _, r2, r3⟩ := q4 x hx
            exact (argIn_live r2).1 x r3
          · rw [List.mem_filterMap] at hx
            obtain ⟨y, hy, e⟩ := hx
            simp only [id_eq] at e
            subst e
            obtain ⟨i, hi⟩ := List.getElem?_of_mem hy
            obtain ⟨_, _, ox, _, _, r3, r4, _⟩ := hgi i x hi
            exact ⟨ox, r3, r4⟩
        obtain ⟨o, e1, e2⟩ := hxl
        exact (h.new x o l e1 e2 hl).2.1 (e ▸ hA)
      · cases hs : src id with
        | some c =>
          obtain ⟨t, f1, f2, f3⟩ := hsrc1 id c hs
          simp only [hs] at g3
          subst f2 f3
          rw [hmt t f1] at g1
          injection g1 with g1
          exact .inr ⟨_, o, l, by rw [← g1]; exact hcal t f1, g2, g3, g4⟩
        | none =>
          simp only [hs] at g3
          rw [hmn id hs] at g1
          have hnf : id ∉ fz := fun hif => by
            have : ∀ (m : Nat → Option O) (ks : List Nat), id ∈ ks → upm m (kills ks) id = some .gone := by
              intro m ks
              induction ks generalizing m with
              | nil => intro hj; cases hj
              | cons k ks ihk =>
                intro hj
                by_cases hjk : id ∈ ks
                · exact ihk _ hjk
                · have : id = k := by simp at hj; exact hj.resolve_right hjk
                  subst this
                  show upm (upd m id (some .gone)) (kills ks) id = _
                  rw [upm_kills_other _ _ _ hjk, upd_same]
            rw [this _ _ hif] at g1
            injection g1 with g1; subst g1; simp [O.live] at g2
          have g1' : σ.m id = some o := by rw [upm_kills_other _ _ _ hnf] at g1; exact g1
          have hng : ∀ i, gs[i]? ≠ some (some id) := fun i hi => by
            have := hsrc2 _ (List.mem_append_left (tripRes ep d 0 out.res) (tripMut_mem (i := 0) (os := out.muts) hi))
            rw [hs] at this; cases this
          by_cases hiv : id ∈ vs
          · have hst : out.sep = true := hsep.resolve_right (fun e => by rw [e] at hiv; cases hiv)
            refine .inl (.inr ⟨hst, ?_, fun l0 hl0 e => ?_⟩)
            · rw [← g4]; exact (h.new id o l g1' g2 g3).1
            · obtain ⟨i, x, e1, e2⟩ := hlocs l0 hl0
              obtain ⟨_, _, ox, _, _, r3, r4, _⟩ := hgi i x e1
              have := h.inj x id ox o l0 l r3 r4 e2 g1' g2 g3 (e.trans g4.symm)
              subst this
              exact hng i e1
          · refine .inl (.inl ⟨.inr ⟨id, o, l, g1, g2, g3, g4⟩, fun x hx l0 hl0 e => ?_⟩)
            have hxl : ∃ o, σ.m x = some o ∧ o.live = true := by
              rcases List.mem_append.1 hx with hx | hx
              · obtain ⟨av, k, inn, v, f, g, _, r2, r3⟩ := q4 x hx
                exact (argIn_live r2).1 x r3
              · rw [List.mem_filterMap] at hx
                obtain ⟨y, hy, e⟩ := hx
                simp only [id_eq] at e
                subst e
                obtain ⟨i, hi⟩ := List.getElem?_of_mem hy
                obtain ⟨_, _, ox, _, _, r3, r4, _⟩ := hgi i x hi
                exact ⟨ox, r3, r4⟩
            obtain ⟨ox, e1, e2⟩ := hxl
            have := h.inj x id ox o l0 l e1 e2 hl0 g1' g2 g3 (e.trans g4.symm)
            subst this
            rcases List.mem_append.1 hx with hx | hx
            · exact hiv hx
            · rw [List.mem_filterMap] at hx
              obtain ⟨y, hy, e⟩ := hx
              simp only [id_eq] at e
              subst e
              obtain ⟨i, hi⟩ := List.getElem?_of_mem hy
              exact hng i hi)
  obtain ⟨hs, hr⟩ := hglue
  have hm'' : upm σ.m (callEff ep d fz gs out).up = upm (upm σ.m (kills fz)) (trip.map fun t => (t.1, t.2.2)) := by
    show upm σ.m (kills fz ++ (upMut gs out.muts ++ resUp ep d 0 out.res)) = _
    rw [upm_append, hup]
  refine ⟨fun id => match src id with | some c => β' c | none => β id, ?_, ?_⟩
  · rw [hm'']; exact hs
  · rw [hm'']
    obtain ⟨l1, l2⟩ := resAV_at (ep := ep) (d := d) out.res 0
    refine packAV_rep (by rw [l1]; exact hc.size) fun k av hk => ?_
    have hslot := hc.slot k
    rcases l2 k av hk with ⟨dd, e1, rfl⟩ | ⟨ty, sz, rows, e1, rfl⟩
    · have : AvRep w' _ β' (outS ins out).m (outT out k) (vals.getD k Go.undef) := hslot
      unfold outT at this
      rw [e1] at this
      exact hr _ _ this
    · have : AvRep w' _ β' (outS ins out).m (outT out k) (vals.getD k Go.undef) := hslot
      unfold outT at this
      rw [e1] at this
      have hmem : (rid ep d (0 + k), 1000 + (0 + k), O.arr ty sz rows) ∈ trip := List.mem_append_right _ (tripRes_mem e1)
      have e2 := hmt _ hmem
      have e3 := hsrc2 _ hmem
      have e4 : outM ins out (1000 + k) = some (.arr ty sz rows) := by have := hcal _ hmem; simpa using this
      have e5 : (outS ins out).m (1000 + k) = some (.arr ty sz rows) := e4
      simp only [AvRep, AvRep0, e5] at this
      simp only [AvRep0]
      simp only [e2, e3]
      simp only [Nat.zero_add] at this ⊢
      exact this

end
end Go.Am
