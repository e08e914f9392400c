/- The abstract machine, part 13: a call stands for the model's call. -/
import Derived.Test.YtjebblagiiajaaaAm12
namespace Go.Am
open Go

theorem imms_eq : ∀ {l : List AV} {ds : List D}, imms l = some ds → l = ds.map .imm
  | [], ds, hi => by simp [imms] at hi; subst hi; rfl
  | .imm d :: r, ds, hi => by
    simp only [imms, Option.map_eq_some_iff] at hi
    obtain ⟨ds', h1, rfl⟩ := hi
    rw [imms_eq h1]; rfl
  | .dead :: _, _, hi => by simp [imms] at hi
  | .undef :: _, _, hi => by simp [imms] at hi
  | .own _ _ _ :: _, _, hi => by simp [imms] at hi
  | .box _ _ :: _, _, hi => by simp [imms] at hi
  | .eptr _ _ _ :: _, _, hi => by simp [imms] at hi
  | .clo _ _ :: _, _, hi => by simp [imms] at hi
  | .tup _ :: _, _, hi => by simp [imms] at hi

theorem argsIn_at {m : Nat → Option O} : ∀ (args : List AV) (md : List Nat) (ins : List In) (vs fz : List Nat) (gs : List (Option Nat)), argsIn m md args = some (ins, vs, fz, gs) →
    ins.length = args.length ∧ gs.length = args.length ∧ (∀ (i : Nat) (av : AV), args[i]? = some av → ∃ (k : Nat) (inn : In) (v f : List Nat) (g : Option Nat), ins[i]? = some inn ∧ gs[i]? = some g ∧ argIn m k av = some (inn, v, f, g) ∧ (∀ x ∈ v, x ∈ vs) ∧ (∀ x ∈ f, x ∈ fz)) ∧
      (∀ x ∈ vs, ∃ av k inn v f g, av ∈ args ∧ argIn m k av = some (inn, v, f, g) ∧ x ∈ v) ∧ (∀ x ∈ fz, ∃ av k inn v f g, av ∈ args ∧ argIn m k av = some (inn, v, f, g) ∧ x ∈ f)
  | [], md, ins, vs, fz, gs, h => by
    simp only [argsIn, Option.some.injEq, Prod.mk.injEq] at h
    obtain ⟨rfl, rfl, rfl, rfl⟩ := h
    exact ⟨rfl, rfl, fun i av hi => by simp at hi, (fun x hx => by cases hx), (fun x hx => by cases hx)⟩
  | av :: r, md, ins, vs, fz, gs, h => by
    simp only [argsIn] at h
    split at h
    · rename_i i v f g is vs' fs gs' h1 h2
      simp only [Option.some.injEq, Prod.mk.injEq] at h
      obtain ⟨rfl, rfl, rfl, rfl⟩ := h
      obtain ⟨q1, q2, q3, q4, q5⟩ := argsIn_at r _ _ _ _ _ h2
      refine ⟨by simp [q1], by simp [q2], fun j av' hj => ?_, fun x hx => ?_, fun x hx => ?_⟩
      · cases j with
        | zero =>
          simp at hj; subst hj
          exact ⟨_, i, v, f, g, rfl, rfl, h1, fun x hx => List.mem_append_left _ hx, fun x hx => List.mem_append_left _ hx⟩
        | succ j =>
          obtain ⟨k, inn, v', f', g', r1, r2, r3, r4, r5⟩ := q3 j av' (by simpa using hj)
          exact ⟨k, inn, v', f', g', by simpa using r1, by simpa using r2, r3, fun x hx => List.mem_append_right _ (r4 x hx), fun x hx => List.mem_append_right _ (r5 x hx)⟩
      · rcases List.mem_append.1 hx with hx | hx
        · exact ⟨av, _, i, v, f, g, by simp, h1, hx⟩
        · obtain ⟨av', k, inn, v', f', g', r1, r2, r3⟩ := q4 x hx
          exact ⟨av', k, inn, v', f', g', by simp [r1], r2, r3⟩
      · rcases List.mem_append.1 hx with hx | hx
        · exact ⟨av, _, i, v, f, g, by simp, h1, hx⟩
        · obtain ⟨av', k, inn, v', f', g', r1, r2, r3⟩ := q5 x hx
          exact ⟨av', k, inn, v', f', g', by simp [r1], r2, r3⟩
    · cases h

theorem filterMap_inj : ∀ (gs : List (Option Nat)), (gs.filterMap id).Nodup → ∀ (i j x : Nat), gs[i]? = some (some x) → gs[j]? = some (some x) → i = j
  | [], _, i, j, x, hi, _ => by simp at hi
  | g :: gs, hnd, i, j, x, hi, hj => by
    have hnd' : (gs.filterMap id).Nodup := by
      cases g with
      | none => simpa using hnd
      | some y => simp at hnd; exact hnd.2
    have hmem : ∀ k, gs[k]? = some (some x) → x ∈ gs.filterMap id := fun k hk => by
      rw [List.mem_filterMap]
      exact ⟨some x, List.mem_of_getElem? hk, rfl⟩
    cases i with
    | zero =>
      simp at hi; subst hi
      cases j with
      | zero => rfl
      | succ j =>
        exfalso
        simp at hj
        simp at hnd
        exact hnd.1 (List.mem_of_getElem? hj)
    | succ i =>
      cases j with
      | zero =>
        exfalso
        simp at hj; subst hj
        simp at hi
        simp at hnd
        exact hnd.1 (List.mem_of_getElem? hi)
      | succ j => rw [filterMap_inj gs hnd' i j x (by simpa using hi) (by simpa using hj)]

theorem viewClo_at {m : Nat → Option O} : ∀ {ids : List Nat} {ds : List D}, viewClo m ids = some ds → ids.length = ds.length ∧ ∀ (j : Nat) (d : D), ds[j]? = some d → ∃ id cs, ids[j]? = some id ∧ viewCells m id 0 = some cs ∧ d = .ptr cs
  | [], ds, h => by simp [viewClo] at h; subst h; exact ⟨rfl, fun j d hj => by simp at hj⟩
  | id :: r, ds, h => by
    simp only [viewClo] at h
    split at h
    · rename_i cs rest h1 h2
      injection h with h; subst h
      obtain ⟨q1, q2⟩ := viewClo_at h2
      refine ⟨by simp [q1], fun j d hj => ?_⟩
      cases j with
      | zero => simp at hj; subst hj; exact ⟨id, cs, rfl, h1, rfl⟩
      | succ j => simpa using q2 j d (by simpa using hj)
    · cases h

section
variable {P : Program} {w0 w : World} {A : Nat → Prop} {locs : List (Option Loc)} {β : Nat → Option Loc} {σ : S} {a : Act}

theorem Sim.live_lt (h : Sim w0 A locs β σ a w) : ∀ b, Bl A β σ.m b → b < w.heap.size := by
  rintro b (hA | ⟨id, o, l, h1, h2, h3, rfl⟩)
  · exact h.lt b hA
  · exact (h.new id o l h1 h2 h3).1

/-- A box, looked at. -/
theorem box_view (h : Sim w0 A locs β σ a w) {id off : Nat} {ds : List D} (hc : viewCells σ.m id off = some ds) {v : Value} (hv : BoxAt β σ.m id off v)
    {B' : Nat → Prop} (hB : ∀ b, b < w.heap.size → ¬ Bl A β σ.m b → ¬ B' b) (hid : ∀ l, β id = some l → ¬ B' l.b) : Rep w B' v (.ptr ds) := by
  unfold viewCells at hc
  split at hc
  · rename_i ty cells hm
    simp only [BoxAt, hm] at hv
    obtain ⟨l, hl, rfl⟩ := hv
    obtain ⟨l', cs, hl', hheap, hsz, hcs⟩ := h.ob id _ hm
    rw [hl] at hl'; injection hl' with hl'; subst hl'
    have e := imms_eq hc
    have hget : ∀ (j : Nat) (d : D), ds[j]? = some d → cells[off + j]? = some (.imm d) := fun j d hj => by
      have : (cells.drop off)[j]? = some (.imm d) := by rw [e]; simp [hj]
      rwa [List.getElem?_drop] at this
    refine .ptr _ _ (fun j => cs.getD (off + j) Go.undef) (h.new id _ l hm rfl hl).1 (hid l hl) rfl (fun j d hj => ?_) (fun j d hj => ?_)
    · rw [add_spot rfl]
      exact run_load_at hheap (by have := (List.getElem?_eq_some_iff.1 (hget j d hj)).1; show off + j < _; omega)
    · exact Rep.keep ⟨Nat.le_refl _, fun _ _ _ => rfl, hB⟩ (hcs _ _ (hget j d hj))
  · cases hc

theorem kills_sim (h : Sim w0 A locs β σ a w) : ∀ (ks : List Nat), (∀ k ∈ ks, σ.m k ≠ none) → Sim w0 A locs β { σ with m := upm σ.m (kills ks) } a w := by
  intro ks
  induction ks generalizing σ with
  | nil => intro _; exact h
  | cons k ks ih =>
    intro hks
    cases hk : σ.m k with
    | none => exact absurd hk (hks k (by simp))
    | some o =>
      have := ih (h.kill hk) fun k' hk' => by
        show upd σ.m k (some .gone) k' ≠ none
        unfold upd
        split
        · simp
        · exact hks k' (by simp [hk'])
      exact this

/-- What an argument's handing-over says of the objects. -/
theorem argIn_inv {m : Nat → Option O} {k : Nat} {av : AV} {inn : In} {v f : List Nat} {g : Option Nat} (h : argIn m k av = some (inn, v, f, g)) :
    (∃ d, av = .imm d ∧ inn = .imm d ∧ v = [] ∧ f = [] ∧ g = none) ∨
    (∃ id off len ty sz rows, av = .own id off len ∧ m id = some (.arr ty sz rows) ∧ inn = .imm (.list ((rows.drop off).take len)) ∧ g = none ∧ ((v = [id] ∧ f = []) ∨ (v = [] ∧ f = [id]))) ∨
    (∃ id len ty sz rows, av = .own id 0 len ∧ m id = some (.arr ty sz rows) ∧ len = rows.length ∧ inn = .arr ty sz rows ∧ v = [] ∧ f = [] ∧ g = some id) ∨
    (∃ id off ds, av = .box id off ∧ viewCells m id off = some ds ∧ inn = .imm (.ptr ds) ∧ v = [id] ∧ f = [] ∧ g = none) ∨
    (∃ id ty cells ds, av = .box id 0 ∧ m id = some (.box ty cells) ∧ imms cells = some ds ∧ inn = .box ty ds ∧ v = [] ∧ f = [] ∧ g = some id) ∨
    (∃ fn ids ds, av = .clo fn ids ∧ viewClo m ids = some ds ∧ inn = .imm (.fn fn ds) ∧ v = ids ∧ f = [] ∧ g = none) := by
  unfold argIn at h
  split at h
  · simp only [Option.some.injEq, Prod.mk.injEq] at h
    obtain ⟨rfl, rfl, rfl, rfl⟩ := h
    exact .inl ⟨_, rfl, rfl, rfl, rfl, rfl⟩
  · split at h
    · rename_i hm
      simp only [Option.some.injEq, Prod.mk.injEq] at h
      obtain ⟨rfl, rfl, rfl, rfl⟩ := h
      exact .inr (.inl ⟨_, _, _, _, _, _, rfl, hm, rfl, rfl, .inl ⟨rfl, rfl⟩⟩)
    · cases h
  · split at h
    · rename_i hm
      simp only [Option.some.injEq, Prod.mk.injEq] at h
      obtain ⟨rfl, rfl, rfl, rfl⟩ := h
      exact .inr (.inl ⟨_, _, _, _, _, _, rfl, hm, rfl, rfl, .inr ⟨rfl, rfl⟩⟩)
    · cases h
  · split at h
    · rename_i hm
      split at h
      · rename_i hlen
        simp only [Option.some.injEq, Prod.mk.injEq] at h
        obtain ⟨rfl, rfl, rfl, rfl⟩ := h
        exact .inr (.inr (.inl ⟨_, _, _, _, _, rfl, hm, hlen, rfl, rfl, rfl, rfl⟩))
      · cases h
    · cases h
  · split at h
    · rename_i hm
      simp only [Option.some.injEq, Prod.mk.injEq] at h
      obtain ⟨rfl, rfl, rfl, rfl⟩ := h
      exact .inr (.inr (.inr (.inl ⟨_, _, _, rfl, hm, rfl, rfl, rfl, rfl⟩)))
    · cases h
  · split at h
    · rename_i hm
      split at h
      · rename_i hi
        simp only [Option.some.injEq, Prod.mk.injEq] at h
        obtain ⟨rfl, rfl, rfl, rfl⟩ := h
        exact .inr (.inr (.inr (.inr (.inl ⟨_, _, _, _, rfl, hm, hi, rfl, rfl, rfl, rfl⟩))))
      · cases h
    · cases h
  · split at h
    · rename_i hm
      simp only [Option.some.injEq, Prod.mk.injEq] at h
      obtain ⟨rfl, rfl, rfl, rfl⟩ := h
      exact .inr (.inr (.inr (.inr (.inr ⟨_, _, _, rfl, hm, rfl, rfl, rfl, rfl⟩))))
    · cases h
  · cases h

theorem viewCells_live {m : Nat → Option O} {id off : Nat} {ds : List D} (h : viewCells m id off = some ds) : ∃ o, m id = some o ∧ o.live = true := by
  unfold viewCells at h
  split at h
  · rename_i hm; exact ⟨_, hm, rfl⟩
  · cases h

theorem argIn_live {m : Nat → Option O} {k : Nat} {av : AV} {inn : In} {v f : List Nat} {g : Option Nat} (h : argIn m k av = some (inn, v, f, g)) :
    (∀ x ∈ v, ∃ o, m x = some o ∧ o.live = true) ∧ (∀ x ∈ f, ∃ o, m x = some o ∧ o.live = true) ∧ (∀ x, g = some x → ∃ o, m x = some o ∧ o.live = true) := by
  rcases argIn_inv h with ⟨d, _, _, rfl, rfl, rfl⟩ | ⟨id, off, len, ty, sz, rows, _, hm, _, rfl, ⟨rfl, rfl⟩ | ⟨rfl, rfl⟩⟩ | ⟨id, len, ty, sz, rows, _, hm, _, _, rfl, rfl, rfl⟩ | ⟨id, off, ds, _, hm, _, rfl, rfl, rfl⟩ | ⟨id, ty, cells, ds, _, hm, _, _, rfl, rfl, rfl⟩ | ⟨fn, ids, ds, _, hm, _, rfl, rfl, rfl⟩
  · exact ⟨(fun x hx => by cases hx), (fun x hx => by cases hx), (fun x hx => by cases hx)⟩
  · exact ⟨(fun x hx => by simp at hx; subst hx; exact ⟨_, hm, rfl⟩), (fun x hx => by cases hx), (fun x hx => by cases hx)⟩
  · exact ⟨(fun x hx => by cases hx), (fun x hx => by simp at hx; subst hx; exact ⟨_, hm, rfl⟩), (fun x hx => by cases hx)⟩
  · exact ⟨(fun x hx => by cases hx), (fun x hx => by cases hx), (fun x hx => by injection hx with hx; subst hx; exact ⟨_, hm, rfl⟩)⟩
  · exact ⟨(fun x hx => by simp at hx; subst hx; exact viewCells_live hm), (fun x hx => by cases hx), (fun x hx => by cases hx)⟩
  · exact ⟨(fun x hx => by cases hx), (fun x hx => by cases hx), (fun x hx => by injection hx with hx; subst hx; exact ⟨_, hm, rfl⟩)⟩
  · refine ⟨fun x hx => ?_, (fun x hx => by cases hx), (fun x hx => by cases hx)⟩
    obtain ⟨q1, q2⟩ := viewClo_at hm
    obtain ⟨j, hj⟩ := List.getElem?_of_mem hx
    have hlt : j < ds.length := by rw [← q1]; exact (List.getElem?_eq_some_iff.1 hj).1
    obtain ⟨id, cs, r1, r2, _⟩ := q2 j _ (List.getElem?_eq_getElem hlt)
    rw [hj] at r1; injection r1 with r1; subst r1
    exact viewCells_live r2

theorem upm_lookup (m : Nat → Option O) : ∀ (l : List (Nat × O)), (l.map (·.1)).Nodup → ∀ id, (∀ o, (id, o) ∈ l → upm m l id = some o) ∧ (id ∉ l.map (·.1) → upm m l id = m id)
  | [], _, id => ⟨(fun o h => by cases h), fun _ => rfl⟩
  | (k, o') :: l, hnd, id => by
    simp only [List.map_cons, List.nodup_cons] at hnd
    obtain ⟨h1, h2⟩ := upm_lookup (upd m k (some o')) l hnd.2 id
    refine ⟨fun o h => ?_, fun h => ?_⟩
    · rcases List.mem_cons.1 h with h | h
      · injection h with h3 h4
        subst h3 h4
        show upm (upd m id (some o)) l id = some o
        rw [h2 hnd.1, upd_same]
      · exact h1 o h
    · simp only [List.map_cons, List.mem_cons, not_or] at h
      show upm (upd m k (some o')) l id = m id
      rw [h2 h.2, upd_other _ _ h.1]

end
end Go.Am
