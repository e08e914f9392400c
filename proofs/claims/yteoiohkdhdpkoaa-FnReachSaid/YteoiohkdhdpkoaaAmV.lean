/- The abstract machine: arrays as variables, at any place. -/
import Derived.Test.YteoiohkdhdpkoaaAmC
/-! The abstract machine, part 60: an array that is a variable, read and written at a place that is a number. -/
namespace Go.Am
open Go

section
variable {T : TypeId → Option TI} {m : Nat → Option O}
theorem go_idxBoxI {tt : TypeId} {K : Eff → Prop} {kd : IntKind} {i : Int} {j id off len : Nat} {e ty : TypeId} {cells : List AV} {a1 b1 : Nat} {z1 : List D} {te : TI} {x y : AV} (hx : x = .box id off) (hy : y = .imm (.int kd i)) (hij : i = (j : Nat))
    (hT : T tt = some ⟨.array len e, a1, b1, z1⟩) (hE : T e = some te) (hm : m id = some (.box ty cells)) (hi : j < len) (h : K ⟨.box id (off + j * te.size), []⟩) : opIndexAddr T m tt x y K := by
  subst hx hy hij
  unfold opIndexAddr
  simp only [hT, hE, hm]
  exact ⟨by omega, by omega, by simpa using h⟩
theorem go_storeBoxI {tt : TypeId} {K : Eff → Prop} {id off : Nat} {ty : TypeId} {cells vs cells' : List AV} {ti : TI} {x v : AV} (hx : x = .box id off) (hm : m id = some (.box ty cells)) (hT : T tt = some ti)
    (hv : acells m v = some vs) (hl : Nat.beq vs.length ti.size = true) (hl' : off + ti.size ≤ cells.length) (hs : setAt cells off vs = cells') (h : K ⟨.undef, [(id, .box ty cells')]⟩) : opStore T m tt x v K := by
  subst hx hs
  unfold opStore
  simp only [hT, hm, hv]
  exact ⟨Nat.eq_of_beq_eq_true hl, hl', h⟩
theorem go_loadArr {tt : TypeId} {K : Eff → Prop} {id : Nat} {ty : TypeId} {ds : List D} {ti : TI} {x : AV} (hx : x = .box id 0) (hm : m id = some (.box ty (ds.map .imm))) (hT : T tt = some ti)
    (ha : ti.agg = true) (hl : ti.size = ds.length) (h : K ⟨.imm (.agg ds), []⟩) : opLoad T m tt x K := by
  subst hx
  unfold opLoad
  simp only [hT, hm, ha]
  refine ⟨by simp [hl], ?_⟩
  rw [List.drop_zero, List.take_of_length_le (by simp [hl]), imms_map]
  exact h
theorem go_idxArrA {tt e : TypeId} {K : Eff → Prop} {kd : IntKind} {i : Int} {len a1 b1 : Nat} {z1 : List D} {te : TI} {x y : AV} {ds r : List D} (hx : x = .imm (.agg ds)) (hy : y = .imm (.int kd i)) (hT : T tt = some ⟨.array len e, a1, b1, z1⟩) (hE : T e = some te)
    (h0 : 0 ≤ i) (h1 : i < len) (ha : te.agg = true) (hb : i.toNat * te.size + te.size ≤ ds.length) (hd : (ds.drop (i.toNat * te.size)).take te.size = r) (h : K ⟨.imm (.agg r), []⟩) : opIndex T tt x y K := by
  subst hx hy hd
  unfold opIndex
  simp only [hT, hE, ha]
  exact ⟨h0, h1, hb, h⟩
end

theorem setAt_map {α β : Type} (f : α → β) (l : List α) (o : Nat) (vs : List α) : setAt (l.map f) o (vs.map f) = (setAt l o vs).map f := by
  simp [setAt, List.map_take, List.map_drop]
theorem row_flat {α : Type} {sz : Nat} {rows : List (List α)} (hsz : ∀ r ∈ rows, r.length = sz) {i : Nat} {r : List α} (h : rows[i]? = some r) : (rows.flatten.drop (i * sz)).take sz = r := by
  obtain ⟨hi, e⟩ := List.getElem?_eq_some_iff.1 h
  rw [← flat_drop rows hsz, List.drop_eq_getElem_cons hi, e, List.flatten_cons]
  have hr := hsz r (List.mem_of_getElem? h)
  rw [← hr, List.take_left]
theorem setAt_flat {α : Type} {sz : Nat} {rows : List (List α)} (hsz : ∀ r ∈ rows, r.length = sz) {i : Nat} (hi : i < rows.length) {r : List α} (hr : r.length = sz) : setAt rows.flatten (i * sz) r = (rows.set i r).flatten := by
  unfold setAt
  rw [List.set_eq_take_append_cons_drop, if_pos hi, hr, ← Nat.succ_mul, ← flat_take rows hsz, ← flat_drop rows hsz]
  simp
theorem setAt_cells {sz : Nat} {rows : List (List D)} (hsz : ∀ r ∈ rows, r.length = sz) {i : Nat} (hi : i < rows.length) {r : List D} (hr : r.length = sz) : setAt (rows.flatten.map AV.imm) (i * sz) (r.map AV.imm) = ((rows.set i r).flatten).map AV.imm := by
  rw [setAt_map, setAt_flat hsz hi hr]
end Go.Am

/-! The abstract machine, part 61: an array of this call's own is given up for plain data. -/
namespace Go.Am
open Go
theorem Ref.trans {σ σ1 σ2 : S} (h : Ref σ σ1) (k : Ref σ1 σ2) : Ref σ σ2 := fun w0 A locs β a w hs => by
  obtain ⟨β1, h1⟩ := h w0 A locs β a w hs
  exact k w0 A locs β1 a w h1
theorem ref_freeze (s : Nat) {σ : S} {id off len : Nat} {ty sz : Nat} {rows : List (List D)} (hs : σ.t s = .own id off len) (hm : σ.m id = some (.arr ty sz rows)) :
    Ref σ { σ with t := upd σ.t s (.imm (.list ((rows.drop off).take len))), m := upd σ.m id (some .gone) } := by
  intro w0 A locs β a w h
  have hv := h.slot s
  rw [hs] at hv
  have hc : dcells σ.m (.own id off len) = some ([.list ((rows.drop off).take len)], [id]) := by simp [dcells, hm]
  obtain ⟨σ', e, h', _, _, hrep, _⟩ := dcells_sim h (fun _ _ h => h) hc hv
  subst e
  have hcell : (a.tmps.getD s Go.undef).cells = #[a.tmps.getD s Go.undef] := by
    have hv' : AvRep0 w (Bl A β σ.m) β σ.m (.own id off len) (a.tmps.getD s Go.undef) := hv
    simp only [AvRep0, hm] at hv'
    rcases hv'.2 with ⟨_, e⟩ | ⟨l, ad, _, e, _⟩ <;> rw [e] <;> rfl
  have hr := hrep 0 _ rfl
  rw [hcell] at hr
  refine ⟨β, { size := h'.size, defers := h'.defers, slot := fun i => ?_, ob := h'.ob, inj := h'.inj, new := h'.new, fr := h'.fr, lt := h'.lt, pm := h'.pm }⟩
  show AvRep w _ β (upd σ.m id (some .gone)) (upd σ.t s (.imm (.list ((rows.drop off).take len))) i) (a.tmps.getD i Go.undef)
  by_cases e : i = s
  · subst e
    rw [upd_same]
    exact hr
  · rw [upd_other _ _ e]
    exact h'.slot i
end Go.Am

