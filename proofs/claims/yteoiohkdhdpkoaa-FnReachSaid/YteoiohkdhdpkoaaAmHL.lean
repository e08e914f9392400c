/- The abstract machine: arrays of arrays, told by their blocks. -/
import Derived.Test.YteoiohkdhdpkoaaAmHG
import Derived.Test.YteoiohkdhdpkoaaAmN
namespace Go.Am
open Go

/-- A cell of the outer array, as the very value, and as data. -/
def CellOf (xs : List (Value × List (List D))) (d d' : D) : Prop := d' = d ∨ ∃ x ∈ xs, d = .other x.1 ∧ d' = .list x.2

/-- An outer array in a block of its own, whose slices lie each in a block of its own. -/
def NstI (to so ti : Nat) (outer : List (Value × List (List D)) → List (List D)) (rows : List (List (List D))) : VI := fun v w F =>
  ∃ (xs : List (Value × List (List D))) (F0 F1 : Nat → Prop), xs.map (·.2) = rows ∧ (∀ b, F0 b ∨ F1 b → F b) ∧ (∀ b, ¬ (F0 b ∧ F1 b)) ∧ FlatI to so (outer xs) v w F0 ∧ InnI ti 1 xs w F1

section
variable {to so ti : Nat} {outer : List (Value × List (List D)) → List (List D)} {rows : List (List (List D))} {v : Value} {w : World} {F F' : Nat → Prop}
theorem NstI.ext (h : NstI to so ti outer rows v w F) : ExtAt (NstI to so ti outer rows v) w F := by
  obtain ⟨xs, F0, F1, h1, h2, h3, h4, h5⟩ := h
  exact fun w' hb hs => ⟨xs, F0, F1, h1, h2, h3, h4.ext w' (fun b hF => hb b (h2 b (.inl hF))) hs, h5.ext w' (fun b hF => hb b (h2 b (.inr hF))) hs⟩
theorem NstI.mono (h : NstI to so ti outer rows v w F) (hF : ∀ b, F b → F' b) : NstI to so ti outer rows v w F' := by
  obtain ⟨xs, F0, F1, h1, h2, h3, h4, h5⟩ := h
  exact ⟨xs, F0, F1, h1, fun b hb => hF b (h2 b hb), h3, h4, h5⟩
theorem NstI.rep (h : NstI to so ti outer rows v w F) (full : List (List D))
    (hfull : ∀ xs : List (Value × List (List D)), xs.map (·.2) = rows → full.length = (outer xs).length ∧ (∀ r ∈ full, r.length = so) ∧ ∀ (j : Nat) (d' : D), full.flatten[j]? = some d' → ∃ d, (outer xs).flatten[j]? = some d ∧ CellOf xs d d')
    {B : Nat → Prop} (hB : ∀ b, F b → ¬ B b) : Rep w B v (.list full) := by
  obtain ⟨xs, F0, F1, h1, h2, h3, h4, G, g1, _, g3⟩ := h
  obtain ⟨k1, k2, k3⟩ := hfull xs h1
  obtain ⟨p1, p2, p3⟩ := h4
  rcases p3 with ⟨e1, rfl⟩ | ⟨b, base, tot, cs, ad, q1, rfl, q3, q4, q5, q6, q7, q8⟩
  · rw [e1] at k1
    have : full = [] := List.eq_nil_of_length_eq_zero k1
    subst this
    exact .nil _ _
  · by_cases h0 : full.length = 0
    · have : full = [] := List.eq_nil_of_length_eq_zero h0
      subst this
      rw [← k1]
      exact .nil _ _
    · have had := q3 (by omega)
      subst had
      have hfl : full.flatten.length = full.length * so := flat_len full k2
      have hmul : full.length * so ≤ tot * so := Nat.mul_le_mul_right _ (by omega)
      refine .list _ _ _ full so (fun j => cs.getD (base + j) Go.undef) k1.symm q6 k2 (lt_of_cells q4) (hB b (h2 b (.inl q1))) rfl (fun j d hj => ?_) (fun j d' hj => ?_)
      · have hjl := (List.getElem?_eq_some_iff.1 hj).1
        rw [add_spot rfl]
        exact ⟨run_load_at q4 (by show base + j < _; omega), thaw q4⟩
      · obtain ⟨d, e1, e2⟩ := k3 j d' hj
        have hr := q8 j d e1
        rcases e2 with rfl | ⟨x, hx, rfl, rfl⟩
        · exact hr _ _
        · rw [rep_oth (hr w B)]
          obtain ⟨i, hi⟩ := List.getElem?_of_mem hx
          exact (g3 i x hi).rep fun b hb => hB b (h2 b (.inr (g1 i b hb)))
end

/-- What is told of the slice itself. -/
def ShapeX (v : Value) (n : Nat) : Prop := ∃ (oad : Option Addr) (cap : Nat), v = .slice oad n cap ∧ (0 < n → ∃ b o, oad = some ⟨b, o, none⟩)

section
variable {P : Program} {T : TypeId → Option TI} {t : Nat → AV} {m : Nat → Option O} {ep n : Nat} {pm : List Nat} {k : S → Prop}
variable {ops : Array Oper} {rest : List Oper} {dst : Option Nat} {op : Op} {oty : TypeId} {pos : String} {after : Array Edge}

theorem gx_split {G : S → Prop} (hC : Cv G) {X : Type} {id id1 id2 : Nat} {I : World → (Nat → Prop) → Prop} {I1 I2 : X → World → (Nat → Prop) → Prop} (hm : m id = some (.ext I)) (f1 : m id1 = none) (f2 : m id2 = none) (h12 : Nat.beq id1 id2 = false)
    (hI : ∀ w F, ExtAt I w F → ∃ (x : X) (F0 F1 : Nat → Prop), (∀ b, F0 b ∨ F1 b → F b) ∧ (∀ b, ¬ (F0 b ∧ F1 b)) ∧ ExtAt (I1 x) w F0 ∧ ExtAt (I2 x) w F1)
    (h : ∀ x, forceM m [(id, .gone), (id1, .ext (I1 x)), (id2, .ext (I2 x))] fun m' => G ⟨t, m', ep, n, pm⟩) :
    G ⟨t, m, ep, n, pm⟩ := by
  simp only [forceM_eq] at h
  refine hC X ⟨t, m, ep, n, pm⟩ (fun x => ⟨t, upm m [(id, .gone), (id1, .ext (I1 x)), (id2, .ext (I2 x))], ep, n, pm⟩) ?_ h
  intro w0 A locs β a w hS
  have hob : ExtAt I w (foot (β id)) := hS.ob id _ hm
  obtain ⟨x, F0, F1, g1, g2, g3, g4⟩ := hI w _ hob
  have hof : ∀ b, foot (β id) b → OfIds β m [id] b := fun b hb => (OfIds.one hm rfl b).2 hb
  have hne : id1 ≠ id2 := by
    intro e
    rw [e, Nat.beq_refl] at h12
    cases h12
  obtain ⟨β', h1, _⟩ := hS.exts (w' := w) (ids := [id]) [(id1, I1 x, F0), (id2, I2 x, F1)] (by simp [hne]) (fun y hy => by
      simp only [List.mem_cons, List.not_mem_nil, or_false] at hy
      rcases hy with rfl | rfl
      · exact f1
      · exact f2) (fun i hi => by rw [List.mem_singleton] at hi; subst hi; exact ⟨_, hm⟩) (StepFr.refl _ _)
    (fun y hy => by
      simp only [List.mem_cons, List.not_mem_nil, or_false] at hy
      rcases hy with rfl | rfl
      · exact ⟨g3, fun b hb => ⟨OfIds.lt hS (hof b (g1 b (.inl hb))), .inr (hof b (g1 b (.inl hb)))⟩⟩
      · exact ⟨g4, fun b hb => ⟨OfIds.lt hS (hof b (g1 b (.inr hb))), .inr (hof b (g1 b (.inr hb)))⟩⟩)
    (fun y hy z hz b hb hb2 => by
      simp only [List.mem_cons, List.not_mem_nil, or_false] at hy hz
      rcases hy with rfl | rfl <;> rcases hz with rfl | rfl
      · rfl
      · exact (g2 b ⟨hb, hb2⟩).elim
      · exact (g2 b ⟨hb2, hb⟩).elim
      · rfl)
  exact ⟨x, β', h1⟩
theorem go_split (hT : TOk P T) {X : Type} {id id1 id2 : Nat} {I : World → (Nat → Prop) → Prop} {I1 I2 : X → World → (Nat → Prop) → Prop} (hm : m id = some (.ext I)) (f1 : m id1 = none) (f2 : m id2 = none) (h12 : Nat.beq id1 id2 = false)
    (hI : ∀ w F, ExtAt I w F → ∃ (x : X) (F0 F1 : Nat → Prop), (∀ b, F0 b ∨ F1 b → F b) ∧ (∀ b, ¬ (F0 b ∧ F1 b)) ∧ ExtAt (I1 x) w F0 ∧ ExtAt (I2 x) w F1)
    (h : ∀ x, forceM m [(id, .gone), (id1, .ext (I1 x)), (id2, .ext (I2 x))] fun m' => amOps P T ops (⟨dst, op, oty, pos, after, none⟩ :: rest) ⟨t, m', ep, n, pm⟩ k) :
    amOps P T ops (⟨dst, op, oty, pos, after, none⟩ :: rest) ⟨t, m, ep, n, pm⟩ k :=
  gx_split (cv_ops hT rfl) hm f1 f2 h12 hI h
theorem ret_split {Q : Exit → S → Prop} {X : Type} {id id1 id2 : Nat} {I : World → (Nat → Prop) → Prop} {I1 I2 : X → World → (Nat → Prop) → Prop} (hm : m id = some (.ext I)) (f1 : m id1 = none) (f2 : m id2 = none) (h12 : Nat.beq id1 id2 = false)
    (hI : ∀ w F, ExtAt I w F → ∃ (x : X) (F0 F1 : Nat → Prop), (∀ b, F0 b ∨ F1 b → F b) ∧ (∀ b, ¬ (F0 b ∧ F1 b)) ∧ ExtAt (I1 x) w F0 ∧ ExtAt (I2 x) w F1)
    (h : ∀ x, forceM m [(id, .gone), (id1, .ext (I1 x)), (id2, .ext (I2 x))] fun m' => amC P T .ret Q ⟨t, m', ep, n, pm⟩) :
    amC P T .ret Q ⟨t, m, ep, n, pm⟩ :=
  gx_split cv_ret hm f1 f2 h12 hI h

/-- An array of arrays is opened: the outer array, the inner ones. -/
theorem go_nst (hT : TOk P T) {id id1 id2 to so ti : Nat} {outer : List (Value × List (List D)) → List (List D)} {rows : List (List (List D))} {v : Value} (hm : m id = some (.ext (NstI to so ti outer rows v))) (f1 : m id1 = none) (f2 : m id2 = none) (h12 : Nat.beq id1 id2 = false)
    (h : ∀ xs : List (Value × List (List D)), xs.map (·.2) = rows → ShapeX v (outer xs).length → forceM m [(id, .gone), (id1, .ext (FlatI to so (outer xs) v)), (id2, .ext (InnI ti 1 xs))] fun m' => amOps P T ops (⟨dst, op, oty, pos, after, none⟩ :: rest) ⟨t, m', ep, n, pm⟩ k) :
    amOps P T ops (⟨dst, op, oty, pos, after, none⟩ :: rest) ⟨t, m, ep, n, pm⟩ k := by
  refine go_split (X := { xs : List (Value × List (List D)) // xs.map (·.2) = rows ∧ ShapeX v (outer xs).length }) (I1 := fun x => FlatI to so (outer x.1) v) (I2 := fun x => InnI ti 1 x.1) hT hm f1 f2 h12 ?_ (fun x => h x.1 x.2.1 x.2.2)
  intro w F hF
  obtain ⟨xs, F0, F1, h1, h2, h3, h4, h5⟩ := hF.now
  refine ⟨⟨xs, h1, ?_⟩, F0, F1, h2, h3, h4.ext, h5.ext⟩
  rcases h4.shape with ⟨e1, e2⟩ | ⟨ad, cap, e1, e2⟩
  · exact ⟨none, 0, by rw [e1, e2]; rfl, fun h => by rw [e1] at h; simp at h⟩
  · refine ⟨some ad, cap, e1, fun hp => ?_⟩
    have := e2 fun e => by rw [e] at hp; simp at hp
    exact ⟨ad.block, ad.off, by cases ad; simp at this ⊢; exact this⟩
end

/-- A new object that lies nowhere. -/
theorem ref_newX {σ : S} {id : Nat} {I : World → (Nat → Prop) → Prop} (hf : σ.m id = none) (hI : ∀ w, ExtAt I w fun _ => False) : Ref σ { σ with m := upd σ.m id (some (.ext I)) } := by
  intro w0 A locs β a w hS
  obtain ⟨β', h1, _⟩ := hS.exts (w' := w) (ids := []) [(id, I, fun _ => False)] (by simp) (fun y hy => by rw [List.mem_singleton] at hy; subst hy; exact hf) (fun i hi => by cases hi) (StepFr.refl _ _)
    (fun y hy => by rw [List.mem_singleton] at hy; subst hy; exact ⟨hI w, fun b hb => hb.elim⟩) (fun y hy z hz b hb => by rw [List.mem_singleton] at hy; subst hy; exact hb.elim)
  exact ⟨β', h1⟩

/-- Two objects become one. -/
theorem ref_joinX {σ : S} {id1 id2 id3 : Nat} {I1 I2 I3 : World → (Nat → Prop) → Prop} (h1 : σ.m id1 = some (.ext I1)) (h2 : σ.m id2 = some (.ext I2)) (hne : Nat.beq id1 id2 = false) (hf : σ.m id3 = none)
    (hI : ∀ w F1 F2, ExtAt I1 w F1 → ExtAt I2 w F2 → (∀ b, ¬ (F1 b ∧ F2 b)) → ExtAt I3 w fun b => F1 b ∨ F2 b) :
    Ref σ { σ with m := upm σ.m [(id1, .gone), (id2, .gone), (id3, .ext I3)] } := by
  intro w0 A locs β a w hS
  have o1 : ExtAt I1 w (foot (β id1)) := hS.ob id1 _ h1
  have o2 : ExtAt I2 w (foot (β id2)) := hS.ob id2 _ h2
  have hn : id1 ≠ id2 := by
    intro e
    rw [e, Nat.beq_refl] at hne
    cases hne
  have hd : ∀ b, ¬ (foot (β id1) b ∧ foot (β id2) b) := fun b ⟨⟨l, a1, a2⟩, l2, b1, b2⟩ => hn (hS.inj id1 id2 _ _ l l2 b h1 rfl a1 h2 rfl b1 a2 b2)
  have hof : ∀ b, foot (β id1) b ∨ foot (β id2) b → OfIds β σ.m [id1, id2] b := fun b hb => by
    rcases hb with ⟨l, a1, a2⟩ | ⟨l, a1, a2⟩
    · exact ⟨id1, by simp, _, l, h1, rfl, a1, a2⟩
    · exact ⟨id2, by simp, _, l, h2, rfl, a1, a2⟩
  obtain ⟨β', h3, _⟩ := hS.exts (w' := w) (ids := [id1, id2]) [(id3, I3, fun b => foot (β id1) b ∨ foot (β id2) b)] (by simp) (fun y hy => by rw [List.mem_singleton] at hy; subst hy; exact hf) (fun i hi => by
      simp only [List.mem_cons, List.not_mem_nil, or_false] at hi
      rcases hi with rfl | rfl
      · exact ⟨_, h1⟩
      · exact ⟨_, h2⟩) (StepFr.refl _ _)
    (fun y hy => by rw [List.mem_singleton] at hy; subst hy; exact ⟨hI w _ _ o1 o2 hd, fun b hb => ⟨OfIds.lt hS (hof b hb), .inr (hof b hb)⟩⟩) (fun y hy z hz b _ _ => by rw [List.mem_singleton] at hy hz; subst hy hz; rfl)
  exact ⟨β', h3⟩

/-! Closing a function that brings such objects. -/
section
variable {σ : S}
theorem close_no (v : Value) : CloseX σ [] (.imm (.other v)) .other noI := fun _ _ _ _ _ w u _ _ => ⟨fun _ _ => .other _, noI_at u w _⟩
theorem close_imm {d : D} (hg : d.gr = true) : CloseX σ [] (.imm d) (fun _ => d) noI := fun _ _ _ _ _ w u _ hu => ⟨fun _ _ => Rep.gr (show Rep w _ u d from hu) hg, noI_at u w _⟩
theorem close_ext {id : Nat} {v : Value} {I : World → (Nat → Prop) → Prop} {J : VI} (hm : σ.m id = some (.ext I)) (hI : ∀ w F, ExtAt I w F → ExtAt (J v) w F) : CloseX σ [id] (.imm (.other v)) .other J := by
  intro w0 A locs β a w u hS hu
  have hu : u = v := rep_oth hu
  subst hu
  have hob : ExtAt I w (foot (β id)) := hS.ob id _ hm
  have e : (OfIds β σ.m [id]) = foot (β id) := by funext b; exact propext (OfIds.one hm rfl b)
  rw [e]
  exact ⟨fun _ _ => .other _, hI w _ hob⟩

theorem close_nst {id1 id2 to so ti : Nat} {outer : List (Value × List (List D)) → List (List D)} {rows : List (List (List D))} {v : Value} {xs : List (Value × List (List D))} (h1 : σ.m id1 = some (.ext (FlatI to so (outer xs) v))) (h2 : σ.m id2 = some (.ext (InnI ti 1 xs))) (hne : Nat.beq id1 id2 = false) (hr : xs.map (·.2) = rows) :
    CloseX σ [id1, id2] (.imm (.other v)) .other (NstI to so ti outer rows) := by
  intro w0 A locs β a w u hS hu
  have hu : u = v := rep_oth hu
  subst hu
  have o1 : ExtAt _ w (foot (β id1)) := hS.ob id1 _ h1
  have o2 : ExtAt _ w (foot (β id2)) := hS.ob id2 _ h2
  have hn : id1 ≠ id2 := by
    intro e
    rw [e, Nat.beq_refl] at hne
    cases hne
  refine ⟨fun _ _ => .other _, NstI.ext ⟨xs, foot (β id1), foot (β id2), hr, fun b hb => ?_, fun b ⟨⟨l, a1, a2⟩, l2, b1, b2⟩ => hn (hS.inj id1 id2 _ _ l l2 b h1 rfl a1 h2 rfl b1 a2 b2), o1.now, o2.now⟩⟩
  rcases hb with ⟨l, a1, a2⟩ | ⟨l, a1, a2⟩
  · exact ⟨id1, by simp, _, l, h1, rfl, a1, a2⟩
  · exact ⟨id2, by simp, _, l, h2, rfl, a1, a2⟩

/-- An outer array of our own and its inner ones. -/
theorem close_own {id id2 to so ti len : Nat} {outer : List (Value × List (List D)) → List (List D)} {rows : List (List (List D))} {xs : List (Value × List (List D))} (h1 : σ.m id = some (.arr to so (outer xs))) (hl : len = (outer xs).length) (hg : (outer xs).all (fun r => r.all D.gr) = true) (h2 : σ.m id2 = some (.ext (InnI ti 1 xs))) (hr : xs.map (·.2) = rows) :
    CloseX σ [id, id2] (.own id 0 len) .other (NstI to so ti outer rows) := by
  intro w0 A locs β a w u hS hu
  have hf := arr_flat hS h1 hl hg hu
  have o2 : ExtAt _ w (foot (β id2)) := hS.ob id2 _ h2
  have hn : id ≠ id2 := fun e => by subst e; rw [h1] at h2; cases h2
  refine ⟨fun _ _ => .other _, NstI.ext ⟨xs, OfIds β σ.m [id], foot (β id2), hr, fun b hb => ?_, fun b ⟨hb1, hb2⟩ => ?_, hf, o2.now⟩⟩
  · rcases hb with hb | ⟨l, a1, a2⟩
    · exact hb.sub (by simp)
    · exact ⟨id2, by simp, _, l, h2, rfl, a1, a2⟩
  · obtain ⟨l, a1, a2⟩ := (OfIds.one h1 rfl b).1 hb1
    obtain ⟨l2, b1, b2⟩ := hb2
    exact hn (hS.inj id id2 _ _ l l2 b h1 rfl a1 h2 rfl b1 a2 b2)
/-- No array at all. -/
theorem close_nil {id to so ti : Nat} {outer : List (Value × List (List D)) → List (List D)} (h1 : σ.m id = some (.arr to so [])) (ho : outer [] = []) : CloseX σ [id] (.own id 0 0) .other (NstI to so ti outer []) := by
  intro w0 A locs β a w u hS hu
  have hf := arr_flat hS h1 rfl rfl hu
  exact ⟨fun _ _ => .other _, NstI.ext ⟨[], OfIds β σ.m [id], fun _ => False, rfl, fun b hb => hb.elim (fun h => h) (fun h => h.elim), fun b hb => hb.2, by rw [ho]; exact hf, InnI.nil _ _ _ _⟩⟩

theorem ret_x {T : TypeId → Option TI} {fn : Func} {x0 : XI} {v0 : Value} {r0 : XR} {rs : List D} {rv : ResultVar} {rvs : List ResultVar} {av : AV} (idsG idsH : List Nat) (hr : fn.results.toList = rv :: rvs) (h1 : retAV T σ rv = av) (hnd : av ≠ .dead) (h2 : rvs.map (retAV T σ) = rs.map .imm) (hg : rs.all D.gr = true)
    (hG : CloseX σ idsG av r0.d r0.I) (hH : CloseX σ idsH (.imm (.other v0)) .other x0.J) (hd : ∀ x ∈ idsG, x ∉ idsH) : xQ T fn x0 v0 r0 rs .ret σ := by
  subst h1
  exact ⟨rv, rvs, idsG, idsH, hr, h2, hg, hnd, hG, hH, hd⟩
end

/-- Nothing is lent. -/
theorem split_no (σ : S) (v : Value) : SplitX σ [] v noI fun _ _ => True := fun _ _ _ _ _ w _ => ⟨fun _ => False, fun _ => False, fun _ hb => (hb.elim (fun h => h) (fun h => h)).elim, fun _ hb => hb.1, noI_at v w _, fun _ _ _ => trivial⟩
/-- One object is lent whole. -/
theorem split_all {σ : S} {id : Nat} {I : World → (Nat → Prop) → Prop} {v : Value} {J : VI} (hm : σ.m id = some (.ext I)) (hI : ∀ w F, ExtAt I w F → ExtAt (J v) w F) : SplitX σ [id] v J fun _ _ => True := fun _ _ _ β _ w hS =>
  ⟨foot (β id), fun _ => False, fun b hb => (OfIds.one hm rfl b).2 (hb.elim (fun h => h) (fun h => h.elim)), fun _ hb => hb.2, hI w _ (hS.ob id _ hm), fun _ _ _ => trivial⟩
/-- One of many flat arrays is lent. -/
theorem split_inn {σ : S} {id ti j : Nat} {xs : List (Value × List (List D))} {x : Value × List (List D)} (hm : σ.m id = some (.ext (InnI ti 1 xs))) (hx : xs[j]? = some x) : SplitX σ [id] x.1 (FlatI ti 1 x.2) (InnO ti 1 xs j) := fun _ _ _ β _ w hS => by
  have hob : ExtAt _ w (foot (β id)) := hS.ob id _ hm
  obtain ⟨U, R, h1, h2, h3, h4⟩ := hob.now.take hx
  exact ⟨U, R, fun b hb => (OfIds.one hm rfl b).2 (h1 b hb), h2, h3.ext, h4.ext⟩
end Go.Am

