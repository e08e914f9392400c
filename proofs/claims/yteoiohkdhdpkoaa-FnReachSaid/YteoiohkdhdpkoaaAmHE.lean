/- The abstract machine: an array of very values as plain rows; a variable's array as plain data at a step; two inner arrays taken out. -/
import Derived.Test.YteoiohkdhdpkoaaAmHD
import Derived.Test.YteoiohkdhdpkoaaAmF
namespace Go.Am
open Go

section
variable {w0 w : World} {A : Nat → Prop} {locs : List (Option Loc)} {β : Nat → Option Loc} {σ : S} {a : Act}
/-- An array's rows, said otherwise. -/
theorem Sim.arrSet (h : Sim w0 A locs β σ a w) {aid : Nat} {ty : TypeId} {sz : Nat} {rows rows' : List (List D)} (hm : σ.m aid = some (.arr ty sz rows)) (hl : rows'.length = rows.length) (hsz : ∀ r ∈ rows', r.length = sz)
    (hr : ∀ (j : Nat) (d' : D), rows'.flatten[j]? = some d' → ∃ d, rows.flatten[j]? = some d ∧ ∀ v, Rep w (Bl A β σ.m) v d → Rep w (Bl A β σ.m) v d') :
    Sim w0 A locs β { σ with m := upd σ.m aid (some (.arr ty sz rows')) } a w := by
  have back : ∀ id o, upd σ.m aid (some (.arr ty sz rows')) id = some o → o.live = true → ∃ o', σ.m id = some o' ∧ o'.live = true := fun id o ho hl => by
    by_cases e : id = aid
    · subst e; exact ⟨_, hm, rfl⟩
    · rw [upd_other _ _ e] at ho; exact ⟨o, ho, hl⟩
  have hB : ∀ b, Bl A β (upd σ.m aid (some (.arr ty sz rows'))) b → Bl A β σ.m b := fun b hb => by
    rcases hb with hA | ⟨id, o, l, h1, h2, h3, h4⟩
    · exact .inl hA
    · obtain ⟨o', q1, q2⟩ := back id o h1 h2
      exact .inr ⟨id, o', l, q1, q2, h3, h4⟩
  have k : Keeps w (Bl A β σ.m) w (Bl A β (upd σ.m aid (some (.arr ty sz rows')))) := ⟨Nat.le_refl _, fun _ _ _ => rfl, fun b _ hn hb => hn (hB b hb)⟩
  have g : Goes β σ.m β (upd σ.m aid (some (.arr ty sz rows'))) := fun id o ho => by
    by_cases e : id = aid
    · subst e
      rw [hm] at ho
      injection ho with ho
      subst ho
      exact ⟨_, upd_same _ _ _, .inr ⟨_, _, rfl, by rw [hl]; exact Nat.le_refl _⟩, fun _ => rfl⟩
    · exact ⟨o, by rw [upd_other _ _ e]; exact ho, o.sub_refl, fun _ => rfl⟩
  refine h.move k g (fun _ _ _ => rfl) (fun id o ho hlv => ?_) (fun id id' o o' l l' b h1 h2 h3 h4 h5 h6 h7 h8 => ?_) (fun id o l h1 h2 h3 => ?_) h.fr
  · by_cases e : id = aid
    · subst e
      rw [upd_same] at ho
      injection ho with ho
      subst ho
      refine .inr ?_
      obtain ⟨p1, p2, p3⟩ := h.ob id _ hm
      refine ⟨hsz, p2, ?_⟩
      rcases p3 with ⟨e1, e2⟩ | ⟨l, cs, e1, e2, e3, e4, e5, e6⟩
      · refine .inl ⟨e1, List.eq_nil_of_length_eq_zero ?_⟩
        rw [hl, e2]; rfl
      · refine .inr ⟨l, cs, e1, e2, e3, by rw [hl]; exact e4, e5, fun j d' hj => ?_⟩
        obtain ⟨d, hd, hv⟩ := hr j d' hj
        exact Rep.keep k (hv _ (e6 j d hd))
    · rw [upd_other _ _ e] at ho
      exact .inl ⟨ho, fun _ _ _ _ => rfl⟩
  · obtain ⟨p, p1, p2⟩ := back id o h1 h2
    obtain ⟨p', p1', p2'⟩ := back id' o' h4 h5
    exact h.inj id id' p p' l l' b p1 p2 h3 p1' p2' h6 h7 h8
  · obtain ⟨p, p1, p2⟩ := back id o h1 h2
    exact h.new id p l p1 p2 h3
end

/-- Rows of very values are what an object tells of them. -/
def PlainRows (I : World → (Nat → Prop) → Prop) (rows rows' : List (List D)) : Prop := rows'.length = rows.length ∧ ∀ (i : Nat) (r' : List D), rows'[i]? = some r' → ∃ r, rows[i]? = some r ∧ PlainAll I r r'

section
variable {t : Nat → AV} {m : Nat → Option O} {ep n : Nat} {pm : List Nat} {G : S → Prop}
/-- An array whose cells are very values: the object that tells of them is given up, and they are plain data. -/
theorem gx_plainArr (hC : Cv G) {aid id : Nat} {ty : TypeId} {sz : Nat} {rows rows' : List (List D)} {I : World → (Nat → Prop) → Prop} (hb : m aid = some (.arr ty sz rows)) (hm : m id = some (.ext I)) (hI : PlainRows I rows rows')
    (h : forceM m [(id, .gone), (aid, .arr ty sz rows')] fun m' => G ⟨t, m', ep, n, pm⟩) : G ⟨t, m, ep, n, pm⟩ := by
  rw [forceM_eq] at h
  have hne : aid ≠ id := fun e => by rw [e, hm] at hb; cases hb
  refine hC Unit ⟨t, m, ep, n, pm⟩ (fun _ => ⟨t, upm m [(id, .gone), (aid, .arr ty sz rows')], ep, n, pm⟩) ?_ (fun _ => h)
  intro w0 A locs β a w hS
  have hob : ExtAt I w (foot (β id)) := hS.ob id _ hm
  have hk : Sim w0 A locs β ⟨t, upd m id (some .gone), ep, n, pm⟩ a w := hS.kill hm
  have hb' : (upd m id (some .gone)) aid = some (.arr ty sz rows) := by rw [upd_other _ _ hne]; exact hb
  obtain ⟨hsz, _, _⟩ := hS.ob aid _ hb
  obtain ⟨hl, hat⟩ := hI
  have hsz' : ∀ r ∈ rows', r.length = sz := fun r hr => by
    obtain ⟨i, hi⟩ := List.getElem?_of_mem hr
    obtain ⟨r0, h1, h2⟩ := hat i r hi
    rw [(plainAll_at h2).1]
    exact hsz r0 (List.mem_of_getElem? h1)
  refine ⟨(), β, hk.arrSet hb' hl hsz' fun j d' hj => ?_⟩
  obtain ⟨i, q, r, ej, hq, hr, hrq⟩ := flat_inv _ hsz' j d' hj
  obtain ⟨r0, h1, h2⟩ := hat i r hr
  obtain ⟨d, hd, hp⟩ := (plainAll_at h2).2 q d' hrq
  refine ⟨d, by rw [ej]; exact flat_at _ hsz i _ h1 q d hd, fun v hv => ?_⟩
  rcases hp with rfl | ⟨u, rfl, hu⟩
  · exact hv
  · have := rep_oth hv
    rw [this]
    refine hu w (foot (β id)) _ hob fun b hbF hB => ?_
    rcases hB with hA | ⟨i, o, l, q1, q2, q3, q4⟩
    · obtain ⟨l, p1, p2⟩ := hbF
      exact (hS.new id _ l hm rfl p1 b p2).2.1 hA
    · have q1 : upd m id (some .gone) i = some o := q1
      by_cases e : i = id
      · subst e
        rw [upd_same] at q1
        injection q1 with q1
        subst q1
        cases q2
      · rw [upd_other _ _ e] at q1
        obtain ⟨l2, p1, p2⟩ := hbF
        exact e (hS.inj i id o _ l l2 b q1 q2 q3 hm rfl p1 q4 p2)
/-- An array in a variable's cell becomes plain data. -/
theorem gx_freezeBox (hC : Cv G) {bid id j len ty' sz : Nat} {ty : TypeId} {cells : List AV} {rows rows2 : List (List D)} (hb : m bid = some (.box ty cells)) (hj : cells[j]? = some (.own id 0 len)) (hid : m id = some (.arr ty' sz rows)) (hr : (rows.drop 0).take len = rows2)
    (h : forceM m [(id, .gone), (bid, .box ty (cells.set j (.imm (.list rows2))))] fun m' => G ⟨t, m', ep, n, pm⟩) : G ⟨t, m, ep, n, pm⟩ := by
  rw [forceM_eq] at h
  subst hr
  exact hC Unit ⟨t, m, ep, n, pm⟩ (fun _ => ⟨t, upm m [(id, .gone), (bid, .box ty (cells.set j (.imm (.list ((rows.drop 0).take len)))))], ep, n, pm⟩)
    (fun w0 A locs β a w hS => by
      obtain ⟨β', h'⟩ := ref_freezeBox hb hj hid w0 A locs β a w hS
      exact ⟨(), β', h'⟩) (fun _ => h)
end

section
variable {P : Program} {T : TypeId → Option TI} {t : Nat → AV} {m : Nat → Option O} {ep n : Nat} {pm : List Nat} {k : S → Prop}
variable {ops : Array Oper} {rest : List Oper} {dst : Option Nat} {op : Op} {oty : TypeId} {pos : String} {after : Array Edge}
theorem go_plainArr (hT : TOk P T) {aid id : Nat} {ty : TypeId} {sz : Nat} {rows rows' : List (List D)} {I : World → (Nat → Prop) → Prop} (hb : m aid = some (.arr ty sz rows)) (hm : m id = some (.ext I)) (hI : PlainRows I rows rows')
    (h : forceM m [(id, .gone), (aid, .arr ty sz rows')] fun m' => amOps P T ops (⟨dst, op, oty, pos, after, none⟩ :: rest) ⟨t, m', ep, n, pm⟩ k) :
    amOps P T ops (⟨dst, op, oty, pos, after, none⟩ :: rest) ⟨t, m, ep, n, pm⟩ k := gx_plainArr (cv_ops hT rfl) hb hm hI h
theorem go_freezeBox (hT : TOk P T) {bid id j len ty' sz : Nat} {ty : TypeId} {cells : List AV} {rows rows2 : List (List D)} (hb : m bid = some (.box ty cells)) (hj : cells[j]? = some (.own id 0 len)) (hid : m id = some (.arr ty' sz rows)) (hr : (rows.drop 0).take len = rows2)
    (h : forceM m [(id, .gone), (bid, .box ty (cells.set j (.imm (.list rows2))))] fun m' => amOps P T ops (⟨dst, op, oty, pos, after, none⟩ :: rest) ⟨t, m', ep, n, pm⟩ k) :
    amOps P T ops (⟨dst, op, oty, pos, after, none⟩ :: rest) ⟨t, m, ep, n, pm⟩ k := gx_freezeBox (cv_ops hT rfl) hb hj hid hr h
theorem ret_freezeBox {Q : Exit → S → Prop} {bid id j len ty' sz : Nat} {ty : TypeId} {cells : List AV} {rows rows2 : List (List D)} (hb : m bid = some (.box ty cells)) (hj : cells[j]? = some (.own id 0 len)) (hid : m id = some (.arr ty' sz rows)) (hr : (rows.drop 0).take len = rows2)
    (h : forceM m [(id, .gone), (bid, .box ty (cells.set j (.imm (.list rows2))))] fun m' => amC P T .ret Q ⟨t, m', ep, n, pm⟩) :
    amC P T .ret Q ⟨t, m, ep, n, pm⟩ := gx_freezeBox cv_ret hb hj hid hr h
end

/-- All inner arrays but two. -/
def InnO2 (ty sz : Nat) (xs : List (Value × List (List D))) (i k : Nat) : World → (Nat → Prop) → Prop := fun w F =>
  ∃ G : Nat → Nat → Prop, (∀ j b, G j b → F b) ∧ (∀ i j b, G i b → G j b → i = j) ∧ ∀ (j : Nat) (x : Value × List (List D)), j ≠ i → j ≠ k → xs[j]? = some x → FlatI ty sz x.2 x.1 w (G j)
section
variable {ty sz : Nat} {xs : List (Value × List (List D))} {w : World} {F : Nat → Prop} {i k : Nat} {x : Value × List (List D)}
theorem InnO2.ext (h : InnO2 ty sz xs i k w F) : ExtAt (InnO2 ty sz xs i k) w F := by
  obtain ⟨G, h1, h2, h3⟩ := h
  exact fun w' hb hs => ⟨G, h1, h2, fun j x hi hk hx => (h3 j x hi hk hx).ext w' (fun b hG => hb b (h1 j b hG)) hs⟩
theorem InnO.take (h : InnO ty sz xs k w F) (hik : i ≠ k) (hx : xs[i]? = some x) : ∃ U R : Nat → Prop, (∀ b, U b ∨ R b → F b) ∧ (∀ b, ¬ (U b ∧ R b)) ∧ FlatI ty sz x.2 x.1 w U ∧ InnO2 ty sz xs i k w R := by
  obtain ⟨G, h1, h2, h3⟩ := h
  refine ⟨G i, fun b => ∃ j, j ≠ i ∧ G j b, fun b hb => ?_, fun b hb => ?_, h3 i x hik hx, fun j b => j ≠ i ∧ G j b, fun j b hb => ⟨j, hb⟩, fun i j b hi hj => h2 i j b hi.2 hj.2, fun j y hj hk hy => (h3 j y hk hy).mono fun b hb => ⟨hj, hb⟩⟩
  · rcases hb with hb | ⟨j, _, hb⟩
    · exact h1 i b hb
    · exact h1 j b hb
  · obtain ⟨hb, j, hj, hb2⟩ := hb
    exact hj (h2 j i b hb2 hb)
theorem inn_take (hx : xs[k]? = some x) : ∀ w F, ExtAt (InnI ty sz xs) w F → ∃ (_ : Unit) (F0 F1 : Nat → Prop), (∀ b, F0 b ∨ F1 b → F b) ∧ (∀ b, ¬ (F0 b ∧ F1 b)) ∧ ExtAt (FlatI ty sz x.2 x.1) w F0 ∧ ExtAt (InnO ty sz xs k) w F1 := fun w F h => by
  obtain ⟨U, R, h1, h2, h3, h4⟩ := h.now.take hx
  exact ⟨(), U, R, h1, h2, h3.ext, h4.ext⟩
theorem inn_take2 (hik : i ≠ k) (hx : xs[i]? = some x) : ∀ w F, ExtAt (InnO ty sz xs k) w F → ∃ (_ : Unit) (F0 F1 : Nat → Prop), (∀ b, F0 b ∨ F1 b → F b) ∧ (∀ b, ¬ (F0 b ∧ F1 b)) ∧ ExtAt (FlatI ty sz x.2 x.1) w F0 ∧ ExtAt (InnO2 ty sz xs i k) w F1 := fun w F h => by
  obtain ⟨U, R, h1, h2, h3, h4⟩ := h.now.take hik hx
  exact ⟨(), U, R, h1, h2, h3.ext, h4.ext⟩
end
end Go.Am

