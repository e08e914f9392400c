/- The abstract machine: parts of values and of variables turned into very values; values made of very values. -/
import Derived.Test.YteoiohkdhdpkoaaAmHP
namespace Go.Am
open Go

section
variable {w0 w : World} {A : Nat → Prop} {locs : List (Option Loc)} {β : Nat → Option Loc} {σ : S} {a : Act}

/-- A variable's cells, said otherwise. -/
theorem Sim.boxSet (h : Sim w0 A locs β σ a w) {bid : Nat} {ty : TypeId} {cells : List AV} (hm : σ.m bid = some (.box ty cells)) :
    ∃ cs : Array Value, (∀ (j : Nat) (c : AV), cells[j]? = some c → AvRep0 w (Bl A β σ.m) β σ.m c (cs.getD j Go.undef)) ∧
      ∀ cells' : List AV, cells'.length = cells.length → (∀ (j : Nat) (c : AV), cells'[j]? = some c → AvRep0 w (Bl A β σ.m) β σ.m c (cs.getD j Go.undef)) →
        Sim w0 A locs β { σ with m := upd σ.m bid (some (.box ty cells')) } a w := by
  obtain ⟨l, cs, e1, e2, e3, e4⟩ := h.ob bid _ hm
  refine ⟨cs, e4, fun cells' hlen hc => ?_⟩
  have back : ∀ id o, upd σ.m bid (some (.box ty cells')) id = some o → o.live = true → ∃ o', σ.m id = some o' ∧ o'.live = true := fun id o ho hl => by
    by_cases e : id = bid
    · subst e; exact ⟨_, hm, rfl⟩
    · rw [upd_other _ _ e] at ho; exact ⟨o, ho, hl⟩
  have fwd : ∀ id o, σ.m id = some o → o.live = true → ∃ o', upd σ.m bid (some (.box ty cells')) id = some o' ∧ o'.live = true := fun id o ho hl => by
    by_cases e : id = bid
    · subst e; exact ⟨_, upd_same _ _ _, rfl⟩
    · exact ⟨o, by rw [upd_other _ _ e]; exact ho, hl⟩
  have hB : ∀ b, Bl A β (upd σ.m bid (some (.box ty cells'))) b → Bl A β σ.m b := fun b hb => by
    rcases hb with hA | ⟨id, o, l, h1, h2, h3, h4⟩
    · exact .inl hA
    · obtain ⟨o', q1, q2⟩ := back id o h1 h2
      exact .inr ⟨id, o', l, q1, q2, h3, h4⟩
  have k : Keeps w (Bl A β σ.m) w (Bl A β (upd σ.m bid (some (.box ty cells')))) := ⟨Nat.le_refl _, fun _ _ _ => rfl, fun b _ hn hb => hn (hB b hb)⟩
  have g : Goes β σ.m β (upd σ.m bid (some (.box ty cells'))) := fun id o ho => by
    by_cases e : id = bid
    · subst e
      rw [hm] at ho
      injection ho with ho
      subst ho
      exact ⟨_, upd_same _ _ _, .inr ⟨_, _, rfl⟩, fun _ => rfl⟩
    · exact ⟨o, by rw [upd_other _ _ e]; exact ho, o.sub_refl, fun _ => rfl⟩
  refine h.move k g (fun _ _ _ => rfl) (fun id o ho hl => ?_) (fun id id' o o' l l' b h1 h2 h3 h4 h5 h6 h7 h8 => ?_) (fun id o l h1 h2 h3 => ?_) h.fr
  · by_cases e : id = bid
    · subst e
      rw [upd_same] at ho
      injection ho with ho
      subst ho
      exact .inr ⟨l, cs, e1, e2, by rw [hlen]; exact e3, fun j c hj => (hc j c hj).keep k g⟩
    · rw [upd_other _ _ e] at ho
      exact .inl ⟨ho, fun _ _ _ _ => rfl⟩
  · obtain ⟨p, p1, p2⟩ := back id o h1 h2
    obtain ⟨p', p1', p2'⟩ := back id' o' h4 h5
    exact h.inj id id' p p' l l' b p1 p2 h3 p1' p2' h6 h7 h8
  · obtain ⟨p, p1, p2⟩ := back id o h1 h2
    exact h.new id p l p1 p2 h3
end

section
variable {t : Nat → AV} {m : Nat → Option O} {ep n : Nat} {pm : List Nat} {G : S → Prop}

/-- What an object tells of the world's values alone. -/
theorem gx_fact (hC : Cv G) {id : Nat} {I : World → (Nat → Prop) → Prop} {p : Prop} (hm : m id = some (.ext I)) (hI : ∀ w F, ExtAt I w F → p) (h : p → G ⟨t, m, ep, n, pm⟩) : G ⟨t, m, ep, n, pm⟩ := by
  refine hC { _u : Unit // p } ⟨t, m, ep, n, pm⟩ (fun _ => ⟨t, m, ep, n, pm⟩) ?_ (fun x => h x.2)
  intro w0 A locs β a w hS
  exact ⟨⟨(), hI w _ (hS.ob id _ hm)⟩, β, hS⟩

/-- An array of our own that is a part of a value becomes a very value, and its blocks. -/
theorem gx_mixCell (hC : Cv G) {s j id id' len ty sz : Nat} {l : List AV} {rows : List (List D)} (hs : t s = .mix l) (hj : l[j]? = some (.own id 0 len)) (hm : m id = some (.arr ty sz rows)) (hl : len = rows.length) (hg : rows.all (fun r => r.all D.gr) = true) (hf : m id' = none)
    (h : ∀ (oad : Option Addr) (cap : Nat), forceM m [(id, .gone), (id', .ext (FlatI ty sz rows (.slice oad rows.length cap)))] fun m' => G ⟨putT t (some s) (.mix (l.set j (.imm (.other (.slice oad rows.length cap))))), m', ep, n, pm⟩) :
    G ⟨t, m, ep, n, pm⟩ := by
  simp only [forceM_eq] at h
  refine hC { v : Value // ∃ (oad : Option Addr) (cap : Nat), v = .slice oad rows.length cap } ⟨t, m, ep, n, pm⟩ (fun v => ⟨putT t (some s) (.mix (l.set j (.imm (.other v.1)))), upm m [(id, .gone), (id', .ext (FlatI ty sz rows v.1))], ep, n, pm⟩) ?_ (fun ⟨v, oad, cap, e⟩ => by subst e; exact h oad cap)
  intro w0 A locs β a w hS
  have hv := hS.slot s
  rw [show (⟨t, m, ep, n, pm⟩ : S).t s = .mix l from hs] at hv
  obtain ⟨vs, e1, e2, e3⟩ := hv
  have hfl := arr_flat hS hm hl hg (e3 j _ hj)
  obtain ⟨β', h1, _⟩ := hS.exts (w' := w) (ids := [id]) [(id', FlatI ty sz rows (vs.getD j Go.undef), OfIds β m [id])] (by simp) (fun x hx => by rw [List.mem_singleton] at hx; subst hx; exact hf) (fun i hi => by rw [List.mem_singleton] at hi; subst hi; exact ⟨_, hm⟩) (StepFr.refl _ _)
    (fun x hx => by rw [List.mem_singleton] at hx; subst hx; exact ⟨hfl.ext, fun b hb => ⟨OfIds.lt hS hb, .inr hb⟩⟩) (fun x hx y hy b _ _ => by rw [List.mem_singleton] at hx hy; subst hx hy; rfl)
  have hv2 := h1.slot s
  change AvRep w _ β' _ (t s) _ at hv2
  rw [hs] at hv2
  obtain ⟨vs', q1, q2, q3⟩ := hv2
  rw [e1] at q1
  injection q1 with q1
  subst q1
  refine ⟨⟨vs.getD j Go.undef, ?_⟩, β', h1.slotAs (s := s) ?_⟩
  · rcases hfl.2.2 with ⟨f1, f2⟩ | ⟨b, base, tot, cs, ad, _, f2, _⟩
    · exact ⟨none, 0, by rw [f2, f1]; rfl⟩
    · exact ⟨some ad, tot, f2⟩
  · refine ⟨vs, e1, by simp [e2], fun i c hi => ?_⟩
    rw [List.getElem?_set] at hi
    by_cases e : j = i
    · subst e
      rw [if_pos rfl] at hi
      split at hi
      · injection hi with hi
        subst hi
        exact .other _
      · cases hi
    · rw [if_neg e] at hi
      exact q3 i c hi

/-- The same in a variable. -/
theorem gx_boxCell (hC : Cv G) {bid j id id' len ty sz : Nat} {bt : TypeId} {cells : List AV} {rows : List (List D)} (hb : m bid = some (.box bt cells)) (hj : cells[j]? = some (.own id 0 len)) (hm : m id = some (.arr ty sz rows)) (hl : len = rows.length) (hg : rows.all (fun r => r.all D.gr) = true) (hf : m id' = none)
    (h : ∀ (oad : Option Addr) (cap : Nat), forceM m [(bid, .box bt (cells.set j (.imm (.other (.slice oad rows.length cap))))), (id, .gone), (id', .ext (FlatI ty sz rows (.slice oad rows.length cap)))] fun m' => G ⟨t, m', ep, n, pm⟩) :
    G ⟨t, m, ep, n, pm⟩ := by
  simp only [forceM_eq] at h
  have n1 : id ≠ bid := fun e => by subst e; rw [hb] at hm; cases hm
  have n2 : id' ≠ bid := fun e => by subst e; rw [hb] at hf; cases hf
  refine hC { v : Value // ∃ (oad : Option Addr) (cap : Nat), v = .slice oad rows.length cap } ⟨t, m, ep, n, pm⟩ (fun v => ⟨t, upm m [(bid, .box bt (cells.set j (.imm (.other v.1)))), (id, .gone), (id', .ext (FlatI ty sz rows v.1))], ep, n, pm⟩) ?_ (fun ⟨v, oad, cap, e⟩ => by subst e; exact h oad cap)
  intro w0 A locs β a w hS
  obtain ⟨cs, e3, e4⟩ := hS.boxSet (bid := bid) hb
  have hfl := arr_flat hS hm hl hg (e3 j _ hj)
  have hS1 := e4 (cells.set j (.imm (.other (cs.getD j Go.undef)))) (by simp) (fun i c hi => by
    rw [List.getElem?_set] at hi
    by_cases e : j = i
    · subst e
      rw [if_pos rfl] at hi
      split at hi
      · injection hi with hi
        subst hi
        exact .other _
      · cases hi
    · rw [if_neg e] at hi
      exact e3 i c hi)
  have hid : upd m bid (some (.box bt (cells.set j (.imm (.other (cs.getD j Go.undef)))))) id = some (.arr ty sz rows) := by rw [upd_other _ _ n1]; exact hm
  have hof : ∀ b, OfIds β m [id] b → OfIds β (upd m bid (some (.box bt (cells.set j (.imm (.other (cs.getD j Go.undef))))))) [id] b := fun b hb => by
    obtain ⟨i, hi, o, l, q1, q2, q3, q4⟩ := hb
    rw [List.mem_singleton] at hi
    subst hi
    exact ⟨i, by simp, o, l, by rw [upd_other _ _ n1]; exact q1, q2, q3, q4⟩
  obtain ⟨β', h1, _⟩ := hS1.exts (w' := w) (ids := [id]) [(id', FlatI ty sz rows (cs.getD j Go.undef), OfIds β m [id])] (by simp) (fun x hx => by rw [List.mem_singleton] at hx; subst hx; show upd m bid _ id' = none; rw [upd_other _ _ n2]; exact hf) (fun i hi => by rw [List.mem_singleton] at hi; subst hi; exact ⟨_, hid⟩) (StepFr.refl _ _)
    (fun x hx => by rw [List.mem_singleton] at hx; subst hx; exact ⟨hfl.ext, fun b hb => ⟨OfIds.lt hS hb, .inr (hof b hb)⟩⟩) (fun x hx y hy b _ _ => by rw [List.mem_singleton] at hx hy; subst hx hy; rfl)
  refine ⟨⟨cs.getD j Go.undef, ?_⟩, β', h1⟩
  rcases hfl.2.2 with ⟨f1, f2⟩ | ⟨b, base, tot, cs', ad, _, f2, _⟩
  · exact ⟨none, 0, by rw [f2, f1]; rfl⟩
  · exact ⟨some ad, tot, f2⟩
end

section
variable {P : Program} {T : TypeId → Option TI} {t : Nat → AV} {m : Nat → Option O} {ep n : Nat} {pm : List Nat} {k : S → Prop}
variable {ops : Array Oper} {rest : List Oper} {dst : Option Nat} {op : Op} {oty : TypeId} {pos : String} {after : Array Edge}

theorem go_fact (hT : TOk P T) {id : Nat} {I : World → (Nat → Prop) → Prop} {p : Prop} (hm : m id = some (.ext I)) (hI : ∀ w F, ExtAt I w F → p) (h : p → amOps P T ops (⟨dst, op, oty, pos, after, none⟩ :: rest) ⟨t, m, ep, n, pm⟩ k) : amOps P T ops (⟨dst, op, oty, pos, after, none⟩ :: rest) ⟨t, m, ep, n, pm⟩ k :=
  gx_fact (cv_ops hT rfl) hm hI h
theorem go_mixCell (hT : TOk P T) {s j id id' len ty sz : Nat} {l : List AV} {rows : List (List D)} (hs : t s = .mix l) (hj : l[j]? = some (.own id 0 len)) (hm : m id = some (.arr ty sz rows)) (hl : len = rows.length) (hg : rows.all (fun r => r.all D.gr) = true) (hf : m id' = none)
    (h : ∀ (oad : Option Addr) (cap : Nat), forceM m [(id, .gone), (id', .ext (FlatI ty sz rows (.slice oad rows.length cap)))] fun m' => amOps P T ops (⟨dst, op, oty, pos, after, none⟩ :: rest) ⟨putT t (some s) (.mix (l.set j (.imm (.other (.slice oad rows.length cap))))), m', ep, n, pm⟩ k) :
    amOps P T ops (⟨dst, op, oty, pos, after, none⟩ :: rest) ⟨t, m, ep, n, pm⟩ k :=
  gx_mixCell (cv_ops hT rfl) hs hj hm hl hg hf h
theorem ret_boxCell {Q : Exit → S → Prop} {bid j id id' len ty sz : Nat} {bt : TypeId} {cells : List AV} {rows : List (List D)} (hb : m bid = some (.box bt cells)) (hj : cells[j]? = some (.own id 0 len)) (hm : m id = some (.arr ty sz rows)) (hl : len = rows.length) (hg : rows.all (fun r => r.all D.gr) = true) (hf : m id' = none)
    (h : ∀ (oad : Option Addr) (cap : Nat), forceM m [(bid, .box bt (cells.set j (.imm (.other (.slice oad rows.length cap))))), (id, .gone), (id', .ext (FlatI ty sz rows (.slice oad rows.length cap)))] fun m' => amC P T .ret Q ⟨t, m', ep, n, pm⟩) :
    amC P T .ret Q ⟨t, m, ep, n, pm⟩ :=
  gx_boxCell cv_ret hb hj hm hl hg hf h
theorem ret_fact {Q : Exit → S → Prop} {id : Nat} {I : World → (Nat → Prop) → Prop} {p : Prop} (hm : m id = some (.ext I)) (hI : ∀ w F, ExtAt I w F → p) (h : p → amC P T .ret Q ⟨t, m, ep, n, pm⟩) : amC P T .ret Q ⟨t, m, ep, n, pm⟩ :=
  gx_fact cv_ret hm hI h
end

/-! Values made of very values. -/

/-- A struct's value as the data of its cells, each the very value. -/
def aggD : Value → D
  | .agg vs => .agg (vs.toList.map .other)
  | v => .other v

theorem rep_aggX {w : World} {B : Nat → Prop} {u : Value} {vs : List Value} (h : Rep w B u (.agg (vs.map .other))) : u = .agg vs.toArray := by
  generalize hd : D.agg (vs.map .other) = d at h
  cases h <;> first | (cases hd; done) | skip
  rename_i us ds hs hat
  injection hd with hd
  subst hd
  congr 1
  refine Array.ext (by simpa using hs) fun i h1 h2 => ?_
  have h3 : i < vs.length := by simpa using h2
  have := hat i (.other vs[i]) (by simp [h3])
  have := rep_oth this
  simpa [Array.getD, h1] using this

section
variable {σ : S}
/-- Closing with a struct of very values. -/
theorem close_agg0 {vs : List Value} {J : VI} (hI : ∀ w F, ExtAt (J (.agg vs.toArray)) w F) : CloseX σ [] (.imm (.agg (vs.map .other))) aggD J := by
  intro w0 A locs β a w u hS hu
  have hu := rep_aggX (show Rep w _ u (.agg (vs.map .other)) from hu)
  subst hu
  exact ⟨fun _ _ => .agg _ _ (by simp) fun j d hj => by
    rw [List.getElem?_map, Option.map_eq_some_iff] at hj
    obtain ⟨v, hv, rfl⟩ := hj
    have : (vs.toArray.getD j Go.undef) = v := by simp [Array.getD_eq_getD_getElem?, List.getElem?_toArray] at hv ⊢; simp [hv]
    rw [this]
    exact .other _, hI _ _⟩
theorem close_agg1 {id : Nat} {vs : List Value} {I : World → (Nat → Prop) → Prop} {J : VI} (hm : σ.m id = some (.ext I)) (hI : ∀ w F, ExtAt I w F → ExtAt (J (.agg vs.toArray)) w F) : CloseX σ [id] (.imm (.agg (vs.map .other))) aggD J := by
  intro w0 A locs β a w u hS hu
  obtain ⟨h1, _⟩ := close_agg0 (σ := σ) (vs := vs) (J := noI) (fun w F => noI_at _ w F) w0 A locs β a w u hS hu
  have hu := rep_aggX (show Rep w _ u (.agg (vs.map .other)) from hu)
  subst hu
  have hob : ExtAt I w (foot (β id)) := hS.ob id _ hm
  have e : (OfIds β σ.m [id]) = foot (β id) := by funext b; exact propext (OfIds.one hm rfl b)
  rw [e]
  exact ⟨h1, hI w _ hob⟩
theorem close_agg2 {id1 id2 : Nat} {vs : List Value} {I1 I2 : World → (Nat → Prop) → Prop} {J : VI} (hm1 : σ.m id1 = some (.ext I1)) (hm2 : σ.m id2 = some (.ext I2)) (hne : Nat.beq id1 id2 = false)
    (hI : ∀ w F1 F2, ExtAt I1 w F1 → ExtAt I2 w F2 → (∀ b, ¬ (F1 b ∧ F2 b)) → ExtAt (J (.agg vs.toArray)) w fun b => F1 b ∨ F2 b) : CloseX σ [id1, id2] (.imm (.agg (vs.map .other))) aggD J := by
  intro w0 A locs β a w u hS hu
  obtain ⟨h1, _⟩ := close_agg0 (σ := σ) (vs := vs) (J := noI) (fun w F => noI_at _ w F) w0 A locs β a w u hS hu
  have hu := rep_aggX (show Rep w _ u (.agg (vs.map .other)) from hu)
  subst hu
  have o1 : ExtAt I1 w (foot (β id1)) := hS.ob id1 _ hm1
  have o2 : ExtAt I2 w (foot (β id2)) := hS.ob id2 _ hm2
  have hn : id1 ≠ id2 := by
    intro e
    rw [e, Nat.beq_refl] at hne
    cases hne
  have hd : ∀ b, ¬ (foot (β id1) b ∧ foot (β id2) b) := fun b ⟨⟨l, a1, a2⟩, l2, b1, b2⟩ => hn (hS.inj id1 id2 _ _ l l2 b hm1 rfl a1 hm2 rfl b1 a2 b2)
  have e : (OfIds β σ.m [id1, id2]) = fun b => foot (β id1) b ∨ foot (β id2) b := by
    funext b
    apply propext
    constructor
    · rintro ⟨i, hi, o, l, q1, q2, q3, q4⟩
      simp only [List.mem_cons, List.not_mem_nil, or_false] at hi
      rcases hi with rfl | rfl
      · exact .inl ⟨l, q3, q4⟩
      · exact .inr ⟨l, q3, q4⟩
    · rintro (⟨l, q1, q2⟩ | ⟨l, q1, q2⟩)
      · exact ⟨id1, by simp, _, l, hm1, rfl, q1, q2⟩
      · exact ⟨id2, by simp, _, l, hm2, rfl, q1, q2⟩
  rw [e]
  exact ⟨h1, hI w _ _ o1 o2 hd⟩
end

/-- What an object tells of one array becomes an array of our own. -/
theorem Sim.owned {w0 w : World} {A : Nat → Prop} {locs : List (Option Loc)} {β : Nat → Option Loc} {a : Act} {t : Nat → AV} {m : Nat → Option O} {ep n : Nat} {pm : List Nat} (hS : Sim w0 A locs β ⟨t, m, ep, n, pm⟩ a w) {id id' ty sz : Nat} {rows : List (List D)} {v : Value} {I : World → (Nat → Prop) → Prop} (hm : m id = some (.ext I)) (hI : ∀ w F, I w F → FlatI ty sz rows v w F) (hf : m id' = none) :
    ∃ β', Sim w0 A locs β' ⟨t, upm m [(id, .gone), (id', .arr ty sz rows)], ep, n, pm⟩ a w ∧ AvRep0 w (Bl A β' (upm m [(id, .gone), (id', .arr ty sz rows)])) β' (upm m [(id, .gone), (id', .arr ty sz rows)]) (.own id' 0 rows.length) v := by
  have hob : ExtAt I w (foot (β id)) := hS.ob id _ hm
  obtain ⟨q1, q2, q3⟩ := hI _ _ hob.now
  have hex : ∃ ol : Option Loc, (∀ l, ol = some l → ∀ b, l.has b → foot (β id) b) ∧ ∀ (B' : Nat → Prop) (β' : Nat → Option Loc) (m' : Nat → Option O), β' id' = ol → m' id' = some (.arr ty sz rows) → ObRep w B' β' m' id' (.arr ty sz rows) ∧ AvRep0 w B' β' m' (.own id' 0 rows.length) v := by
    rcases q3 with ⟨rfl, rfl⟩ | ⟨b, base, tot, cs, ad, f1, rfl, f3, f4, f5, f6, f7, f8⟩
    · refine ⟨none, (fun l e => by cases e), fun B' β' m' e1 e2 => ⟨⟨q1, q2, .inl ⟨e1, rfl⟩⟩, ?_⟩⟩
      simp only [AvRep0, e2]
      exact ⟨by simp, .inl ⟨e1, trivial⟩⟩
    · refine ⟨some ⟨b, base, tot, none⟩, fun l e b' hb' => ?_, fun B' β' m' e1 e2 => ⟨⟨q1, q2, .inr ⟨_, cs, e1, f4, f5, f6, f7, fun j d hj => f8 j d hj _ _⟩⟩, ?_⟩⟩
      · injection e with e
        subst e
        have := Loc.has_none (l := ⟨b, base, tot, none⟩) rfl hb'
        change b = b' at this
        subst this
        exact f1
      · simp only [AvRep0, e2]
        exact ⟨by simp, .inr ⟨_, ad, e1, by simp, Nat.zero_le _, fun h0 => by simpa using f3 h0⟩⟩
  obtain ⟨ol, g1, g2⟩ := hex
  have hof : ∀ b, foot (β id) b → OfIds β m [id] b := fun b hb => (OfIds.one hm rfl b).2 hb
  obtain ⟨h1, h2, _⟩ := hS.regroups (w' := w) (ids := [id]) (N := [(id', .arr ty sz rows, ol)]) (by simp) (fun x hx => by rw [List.mem_singleton] at hx; subst hx; exact hf) (fun i hi => by rw [List.mem_singleton] at hi; subst hi; exact ⟨_, hm⟩) (StepFr.refl _ _)
    (fun x hx l e b hb => by rw [List.mem_singleton] at hx; subst hx; have := hof b (g1 l e b hb); exact ⟨OfIds.lt hS this, .inr this⟩) (fun x hx y hy _ _ _ _ _ _ _ => by rw [List.mem_singleton] at hx hy; subst hx hy; rfl)
    (fun B' β' m' _ _ hb x hx => by
      have hb2 := hb x hx
      rw [List.mem_singleton] at hx
      subst hx
      exact (g2 B' β' m' hb2.1 hb2.2).1)
  obtain ⟨e1, e2⟩ := h2 (id', .arr ty sz rows, ol) (by simp)
  exact ⟨_, h1, (g2 (Bl A (newsβ β [(id', .arr ty sz rows, ol)]) (upm m [(id, .gone), (id', .arr ty sz rows)])) _ _ e1 e2).2⟩

section
variable {t : Nat → AV} {m : Nat → Option O} {ep n : Nat} {pm : List Nat} {G : S → Prop}
/-- A part of a struct's value as an array of our own. -/
theorem gx_ownCell (hC : Cv G) {s j id id' ty sz : Nat} {ds : List D} {rows : List (List D)} {v : Value} {I : World → (Nat → Prop) → Prop} (hs : t s = .imm (.agg ds)) (hj : ds[j]? = some (.other v)) (hm : m id = some (.ext I)) (hI : ∀ w F, I w F → FlatI ty sz rows v w F) (hf : m id' = none)
    (h : forceM m [(id, .gone), (id', .arr ty sz rows)] fun m' => G ⟨putT t (some s) (.mix ((ds.map .imm).set j (.own id' 0 rows.length))), m', ep, n, pm⟩) :
    G ⟨t, m, ep, n, pm⟩ := by
  rw [forceM_eq] at h
  refine hC Unit ⟨t, m, ep, n, pm⟩ (fun _ => ⟨putT t (some s) (.mix ((ds.map .imm).set j (.own id' 0 rows.length))), upm m [(id, .gone), (id', .arr ty sz rows)], ep, n, pm⟩) ?_ (fun _ => h)
  intro w0 A locs β a w hS
  obtain ⟨β', h1, h2⟩ := hS.owned hm hI hf
  refine ⟨(), β', h1.slotAs (s := s) ?_⟩
  have hv := h1.slot s
  change AvRep w _ β' _ (t s) _ at hv
  rw [hs] at hv
  have hv : Rep w _ (a.tmps.getD s Go.undef) (.agg ds) := hv
  obtain ⟨vs, e1, e2, e3⟩ := rep_agg hv
  refine ⟨vs, e1, by simp [e2], fun i c hi => ?_⟩
  rw [List.getElem?_set] at hi
  by_cases e : j = i
  · subst e
    rw [if_pos rfl] at hi
    split at hi
    · injection hi with hi
      subst hi
      have := rep_oth (e3 j _ hj)
      rw [this]
      exact h2
    · cases hi
  · rw [if_neg e, List.getElem?_map, Option.map_eq_some_iff] at hi
    obtain ⟨d, hd, rfl⟩ := hi
    exact e3 i d hd
/-- A struct's value, all of whose parts are data. -/
theorem gx_mixAll (hC : Cv G) {s : Nat} {ds : List D} (hs : t s = .mix (ds.map .imm)) (h : G ⟨putT t (some s) (.imm (.agg ds)), m, ep, n, pm⟩) : G ⟨t, m, ep, n, pm⟩ := by
  refine hC Unit ⟨t, m, ep, n, pm⟩ (fun _ => ⟨putT t (some s) (.imm (.agg ds)), m, ep, n, pm⟩) ?_ (fun _ => h)
  intro w0 A locs β a w hS
  have hv := hS.slot s
  change AvRep w _ β _ (t s) _ at hv
  rw [hs] at hv
  obtain ⟨vs, e1, e2, e3⟩ := hv
  refine ⟨(), β, hS.slotAs (s := s) ?_⟩
  rw [e1]
  exact Rep.agg _ _ (by simpa using e2) fun j d hj => e3 j (.imm d) (by rw [List.getElem?_map, hj]; rfl)
end
section
variable {P : Program} {T : TypeId → Option TI} {t : Nat → AV} {m : Nat → Option O} {ep n : Nat} {pm : List Nat} {k : S → Prop}
variable {ops : Array Oper} {rest : List Oper} {dst : Option Nat} {op : Op} {oty : TypeId} {pos : String} {after : Array Edge}
theorem go_ownCell (hT : TOk P T) {s j id id' ty sz : Nat} {ds : List D} {rows : List (List D)} {v : Value} {I : World → (Nat → Prop) → Prop} (hs : t s = .imm (.agg ds)) (hj : ds[j]? = some (.other v)) (hm : m id = some (.ext I)) (hI : ∀ w F, I w F → FlatI ty sz rows v w F) (hf : m id' = none)
    (h : forceM m [(id, .gone), (id', .arr ty sz rows)] fun m' => amOps P T ops (⟨dst, op, oty, pos, after, none⟩ :: rest) ⟨putT t (some s) (.mix ((ds.map .imm).set j (.own id' 0 rows.length))), m', ep, n, pm⟩ k) :
    amOps P T ops (⟨dst, op, oty, pos, after, none⟩ :: rest) ⟨t, m, ep, n, pm⟩ k := gx_ownCell (cv_ops hT rfl) hs hj hm hI hf h
theorem go_mixAll (hT : TOk P T) {s : Nat} {ds : List D} (hs : t s = .mix (ds.map .imm)) (h : amOps P T ops (⟨dst, op, oty, pos, after, none⟩ :: rest) ⟨putT t (some s) (.imm (.agg ds)), m, ep, n, pm⟩ k) : amOps P T ops (⟨dst, op, oty, pos, after, none⟩ :: rest) ⟨t, m, ep, n, pm⟩ k := gx_mixAll (cv_ops hT rfl) hs h
end

/-- A struct's value that is looked at part by part. -/
def LookCells (σ : S) (ids : List Nat) : List AV → List D → Prop
  | [], [] => True
  | av :: avs, d :: ds => (∀ (w0 : World) (A : Nat → Prop) (locs : List (Option Loc)) (β : Nat → Option Loc) (a : Act) (w : World) (v : Value), Sim w0 A locs β σ a w → AvRep0 w (Bl A β σ.m) β σ.m av v → Rep w (fun b => Bl A β σ.m b ∧ ¬ OfIds β σ.m ids b) v d) ∧ LookCells σ ids avs ds
  | _, _ => False
theorem lookCells_at {σ : S} {ids : List Nat} : ∀ {avs : List AV} {ds : List D}, LookCells σ ids avs ds → avs.length = ds.length ∧ ∀ (i : Nat) (d : D), ds[i]? = some d → ∃ av, avs[i]? = some av ∧ ∀ (w0 : World) (A : Nat → Prop) (locs : List (Option Loc)) (β : Nat → Option Loc) (a : Act) (w : World) (v : Value), Sim w0 A locs β σ a w → AvRep0 w (Bl A β σ.m) β σ.m av v → Rep w (fun b => Bl A β σ.m b ∧ ¬ OfIds β σ.m ids b) v d
  | [], [], _ => ⟨rfl, fun i d h => by simp at h⟩
  | av :: avs, d0 :: ds, h => by
    obtain ⟨h1, h2⟩ := lookCells_at h.2
    refine ⟨by simp [h1], fun i d hi => ?_⟩
    cases i with
    | zero => simp at hi; subst hi; exact ⟨av, rfl, h.1⟩
    | succ i => obtain ⟨av', e1, e2⟩ := h2 i d (by simpa using hi); exact ⟨av', by simpa using e1, e2⟩
  | [], _ :: _, h => h.elim
  | _ :: _, [], h => h.elim
theorem look_mix {σ : S} {ids : List Nat} {l : List AV} {ds : List D} (h : LookCells σ ids l ds) : LookA σ ids (.mix l) (.agg ds) := by
  intro w0 A locs β a w v hS hv
  obtain ⟨vs, e1, e2, e3⟩ := hv
  obtain ⟨h1, h2⟩ := lookCells_at h
  subst e1
  refine .agg _ _ (by omega) fun j d hj => ?_
  obtain ⟨av, q1, q2⟩ := h2 j d hj
  exact q2 _ _ _ _ _ _ _ hS (e3 j av q1)
theorem look_agg {σ : S} {ids : List Nat} {es ds : List D} (h : LookCells σ ids (es.map .imm) ds) : LookA σ ids (.imm (.agg es)) (.agg ds) := by
  intro w0 A locs β a w v hS hv
  have hv : Rep w _ v (.agg es) := hv
  obtain ⟨vs, e1, e2, e3⟩ := rep_agg hv
  obtain ⟨h1, h2⟩ := lookCells_at h
  subst e1
  refine .agg _ _ (by simp at h1; omega) fun j d hj => ?_
  obtain ⟨av, q1, q2⟩ := h2 j d hj
  rw [List.getElem?_map, Option.map_eq_some_iff] at q1
  obtain ⟨e, q1, rfl⟩ := q1
  exact q2 _ _ _ _ _ _ _ hS (e3 j e q1)
/-- One cell by what is told of it as an argument. -/
theorem cell_imm {σ : S} {ids : List Nat} {d d' : D} (h : LookA σ ids (.imm d) d') : ∀ (w0 : World) (A : Nat → Prop) (locs : List (Option Loc)) (β : Nat → Option Loc) (a : Act) (w : World) (v : Value), Sim w0 A locs β σ a w → AvRep0 w (Bl A β σ.m) β σ.m (.imm d) v → Rep w (fun b => Bl A β σ.m b ∧ ¬ OfIds β σ.m ids b) v d' := fun _ _ _ _ _ _ _ hS hv => h _ _ _ _ _ _ _ hS hv
theorem cell_own {σ : S} {ids : List Nat} {id off len : Nat} {d' : D} (h : LookA σ ids (.own id off len) d') : ∀ (w0 : World) (A : Nat → Prop) (locs : List (Option Loc)) (β : Nat → Option Loc) (a : Act) (w : World) (v : Value), Sim w0 A locs β σ a w → AvRep0 w (Bl A β σ.m) β σ.m (.own id off len) v → Rep w (fun b => Bl A β σ.m b ∧ ¬ OfIds β σ.m ids b) v d' := fun _ _ _ _ _ _ _ hS hv => h _ _ _ _ _ _ _ hS hv
end Go.Am

