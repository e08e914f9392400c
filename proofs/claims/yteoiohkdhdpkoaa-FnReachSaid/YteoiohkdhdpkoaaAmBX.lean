/- The abstract machine: objects that are told by their blocks are given up and made anew; a value that is read may become an array of our own. -/
import Derived.Test.YteoiohkdhdpkoaaAmBA
namespace Go.Am
open Go

abbrev VI := Value → World → (Nat → Prop) → Prop
/-- The names in 'ids' are given up. -/
def goneM (m : Nat → Option O) (ids : List Nat) : Nat → Option O := fun i => if i ∈ ids then some .gone else m i
theorem goneM_in {m : Nat → Option O} {ids : List Nat} {i : Nat} (h : i ∈ ids) : goneM m ids i = some .gone := if_pos h
theorem goneM_out {m : Nat → Option O} {ids : List Nat} {i : Nat} (h : i ∉ ids) : goneM m ids i = m i := if_neg h

section
variable {w0 w : World} {A : Nat → Prop} {locs : List (Option Loc)} {β : Nat → Option Loc} {σ : S} {a : Act}

/-- A block belongs to one of these objects. -/
def OfIds (β : Nat → Option Loc) (m : Nat → Option O) (ids : List Nat) (b : Nat) : Prop := ∃ id ∈ ids, ∃ o l, m id = some o ∧ o.live = true ∧ β id = some l ∧ l.has b

theorem Fr.regroup (h : Sim w0 A locs β σ a w) {w' : World} {ids : List Nat} (hsz : w.heap.size ≤ w'.heap.size) (hos : w'.os = w.os) (htp : w'.tape = w.tape) (hout : w'.output = w.output) (hdr : w.drawn ≤ w'.drawn)
    (hw : ∀ b, b < w.heap.size → ¬ OfIds β σ.m ids b → w'.heap[b]? = w.heap[b]?) : Fr w0 locs w' := by
  refine ⟨hos.trans h.fr.os, htp.trans h.fr.tape, hout.trans h.fr.output, Nat.le_trans h.fr.size hsz, fun b hb hl => ?_, h.fr.tb, Nat.le_trans h.fr.drawn hdr⟩
  refine (hw b (Nat.lt_of_lt_of_le hb h.fr.size) ?_).trans (h.fr.blk b hb hl)
  rintro ⟨id, _, o, l, h1, h2, h3, h4⟩
  rcases (h.new id o l h1 h2 h3 b h4).2.2 with h5 | ⟨l0, h5, h6⟩
  · omega
  · exact hl l0 h5 h6

/-- Objects are given up, and what they held is free to change. -/
theorem Sim.lose (h : Sim w0 A locs β σ a w) {w' : World} {ids : List Nat} (hids : ∀ id ∈ ids, ∃ o, σ.m id = some o) (hsz : w.heap.size ≤ w'.heap.size) (hos : w'.os = w.os) (htp : w'.tape = w.tape) (hout : w'.output = w.output) (hdr : w.drawn ≤ w'.drawn)
    (hw : ∀ b, b < w.heap.size → ¬ OfIds β σ.m ids b → w'.heap[b]? = w.heap[b]?) : Sim w0 A locs β { σ with m := goneM σ.m ids } a w' := by
  have hlive : ∀ i o, goneM σ.m ids i = some o → o.live = true → i ∉ ids ∧ σ.m i = some o := fun i o hi hl => by
    by_cases e : i ∈ ids
    · rw [goneM_in e] at hi; injection hi with hi; subst hi; cases hl
    · rw [goneM_out e] at hi; exact ⟨e, hi⟩
  refine h.move ⟨hsz, fun b hb hB => hw b hb ?_, fun b _ hB hB' => hB ?_⟩ (fun id o ho => ?_) (fun _ _ _ => rfl) (fun id o hm hl => ?_) ?_ ?_ (Fr.regroup h hsz hos htp hout hdr hw)
  · rintro ⟨id, _, o, l, h1, h2, h3, h4⟩
    exact hB (.inr ⟨id, o, l, h1, h2, h3, h4⟩)
  · rcases hB' with hA | ⟨i, o, l, h1, h2, h3, h4⟩
    · exact .inl hA
    · exact .inr ⟨i, o, l, (hlive i o h1 h2).2, h2, h3, h4⟩
  · by_cases e : id ∈ ids
    · exact ⟨.gone, goneM_in e, o.sub_gone, fun hl => by cases hl⟩
    · exact ⟨o, by rw [goneM_out e]; exact ho, o.sub_refl, fun _ => rfl⟩
  · obtain ⟨hn, hm'⟩ := hlive id o hm hl
    refine .inl ⟨hm', fun l hβ b hb => hw b (h.new id o l hm' hl hβ b hb).1 ?_⟩
    rintro ⟨id2, hin, o2, l2, h1, h2, h3, h4⟩
    exact hn (h.inj id id2 o o2 l l2 b hm' hl hβ h1 h2 h3 hb h4 ▸ hin)
  · intro id id' o o' l l' b h1 h2 h3 h4 h5 h6
    exact h.inj id id' o o' l l' b (hlive id o h1 h2).2 h2 h3 (hlive id' o' h4 h5).2 h5 h6
  · intro id o l h1 h2 h3 b hb
    obtain ⟨n1, n2, n3⟩ := h.new id o l (hlive id o h1 h2).2 h2 h3 b hb
    exact ⟨Nat.lt_of_lt_of_le n1 hsz, n2, n3⟩

/-- Objects are given up; a new one lies in their blocks and in new ones. -/
theorem Sim.regroup (h : Sim w0 A locs β σ a w) {w' : World} {ids : List Nat} {id' : Nat} {o' : O} {l' : Loc} (hid : σ.m id' = none) (hids : ∀ id ∈ ids, ∃ o, σ.m id = some o)
    (hsz : w.heap.size ≤ w'.heap.size) (hos : w'.os = w.os) (htp : w'.tape = w.tape) (hout : w'.output = w.output) (hdr : w.drawn ≤ w'.drawn)
    (hw : ∀ b, b < w.heap.size → ¬ OfIds β σ.m ids b → w'.heap[b]? = w.heap[b]?)
    (hl' : ∀ b, l'.has b → b < w'.heap.size ∧ (w.heap.size ≤ b ∨ OfIds β σ.m ids b))
    (ho : ∀ (B' : Nat → Prop) (β' : Nat → Option Loc) (m' : Nat → Option O), Keeps w (Bl A β σ.m) w' B' → Goes β σ.m β' m' → β' id' = some l' → m' id' = some o' → ObRep w' B' β' m' id' o') :
    Sim w0 A locs (upd β id' (some l')) { σ with m := upd (goneM σ.m ids) id' (some o') } a w' := by
  have hnid : id' ∉ ids := fun e => by obtain ⟨o, ho⟩ := hids id' e; rw [hid] at ho; cases ho
  have hcase : ∀ i o, upd (goneM σ.m ids) id' (some o') i = some o → o.live = true → (i = id' ∧ o = o') ∨ (i ≠ id' ∧ i ∉ ids ∧ σ.m i = some o) := fun i o hi hl => by
    by_cases e : i = id'
    · subst e; rw [upd_same] at hi; injection hi with hi; exact .inl ⟨rfl, hi.symm⟩
    · rw [upd_other _ _ e] at hi
      by_cases e2 : i ∈ ids
      · rw [goneM_in e2] at hi; injection hi with hi; subst hi; cases hl
      · rw [goneM_out e2] at hi; exact .inr ⟨e, e2, hi⟩
  have hβn : upd β id' (some l') id' = some l' := upd_same _ _ _
  have hβo : ∀ i, i ≠ id' → upd β id' (some l') i = β i := fun i hi => upd_other _ _ hi
  have hne : ∀ i o, σ.m i = some o → i ≠ id' := fun i o hi e => by subst e; rw [hid] at hi; cases hi
  have k : Keeps w (Bl A β σ.m) w' (Bl A (upd β id' (some l')) (upd (goneM σ.m ids) id' (some o'))) := by
    refine ⟨hsz, fun b hb hB => hw b hb ?_, fun b hb hB hB' => hB ?_⟩
    · rintro ⟨id, _, o, l, h1, h2, h3, h4⟩
      exact hB (.inr ⟨id, o, l, h1, h2, h3, h4⟩)
    · rcases hB' with hA | ⟨i, o, l, h1, h2, h3, h4⟩
      · exact .inl hA
      · rcases hcase i o h1 h2 with ⟨rfl, rfl⟩ | ⟨h5, h6, h7⟩
        · rw [hβn] at h3
          injection h3 with h3
          subst h3
          rcases (hl' b h4).2 with h8 | ⟨id, _, o2, l2, k1, k2, k3, k4⟩
          · omega
          · exact .inr ⟨id, o2, l2, k1, k2, k3, k4⟩
        · rw [hβo i h5] at h3
          exact .inr ⟨i, o, l, h7, h2, h3, h4⟩
  have g : Goes β σ.m (upd β id' (some l')) (upd (goneM σ.m ids) id' (some o')) := fun id o ho => by
    have h1 := hne id o ho
    by_cases e : id ∈ ids
    · exact ⟨.gone, by rw [upd_other _ _ h1]; exact goneM_in e, o.sub_gone, fun hl => by cases hl⟩
    · exact ⟨o, by rw [upd_other _ _ h1, goneM_out e]; exact ho, o.sub_refl, fun _ => hβo id h1⟩
  refine h.move k g (fun id o ho => hβo id (hne id o ho)) (fun id o hm hl => ?_) ?_ ?_ (Fr.regroup h hsz hos htp hout hdr hw)
  · rcases hcase id o hm hl with ⟨rfl, rfl⟩ | ⟨h5, h6, h7⟩
    · exact .inr (ho _ _ _ k g hβn (upd_same _ _ _))
    · refine .inl ⟨h7, fun l hβ b hb => hw b (h.new id o l h7 hl hβ b hb).1 ?_⟩
      rintro ⟨id2, hin, o2, l2, h1, h2, h3, h4⟩
      exact h6 (h.inj id id2 o o2 l l2 b h7 hl hβ h1 h2 h3 hb h4 ▸ hin)
  · intro id id2 o o2 l l2 b h1 h2 h3 h4 h5 h6 hb hb2
    have key : ∀ i oi li, i ≠ id' → i ∉ ids → σ.m i = some oi → oi.live = true → β i = some li → li.has b → l'.has b → False := fun i oi li q1 q2 q3 q4 q5 q6 q7 => by
      rcases (hl' b q7).2 with h8 | ⟨ix, hin, ox, lx, k1, k2, k3, k4⟩
      · have := (h.new i oi li q3 q4 q5 b q6).1
        omega
      · exact q2 (h.inj i ix oi ox li lx b q3 q4 q5 k1 k2 k3 q6 k4 ▸ hin)
    rcases hcase id o h1 h2 with ⟨rfl, rfl⟩ | ⟨h7, h8, h9⟩
    · rw [hβn] at h3; injection h3 with h3; subst h3
      rcases hcase id2 o2 h4 h5 with ⟨rfl, rfl⟩ | ⟨k7, k8, k9⟩
      · rfl
      · rw [hβo id2 k7] at h6
        exact (key id2 o2 l2 k7 k8 k9 h5 h6 hb2 hb).elim
    · rw [hβo id h7] at h3
      rcases hcase id2 o2 h4 h5 with ⟨rfl, rfl⟩ | ⟨k7, k8, k9⟩
      · rw [hβn] at h6; injection h6 with h6; subst h6
        exact (key id o l h7 h8 h9 h2 h3 hb hb2).elim
      · rw [hβo id2 k7] at h6
        exact h.inj id id2 o o2 l l2 b h9 h2 h3 k9 h5 h6 hb hb2
  · intro id o l h1 h2 h3 b hb
    rcases hcase id o h1 h2 with ⟨rfl, rfl⟩ | ⟨h7, h8, h9⟩
    · rw [hβn] at h3; injection h3 with h3; subst h3
      obtain ⟨q1, q2⟩ := hl' b hb
      refine ⟨q1, ?_⟩
      rcases q2 with q2 | ⟨ix, _, ox, lx, k1, k2, k3, k4⟩
      · refine ⟨fun hA => ?_, .inl (Nat.le_trans h.fr.size q2)⟩
        have := h.lt b hA
        omega
      · exact (h.new ix ox lx k1 k2 k3 b k4).2
    · rw [hβo id h7] at h3
      obtain ⟨n1, n2, n3⟩ := h.new id o l h9 h2 h3 b hb
      exact ⟨Nat.lt_of_lt_of_le n1 hsz, n2, n3⟩

end
/-- What is read through no block is read in every world. -/
theorem Rep.nomem {w : World} {B : Nat → Prop} (hB : ∀ b, b < w.heap.size → B b) {v : Value} {d : D} (h : Rep w B v d) : ∀ (w' : World) (B' : Nat → Prop), Rep w' B' v d := by
  intro w' B'
  induction h with
  | int k n => exact .int k n
  | bool b => exact .bool b
  | str s => exact .str s
  | other v => exact .other v
  | nil a c => exact .nil a c
  | list ad n c rows sz g hn hc hr hb hnB hs hcell hrep ih => exact absurd (hB _ hb) hnB
  | agg vs ds hs _ ih => exact .agg vs ds hs ih
  | fn f vs ds hs _ ih => exact .fn f vs ds hs ih
  | ptr ad ds g hb hnB hs hcell hrep ih => exact absurd (hB _ hb) hnB

/-- The place of a region: nowhere, or these blocks of this world. -/
def regLoc (F : Nat → Prop) (w : World) (ol : Option Loc) : Prop :=
  (ol = none ∧ ∀ b, ¬ F b) ∨ ∃ b0, F b0 ∧ ol = some ⟨b0, 0, 0, some (F, w)⟩

theorem regLoc_ex (F : Nat → Prop) (w : World) : ∃ ol, regLoc F w ol := by
  by_cases h : ∃ b, F b
  · obtain ⟨b, hb⟩ := h
    exact ⟨_, .inr ⟨b, hb, rfl⟩⟩
  · exact ⟨none, .inl ⟨rfl, fun b hb => h ⟨b, hb⟩⟩⟩

theorem regLoc.has {F : Nat → Prop} {w : World} {l : Loc} (h : regLoc F w (some l)) {b : Nat} : l.has b ↔ F b := by
  rcases h with ⟨h, _⟩ | ⟨b0, h0, h⟩
  · cases h
  · injection h with h
    subst h
    constructor
    · rintro (h1 | ⟨r, h1, h2⟩)
      · exact h1 ▸ h0
      · injection h1 with h1; subst h1; exact h2
    · exact fun hb => .inr ⟨_, rfl, hb⟩

theorem regLoc.rd {F : Nat → Prop} {w : World} {ol : Option Loc} (h : regLoc F w ol) {B : Nat → Prop} {v : Value} {d : D} (hr : Rep w B v d) (hB : ∀ b, b < w.heap.size → ¬ B b → F b) : RegRd ol v d := by
  rcases h with ⟨rfl, h⟩ | ⟨b0, h0, rfl⟩
  · exact hr.nomem fun b hb => Classical.byContradiction fun hn => h b (hB b hb hn)
  · exact ⟨_, rfl, hr.keep ⟨Nat.le_refl _, fun _ _ _ => rfl, fun b hb hn hF => hF (hB b hb hn)⟩⟩

theorem regLoc.ob {F : Nat → Prop} {w w' : World} {ol : Option Loc} (h : regLoc F w ol) {B : Nat → Prop} {β : Nat → Option Loc} {m : Nat → Option O} {id : Nat} {c : Bool} (hβ : β id = ol) (hsz : w.heap.size ≤ w'.heap.size) (hs : ∀ b, F b → w'.heap[b]? = w.heap[b]?) : ObRep w' B β m id (.reg c) := by
  rcases h with ⟨rfl, h⟩ | ⟨b0, h0, rfl⟩
  · exact .inl hβ
  · exact .inr ⟨_, _, hβ, rfl, hsz, fun b hb => .inl (hs b hb)⟩

/-- Memory outside U is as it was. -/
structure StepFr (w w' : World) (U : Nat → Prop) : Prop where
  os : w'.os = w.os
  tape : w'.tape = w.tape
  output : w'.output = w.output
  size : w.heap.size ≤ w'.heap.size
  drawn : w.drawn ≤ w'.drawn
  blk : ∀ b, b < w.heap.size → ¬ U b → w'.heap[b]? = w.heap[b]?

theorem StepFr.refl (w : World) (U : Nat → Prop) : StepFr w w U := ⟨rfl, rfl, rfl, Nat.le_refl _, Nat.le_refl _, fun _ _ _ => rfl⟩

theorem upm_kills_in (m : Nat → Option O) : ∀ (ks : List Nat) (i : Nat), i ∈ ks → upm m (kills ks) i = some .gone
  | k :: ks, i, hi => by
    show upm (upd m k (some .gone)) (kills ks) i = _
    by_cases h : i ∈ ks
    · exact upm_kills_in _ ks i h
    · rw [upm_kills_other _ _ _ h]
      rcases List.mem_cons.1 hi with rfl | h2
      · exact upd_same _ _ _
      · exact absurd h2 h

theorem regLoc.foot {F : Nat → Prop} {w : World} {ol : Option Loc} (h : regLoc F w ol) : foot ol = F := by
  funext b
  apply propext
  constructor
  · rintro ⟨l, rfl, hb⟩
    exact h.has.1 hb
  · intro hb
    rcases h with ⟨_, h⟩ | ⟨b0, h0, rfl⟩
    · exact absurd hb (h b)
    · exact ⟨_, rfl, .inr ⟨_, rfl, hb⟩⟩

section
variable {w0 w : World} {A : Nat → Prop} {locs : List (Option Loc)} {β : Nat → Option Loc} {σ : S} {a : Act}

def newsUp (N : List (Nat × O × Option Loc)) : List (Nat × O) := N.map fun x => (x.1, x.2.1)
def newsβ (β : Nat → Option Loc) (N : List (Nat × O × Option Loc)) : Nat → Option Loc := fun i => match N.find? (fun x => x.1 == i) with | some x => x.2.2 | none => β i

theorem newsβ_in {N : List (Nat × O × Option Loc)} (hnd : (N.map (·.1)).Nodup) {x : Nat × O × Option Loc} (hx : x ∈ N) : newsβ β N x.1 = x.2.2 := by
  unfold newsβ
  cases hf : N.find? (fun y => y.1 == x.1) with
  | none => exact absurd (List.find?_eq_none.1 hf x hx) (by simp)
  | some y =>
    have h1 := List.mem_of_find?_eq_some hf
    have h2 : y.1 = x.1 := by simpa using List.find?_some hf
    obtain ⟨i, hi⟩ := List.getElem?_of_mem h1
    obtain ⟨j, hj⟩ := List.getElem?_of_mem hx
    have e1 : (N.map (·.1))[i]? = some x.1 := by rw [List.getElem?_map, hi]; simp [h2]
    have e2 : (N.map (·.1))[j]? = some x.1 := by rw [List.getElem?_map, hj]; rfl
    have hij : i = j := by
      obtain ⟨l1, e1'⟩ := List.getElem?_eq_some_iff.1 e1
      obtain ⟨l2, e2'⟩ := List.getElem?_eq_some_iff.1 e2
      exact (List.getElem_inj hnd).1 (e1'.trans e2'.symm)
    subst hij
    rw [hi] at hj
    injection hj with hj
    rw [hj]
theorem newsβ_out {N : List (Nat × O × Option Loc)} {i : Nat} (h : i ∉ N.map (·.1)) : newsβ β N i = β i := by
  unfold newsβ
  cases hf : N.find? (fun y => y.1 == i) with
  | none => rfl
  | some y =>
    exact absurd (List.mem_map.2 ⟨y, List.mem_of_find?_eq_some hf, by simpa using List.find?_some hf⟩) h

/-- Objects are given up; new ones lie in their blocks and in new ones. -/
theorem Sim.regroups (h : Sim w0 A locs β σ a w) {w' : World} {ids : List Nat} {N : List (Nat × O × Option Loc)}
    (hnd : (N.map (·.1)).Nodup) (hN : ∀ x ∈ N, σ.m x.1 = none) (hids : ∀ id ∈ ids, ∃ o, σ.m id = some o)
    (hfr : StepFr w w' (OfIds β σ.m ids))
    (hl : ∀ x ∈ N, ∀ l, x.2.2 = some l → ∀ b, l.has b → b < w'.heap.size ∧ (w.heap.size ≤ b ∨ OfIds β σ.m ids b))
    (hdis : ∀ x ∈ N, ∀ y ∈ N, ∀ lx ly b, x.2.2 = some lx → y.2.2 = some ly → lx.has b → ly.has b → x.1 = y.1)
    (ho : ∀ (B' : Nat → Prop) (β' : Nat → Option Loc) (m' : Nat → Option O), Keeps w (Bl A β σ.m) w' B' → Goes β σ.m β' m' → (∀ x ∈ N, β' x.1 = x.2.2 ∧ m' x.1 = some x.2.1) → ∀ x ∈ N, ObRep w' B' β' m' x.1 x.2.1) :
    Sim w0 A locs (newsβ β N) { σ with m := upm σ.m (kills ids ++ newsUp N) } a w' ∧
      (∀ x ∈ N, newsβ β N x.1 = x.2.2 ∧ upm σ.m (kills ids ++ newsUp N) x.1 = some x.2.1) ∧
      Keeps w (Bl A β σ.m) w' (Bl A (newsβ β N) (upm σ.m (kills ids ++ newsUp N))) := by
  have hnd' : ((newsUp N).map (·.1)).Nodup := by unfold newsUp; rw [List.map_map]; exact hnd
  have hnin : ∀ x ∈ N, x.1 ∉ ids := fun x hx e => by obtain ⟨o, ho⟩ := hids x.1 e; rw [hN x hx] at ho; cases ho
  have mN : ∀ x ∈ N, upm σ.m (kills ids ++ newsUp N) x.1 = some x.2.1 := fun x hx => by
    rw [upm_append]
    exact (upm_lookup (upm σ.m (kills ids)) (newsUp N) hnd' x.1).1 x.2.1 (List.mem_map.2 ⟨x, hx, rfl⟩)
  have mO : ∀ i, i ∉ N.map (·.1) → upm σ.m (kills ids ++ newsUp N) i = upm σ.m (kills ids) i := fun i hi => by
    rw [upm_append]
    refine (upm_lookup (upm σ.m (kills ids)) (newsUp N) hnd' i).2 ?_
    unfold newsUp
    rw [List.map_map]
    exact hi
  have bN : ∀ x ∈ N, newsβ β N x.1 = x.2.2 := fun x hx => newsβ_in hnd hx
  have bO : ∀ i, i ∉ N.map (·.1) → newsβ β N i = β i := fun i hi => newsβ_out hi
  have hcase : ∀ i o, upm σ.m (kills ids ++ newsUp N) i = some o → o.live = true → (∃ x ∈ N, x.1 = i ∧ x.2.1 = o) ∨ (i ∉ N.map (·.1) ∧ i ∉ ids ∧ σ.m i = some o) := fun i o hi hlv => by
    by_cases e : i ∈ N.map (·.1)
    · obtain ⟨x, hx, rfl⟩ := List.mem_map.1 e
      rw [mN x hx] at hi
      injection hi with hi
      exact .inl ⟨x, hx, rfl, hi⟩
    · rw [mO i e] at hi
      by_cases e2 : i ∈ ids
      · rw [upm_kills_in _ _ _ e2] at hi; injection hi with hi; subst hi; cases hlv
      · rw [upm_kills_other _ _ _ e2] at hi; exact .inr ⟨e, e2, hi⟩
  have hne : ∀ i o, σ.m i = some o → i ∉ N.map (·.1) := fun i o hi e => by
    obtain ⟨x, hx, rfl⟩ := List.mem_map.1 e
    rw [hN x hx] at hi; cases hi
  have hnb : ∀ x ∈ N, ∀ l, x.2.2 = some l → ∀ b, l.has b → b < w.heap.size → Bl A β σ.m b := fun x hx l e b hb hlt => by
    rcases (hl x hx l e b hb).2 with h8 | ⟨id, _, o2, l2, k1, k2, k3, k4⟩
    · omega
    · exact .inr ⟨id, o2, l2, k1, k2, k3, k4⟩
  have k : Keeps w (Bl A β σ.m) w' (Bl A (newsβ β N) (upm σ.m (kills ids ++ newsUp N))) := by
    refine ⟨hfr.size, fun b hb hB => hfr.blk b hb ?_, fun b hb hB hB' => hB ?_⟩
    · rintro ⟨id, _, o, l, h1, h2, h3, h4⟩
      exact hB (.inr ⟨id, o, l, h1, h2, h3, h4⟩)
    · rcases hB' with hA | ⟨i, o, l, h1, h2, h3, h4⟩
      · exact .inl hA
      · rcases hcase i o h1 h2 with ⟨x, hx, rfl, rfl⟩ | ⟨h5, h6, h7⟩
        · rw [bN x hx] at h3
          exact hnb x hx l h3 b h4 hb
        · rw [bO i h5] at h3
          exact .inr ⟨i, o, l, h7, h2, h3, h4⟩
  have g : Goes β σ.m (newsβ β N) (upm σ.m (kills ids ++ newsUp N)) := fun id o ho => by
    have h1 := hne id o ho
    by_cases e : id ∈ ids
    · exact ⟨.gone, by rw [mO id h1]; exact upm_kills_in _ _ _ e, o.sub_gone, fun hl => by cases hl⟩
    · exact ⟨o, by rw [mO id h1, upm_kills_other _ _ _ e]; exact ho, o.sub_refl, fun _ => bO id h1⟩
  have hbn : ∀ x ∈ N, newsβ β N x.1 = x.2.2 ∧ upm σ.m (kills ids ++ newsUp N) x.1 = some x.2.1 := fun x hx => ⟨bN x hx, mN x hx⟩
  refine ⟨h.move k g (fun id o ho => bO id (hne id o ho)) (fun id o hm hlv => ?_) ?_ ?_ ?_, hbn, k⟩
  · rcases hcase id o hm hlv with ⟨x, hx, rfl, rfl⟩ | ⟨h5, h6, h7⟩
    · exact .inr (ho _ _ _ k g hbn x hx)
    · refine .inl ⟨h7, fun l hβ b hb => hfr.blk b (h.new id o l h7 hlv hβ b hb).1 ?_⟩
      rintro ⟨id2, hin, o2, l2, h1, h2, h3, h4⟩
      exact h6 (h.inj id id2 o o2 l l2 b h7 hlv hβ h1 h2 h3 hb h4 ▸ hin)
  · intro id id2 o o2 l l2 b h1 h2 h3 h4 h5 h6 hb hb2
    have key : ∀ i oi li x lx, i ∉ ids → σ.m i = some oi → oi.live = true → β i = some li → li.has b → x ∈ N → x.2.2 = some lx → lx.has b → False := fun i oi li x lx q2 q3 q4 q5 q6 q7 q8 q9 => by
      rcases (hl x q7 lx q8 b q9).2 with h8 | ⟨ix, hin, ox, lx', k1, k2, k3, k4⟩
      · have := (h.new i oi li q3 q4 q5 b q6).1
        omega
      · exact q2 (h.inj i ix oi ox li lx' b q3 q4 q5 k1 k2 k3 q6 k4 ▸ hin)
    rcases hcase id o h1 h2 with ⟨x, hx, rfl, rfl⟩ | ⟨h7, h8, h9⟩
    · rw [bN x hx] at h3
      rcases hcase id2 o2 h4 h5 with ⟨y, hy, rfl, rfl⟩ | ⟨k7, k8, k9⟩
      · rw [bN y hy] at h6
        exact hdis x hx y hy l l2 b h3 h6 hb hb2
      · rw [bO id2 k7] at h6
        exact (key id2 o2 l2 x l k8 k9 h5 h6 hb2 hx h3 hb).elim
    · rw [bO id h7] at h3
      rcases hcase id2 o2 h4 h5 with ⟨y, hy, rfl, rfl⟩ | ⟨k7, k8, k9⟩
      · rw [bN y hy] at h6
        exact (key id o l y l2 h8 h9 h2 h3 hb hy h6 hb2).elim
      · rw [bO id2 k7] at h6
        exact h.inj id id2 o o2 l l2 b h9 h2 h3 k9 h5 h6 hb hb2
  · intro id o l h1 h2 h3 b hb
    rcases hcase id o h1 h2 with ⟨x, hx, rfl, rfl⟩ | ⟨h7, h8, h9⟩
    · rw [bN x hx] at h3
      obtain ⟨q1, q2⟩ := hl x hx l h3 b hb
      refine ⟨q1, ?_⟩
      rcases q2 with q2 | ⟨ix, _, ox, lx, k1, k2, k3, k4⟩
      · refine ⟨fun hA => ?_, .inl (Nat.le_trans h.fr.size q2)⟩
        have := h.lt b hA
        omega
      · exact (h.new ix ox lx k1 k2 k3 b k4).2
    · rw [bO id h7] at h3
      obtain ⟨n1, n2, n3⟩ := h.new id o l h9 h2 h3 b hb
      exact ⟨Nat.lt_of_lt_of_le n1 hfr.size, n2, n3⟩
  · exact Fr.regroup h hfr.size hfr.os hfr.tape hfr.output hfr.drawn hfr.blk

/-- A slot's datum, said otherwise. -/
theorem Sim.slotAs (h : Sim w0 A locs β σ a w) {s : Nat} {av : AV} (hv : AvRep w (Bl A β σ.m) β σ.m av (a.tmps.getD s Go.undef)) : Sim w0 A locs β { σ with t := upd σ.t s av } a w := by
  refine { size := h.size, defers := h.defers, slot := fun i => ?_, ob := h.ob, inj := h.inj, new := h.new, fr := h.fr, lt := h.lt, pm := h.pm }
  show AvRep w _ β σ.m (upd σ.t s av i) _
  unfold upd
  split
  · rename_i e; subst e; exact hv
  · exact h.slot i

theorem OfIds.sub {m : Nat → Option O} {ids ids' : List Nat} (h : ∀ i ∈ ids, i ∈ ids') {b : Nat} (hb : OfIds β m ids b) : OfIds β m ids' b := by
  obtain ⟨id, h1, h2⟩ := hb
  exact ⟨id, h id h1, h2⟩
theorem OfIds.lt (h : Sim w0 A locs β σ a w) {ids : List Nat} {b : Nat} (hb : OfIds β σ.m ids b) : b < w.heap.size := by
  obtain ⟨id, _, o, l, h2, h3, h4, h5⟩ := hb
  exact (h.new id o l h2 h3 h4 b h5).1
theorem OfIds.one {m : Nat → Option O} {id : Nat} {o : O} (hm : m id = some o) (hl : o.live = true) (b : Nat) : OfIds β m [id] b ↔ foot (β id) b := by
  constructor
  · rintro ⟨i, hi, o2, l, h1, h2, h3, h4⟩
    simp only [List.mem_singleton] at hi
    subst hi
    exact ⟨l, h3, h4⟩
  · rintro ⟨l, h1, h2⟩
    exact ⟨id, by simp, o, l, hm, hl, h1, h2⟩
theorem OfIds.disj (h : Sim w0 A locs β σ a w) {xs ys : List Nat} (hd : ∀ x ∈ xs, x ∉ ys) {b : Nat} (h1 : OfIds β σ.m xs b) (h2 : OfIds β σ.m ys b) : False := by
  obtain ⟨x, hx, o, l, a1, a2, a3, a4⟩ := h1
  obtain ⟨y, hy, o', l', b1, b2, b3, b4⟩ := h2
  exact hd x hx (h.inj x y o o' l l' b a1 a2 a3 b1 b2 b3 a4 b4 ▸ hy)
end

/-- Objects told by their blocks, made out of what is given up and of new memory. -/
theorem Sim.exts {w0 w w' : World} {A : Nat → Prop} {locs : List (Option Loc)} {β : Nat → Option Loc} {σ : S} {a : Act} (h : Sim w0 A locs β σ a w) {ids : List Nat}
    (L : List (Nat × (World → (Nat → Prop) → Prop) × (Nat → Prop)))
    (hnd : (L.map (·.1)).Nodup) (hN : ∀ x ∈ L, σ.m x.1 = none) (hids : ∀ id ∈ ids, ∃ o, σ.m id = some o) (hfr : StepFr w w' (OfIds β σ.m ids))
    (hF : ∀ x ∈ L, ExtAt x.2.1 w' x.2.2 ∧ ∀ b, x.2.2 b → b < w'.heap.size ∧ (w.heap.size ≤ b ∨ OfIds β σ.m ids b))
    (hdis : ∀ x ∈ L, ∀ y ∈ L, ∀ b, x.2.2 b → y.2.2 b → x.1 = y.1) :
    ∃ β', Sim w0 A locs β' { σ with m := upm σ.m (kills ids ++ L.map fun x => (x.1, .ext x.2.1)) } a w' ∧ Keeps w (Bl A β σ.m) w' (Bl A β' (upm σ.m (kills ids ++ L.map fun x => (x.1, .ext x.2.1)))) := by
  let pl : (Nat × (World → (Nat → Prop) → Prop) × (Nat → Prop)) → Option Loc := fun x => Classical.choose (regLoc_ex x.2.2 w')
  have hpl : ∀ x, regLoc x.2.2 w' (pl x) := fun x => Classical.choose_spec (regLoc_ex x.2.2 w')
  let N : List (Nat × O × Option Loc) := L.map fun x => (x.1, .ext x.2.1, pl x)
  have e1 : newsUp N = L.map fun x => (x.1, O.ext x.2.1) := by simp [newsUp, N, List.map_map, Function.comp_def]
  have e2 : N.map (·.1) = L.map (·.1) := by simp [N, List.map_map, Function.comp_def]
  have hin : ∀ y ∈ N, ∃ x ∈ L, y = (x.1, .ext x.2.1, pl x) := fun y hy => by
    obtain ⟨x, hx, rfl⟩ := List.mem_map.1 hy
    exact ⟨x, hx, rfl⟩
  have key := h.regroups (w' := w') (ids := ids) (N := N) (by rw [e2]; exact hnd) (fun y hy => by obtain ⟨x, hx, rfl⟩ := hin y hy; exact hN x hx) hids hfr
    (fun y hy l hl b hb => by
      obtain ⟨x, hx, rfl⟩ := hin y hy
      refine (hF x hx).2 b ?_
      rw [← (hpl x).foot]
      exact ⟨l, hl, hb⟩)
    (fun y hy z hz ly lz b h1 h2 h3 h4 => by
      obtain ⟨x, hx, rfl⟩ := hin y hy
      obtain ⟨x', hx', rfl⟩ := hin z hz
      refine hdis x hx x' hx' b ?_ ?_
      · rw [← (hpl x).foot]; exact ⟨ly, h1, h3⟩
      · rw [← (hpl x').foot]; exact ⟨lz, h2, h4⟩)
    (fun B' β' m' k g hb y hy => by
      have hb2 := (hb y hy).1
      obtain ⟨x, hx, rfl⟩ := hin y hy
      show ExtAt x.2.1 w' (foot (β' x.1))
      rw [show β' x.1 = pl x from hb2, (hpl x).foot]
      exact (hF x hx).1)
  rw [e1] at key
  exact ⟨_, key.1, key.2.2⟩

theorem rep_oth {w : World} {B : Nat → Prop} {v x : Value} (h : Rep w B v (.other x)) : v = x := by
  generalize hd : D.other x = d at h
  cases h <;> first | (injection hd with hd; exact hd.symm) | cases hd

/-- The slice v holds these rows, in a block of its own. -/
def FlatI (ty sz : Nat) (rows : List (List D)) : VI := fun v w F =>
  (∀ r ∈ rows, r.length = sz) ∧ 0 < sz ∧ ((rows = [] ∧ v = .slice none 0 0) ∨
    ∃ (b base tot : Nat) (cs : Array Value) (ad : Addr), F b ∧ v = .slice (some ad) rows.length tot ∧ (0 < tot → ad = ⟨b, base, none⟩) ∧ w.heap[b]? = some (.cells cs ty (0, 0)) ∧
      cs.size = base + tot * sz ∧ rows.length ≤ tot ∧ tot ≤ maxLen ∧ ∀ (j : Nat) (d : D), rows.flatten[j]? = some d → ∀ (w2 : World) (B : Nat → Prop), Rep w2 B (cs.getD (base + j) Go.undef) d)

section
variable {ty sz : Nat} {rows : List (List D)} {v : Value} {w : World} {F F' : Nat → Prop}
theorem FlatI.ext (h : FlatI ty sz rows v w F) : ExtAt (FlatI ty sz rows v) w F := by
  intro w' hb _
  obtain ⟨h1, h2, h3⟩ := h
  refine ⟨h1, h2, ?_⟩
  rcases h3 with h3 | ⟨b, base, tot, cs, ad, q1, q2, q3, q4, q5⟩
  · exact .inl h3
  · exact .inr ⟨b, base, tot, cs, ad, q1, q2, q3, (hb b q1).trans q4, q5⟩
theorem FlatI.mono (h : FlatI ty sz rows v w F) (hF : ∀ b, F b → F' b) : FlatI ty sz rows v w F' := by
  obtain ⟨h1, h2, h3⟩ := h
  refine ⟨h1, h2, ?_⟩
  rcases h3 with h3 | ⟨b, base, tot, cs, ad, q1, q2⟩
  · exact .inl h3
  · exact .inr ⟨b, base, tot, cs, ad, hF b q1, q2⟩
theorem FlatI.one (h : FlatI ty sz rows v w F) : v.oneCell' = true := by
  rcases h.2.2 with ⟨_, rfl⟩ | ⟨b, base, tot, cs, ad, _, rfl, _⟩ <;> rfl
theorem FlatI.rep (h : FlatI ty sz rows v w F) {B : Nat → Prop} (hB : ∀ b, F b → ¬ B b) : Rep w B v (.list rows) := by
  obtain ⟨h1, h2, h3⟩ := h
  rcases h3 with ⟨rfl, rfl⟩ | ⟨b, base, tot, cs, ad, q1, rfl, q3, q4, q5, q6, q7, q8⟩
  · exact .nil _ _
  · by_cases h0 : rows.length = 0
    · have : rows = [] := List.eq_nil_of_length_eq_zero h0
      subst this
      exact .nil _ _
    · have had := q3 (by omega)
      subst had
      have hfl : rows.flatten.length = rows.length * sz := flat_len rows h1
      have hmul : rows.length * sz ≤ tot * sz := Nat.mul_le_mul_right _ q6
      refine .list _ _ _ rows sz (fun j => cs.getD (base + j) Go.undef) rfl q6 h1 (lt_of_cells q4) (hB b q1) rfl (fun j d hj => ?_) (fun j d hj => q8 j d hj _ _)
      have hjl := (List.getElem?_eq_some_iff.1 hj).1
      rw [add_spot rfl]
      exact ⟨run_load_at q4 (by show base + j < _; omega), thaw q4⟩
end


/-- What an object tells of one array becomes an array of our own; the rest of the object stays behind. -/
theorem Sim.takeOut {w0 w : World} {A : Nat → Prop} {locs : List (Option Loc)} {β : Nat → Option Loc} {σ : S} {a : Act} (hS : Sim w0 A locs β σ a w) {s id nA nR ty sz : Nat} {rows : List (List D)} {v : Value} {I I' : World → (Nat → Prop) → Prop}
    (hs : σ.t s = .imm (.other v)) (hm : σ.m id = some (.ext I)) (hA : σ.m nA = none) (hR : σ.m nR = none) (hne : nA ≠ nR)
    (hI : ∀ w F, ExtAt I w F → ∃ F0 F1 : Nat → Prop, (∀ b, F0 b ∨ F1 b → F b) ∧ (∀ b, ¬ (F0 b ∧ F1 b)) ∧ FlatI ty sz rows v w F0 ∧ ExtAt I' w F1) :
    ∃ β', Sim w0 A locs β' { σ with t := upd σ.t s (.own nA 0 rows.length), m := upm σ.m [(id, .gone), (nA, .arr ty sz rows), (nR, .ext I')] } a w := by
  have hv := hS.slot s
  rw [hs] at hv
  have hv : a.tmps.getD s Go.undef = v := rep_oth hv
  have hob : ExtAt I w (foot (β id)) := hS.ob id _ hm
  obtain ⟨F0, F1, hF, hd, ⟨q1, q2, q3⟩, hI'⟩ := hI _ _ hob
  have hex : ∃ ol : Option Loc, (∀ l, ol = some l → ∀ b, l.has b → F0 b) ∧ ∀ (B' : Nat → Prop) (β' : Nat → Option Loc) (m' : Nat → Option O), β' nA = ol → m' nA = some (.arr ty sz rows) → ObRep w B' β' m' nA (.arr ty sz rows) ∧ AvRep0 w B' β' m' (.own nA 0 rows.length) v := by
    rcases q3 with ⟨rfl, rfl⟩ | ⟨b, base, tot, cs, ad, f1, rfl, f3, f4, f5, f6, f7, f8⟩
    · refine ⟨none, (fun l e => by cases e), fun B' β' m' e1 e2 => ⟨⟨q1, q2, .inl ⟨e1, rfl⟩⟩, ?_⟩⟩
      simp only [AvRep0, e2]
      exact ⟨by simp, .inl ⟨e1, trivial⟩⟩
    · refine ⟨some ⟨b, base, tot, none⟩, fun l e b' hb' => ?_, fun B' β' m' e1 e2 => ⟨⟨q1, q2, .inr ⟨_, cs, e1, f4, f5, f6, f7, fun j d hj => f8 j d hj _ _⟩⟩, ?_⟩⟩
      · injection e with e
        subst e
        have := Loc.has_none (l := ⟨b, base, tot, none⟩) rfl hb'
        change b = b' at this
        subst this
        exact f1
      · simp only [AvRep0, e2]
        exact ⟨by simp, .inr ⟨_, ad, e1, by simp, Nat.zero_le _, fun h0 => by simpa using f3 h0⟩⟩
  obtain ⟨ol, g1, g2⟩ := hex
  obtain ⟨oR, hoR⟩ := regLoc_ex F1 w
  have hfR := hoR.foot
  have hof : ∀ b, foot (β id) b → OfIds β σ.m [id] b := fun b hb => (OfIds.one hm rfl b).2 hb
  have hN : ∀ x ∈ ([(nA, .arr ty sz rows, ol), (nR, .ext I', oR)] : List (Nat × O × Option Loc)), x = (nA, .arr ty sz rows, ol) ∨ x = (nR, .ext I', oR) := fun x hx => by simpa using hx
  obtain ⟨h1, h2, _⟩ := hS.regroups (w' := w) (ids := [id]) (N := [(nA, .arr ty sz rows, ol), (nR, .ext I', oR)]) (by simp [hne]) (fun x hx => by rcases hN x hx with rfl | rfl <;> assumption) (fun i hi => by rw [List.mem_singleton] at hi; subst hi; exact ⟨_, hm⟩) (StepFr.refl _ _)
    (fun x hx l e b hb => by
      have hFb : foot (β id) b := by
        rcases hN x hx with rfl | rfl
        · exact hF b (.inl (g1 l e b hb))
        · exact hF b (.inr (by rw [← hfR]; exact ⟨l, e, hb⟩))
      have := hof b hFb
      exact ⟨OfIds.lt hS this, .inr this⟩)
    (fun x hx y hy lx ly b e1 e2 hb1 hb2 => by
      rcases hN x hx with rfl | rfl <;> rcases hN y hy with rfl | rfl
      · rfl
      · exact (hd b ⟨g1 lx e1 b hb1, by rw [← hfR]; exact ⟨ly, e2, hb2⟩⟩).elim
      · exact (hd b ⟨g1 ly e2 b hb2, by rw [← hfR]; exact ⟨lx, e1, hb1⟩⟩).elim
      · rfl)
    (fun B' β' m' _ _ hb x hx => by
      rcases hN x hx with rfl | rfl
      · exact (g2 B' β' m' (hb (nA, .arr ty sz rows, ol) (by simp)).1 (hb (nA, .arr ty sz rows, ol) (by simp)).2).1
      · show ExtAt I' w (foot (β' nR))
        rw [show β' nR = oR from (hb (nR, .ext I', oR) (by simp)).1, hfR]
        exact hI')
  obtain ⟨e1, e2⟩ := h2 (nA, .arr ty sz rows, ol) (by simp)
  refine ⟨_, h1.slotAs (s := s) (av := .own nA 0 rows.length) ?_⟩
  rw [hv]
  exact (g2 (Bl A (newsβ β [(nA, .arr ty sz rows, ol), (nR, .ext I', oR)]) (upm σ.m (kills [id] ++ newsUp [(nA, .arr ty sz rows, ol), (nR, .ext I', oR)]))) _ _ e1 e2).2

/-- An operation whose value, a slice, becomes an array of our own at once. -/
def opTake (m : Nat → Option O) (ep : Nat) (o : Oper) (L : (Eff → Prop) → Prop) (K : Eff → Prop) : Prop :=
  ∃ (d : Nat) (v : Value) (id ty sz : Nat) (rows : List (List D)) (I I' : World → (Nat → Prop) → Prop), o.dst = some d ∧ L (fun e => e = ⟨.imm (.other v), []⟩) ∧ m id = some (.ext I) ∧ m (rid ep d 0) = none ∧ m (rid ep d 1) = none ∧
    (∀ w F, ExtAt I w F → ∃ F0 F1 : Nat → Prop, (∀ b, F0 b ∨ F1 b → F b) ∧ (∀ b, ¬ (F0 b ∧ F1 b)) ∧ FlatI ty sz rows v w F0 ∧ ExtAt I' w F1) ∧
    K ⟨.own (rid ep d 0) 0 rows.length, [(id, .gone), (rid ep d 0, .arr ty sz rows), (rid ep d 1, .ext I')]⟩
def amOpX (P : Program) (T : TypeId → Option TI) (ρ : Operand → AV) (m : Nat → Option O) (ep : Nat) (o : Oper) (K : Eff → Prop) : Prop := amOp P T ρ m ep o K ∨ opTake m ep o (amOp P T ρ m ep o) K

theorem good_opX {P : Program} {T : TypeId → Option TI} (hT : TOk P T) {w0 w : World} {A : Nat → Prop} {locs : List (Option Loc)} {β : Nat → Option Loc} {σ : S} {a : Act}
    (h : Sim w0 A locs β σ a w) {o : Oper} (hd : ∀ d, o.dst = some d → d < σ.n) {K : Eff → Prop} {m' : Nat → Option O} (hm : ∀ id ob, m' id = some ob → σ.m id = some ob)
    (hn : ∀ d, o.dst = some d → ∀ j, m' (rid σ.ep d j) = none → σ.m (rid σ.ep d j) = none) (hn0 : ∀ j, o.dst = none → m' (rid σ.ep 0 j) = none → σ.m (rid σ.ep 0 j) = none)
    (hk : amOpX P T σ.ev m' σ.ep o K) : GoodOp P w0 A locs σ a w o K := by
  rcases hk with hk | ⟨d, v, id, ty, sz, rows, I, I', hdst, hL, h1, h2, h3, hI, hK⟩
  · exact good_op hT h hd hm hn hn0 hk
  · intro next Q hnext
    refine good_op hT h hd hm hn hn0 hL next Q ?_
    rintro e rfl β' a' w' hs
    rw [S.app_nil, hdst] at hs
    have hs : Sim w0 A locs β' { σ with t := upd σ.t d (.imm (.other v)) } a' w' := hs
    obtain ⟨β2, hs2⟩ := hs.takeOut (s := d) (nA := rid σ.ep d 0) (nR := rid σ.ep d 1) (upd_same _ _ _) (hm _ _ h1) (hn d hdst 0 h2) (hn d hdst 1 h3) (by unfold rid; omega) hI
    refine hnext _ hK β2 a' w' ?_
    rw [app_eq, hdst]
    have hu : upd (upd σ.t d (.imm (.other v))) d (.own (rid σ.ep d 0) 0 rows.length) = upd σ.t d (.own (rid σ.ep d 0) 0 rows.length) := by
      funext i; unfold upd; split <;> rfl
    show Sim w0 A locs β2 { σ with t := upd σ.t d _, m := upm σ.m _ } a' w'
    rw [← hu]
    exact hs2
end Go.Am

