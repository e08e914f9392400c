/- The abstract machine, part 2: its states, how a state stands for slots and memory, and the moves on memory that keep this. -/
import Derived.Test.YtjebblagiiajaaaAm1
namespace Go.Am
open Go

def upd {α : Type} (f : Nat → α) (k : Nat) (v : α) : Nat → α := fun j => if j = k then v else f j

theorem upd_same {α : Type} (f : Nat → α) (k : Nat) (v : α) : upd f k v k = v := by simp [upd]
theorem upd_other {α : Type} (f : Nat → α) {k j : Nat} (v : α) (h : j ≠ k) : upd f k v j = f j := by simp [upd, h]

/-- A state: slots, objects, the number of the region (for new names), how many slots there are, the names of the objects that came in to be written. -/
structure S where
  t : Nat → AV
  m : Nat → Option O
  ep : Nat
  n : Nat
  pm : List Nat

/-- What one operation does: its value, and the objects that it makes, changes or gives up. -/
structure Eff where
  v : AV
  up : List (Nat × O)

def upm (m : Nat → Option O) : List (Nat × O) → Nat → Option O
  | [] => m
  | (id, o) :: r => upm (upd m id (some o)) r

def S.put (σ : S) (dst : Option Nat) (v : AV) : S :=
  match dst with
  | some d => { σ with t := upd σ.t d v }
  | none => σ

def S.app (σ : S) (dst : Option Nat) (e : Eff) : S := { σ.put dst e.v with m := upm σ.m e.up }

@[simp] theorem S.put_m (σ : S) (dst : Option Nat) (v : AV) : (σ.put dst v).m = σ.m := by cases dst <;> rfl
@[simp] theorem S.put_n (σ : S) (dst : Option Nat) (v : AV) : (σ.put dst v).n = σ.n := by cases dst <;> rfl
@[simp] theorem S.put_ep (σ : S) (dst : Option Nat) (v : AV) : (σ.put dst v).ep = σ.ep := by cases dst <;> rfl
@[simp] theorem S.put_pm (σ : S) (dst : Option Nat) (v : AV) : (σ.put dst v).pm = σ.pm := by cases dst <;> rfl

/-- The blocks through which no plain datum may be read: those kept from us, and those of our objects. -/
def Bl (A : Nat → Prop) (β : Nat → Option Loc) (m : Nat → Option O) : Nat → Prop :=
  fun b => A b ∨ ∃ id o l, m id = some o ∧ o.live = true ∧ β id = some l ∧ l.b = b

/-- The package variables lie in their blocks, and nobody may write there. -/
def Tb (w0 : World) (locs : List (Option Loc)) : Prop :=
  ∀ g cs, (g, cs) ∈ tabs → (∃ ty fz, w0.heap[g]? = some (.cells cs ty fz)) ∧ ∀ l, some l ∈ locs → l.b ≠ g

/-- Memory that was there is as it was, but for the blocks of 'locs'. -/
structure Fr (w0 : World) (locs : List (Option Loc)) (w : World) : Prop where
  os : w.os = w0.os
  tape : w.tape = w0.tape
  output : w.output = w0.output
  size : w0.heap.size ≤ w.heap.size
  blk : ∀ b, b < w0.heap.size → (∀ l, some l ∈ locs → l.b ≠ b) → w.heap[b]? = w0.heap[b]?
  tb : Tb w0 locs

theorem Fr.refl (w : World) (locs : List (Option Loc)) (h : Tb w locs) : Fr w locs w := ⟨rfl, rfl, rfl, Nat.le_refl _, fun _ _ _ => rfl, h⟩

theorem tb_of_nil (h : tabs = []) {w : World} {locs : List (Option Loc)} : Tb w locs := by
  intro g cs hg
  rw [h] at hg
  cases hg

/-- A block with its cells is within the heap. -/
theorem lt_of_cells {w : World} {g : Nat} {o : Obj} (h : w.heap[g]? = some o) : g < w.heap.size := by
  rcases Nat.lt_or_ge g w.heap.size with h' | h'
  · exact h'
  · rw [Array.getElem?_eq_none h'] at h; cases h

/-- The state stands for these slots and this world. -/
structure Sim (w0 : World) (A : Nat → Prop) (locs : List (Option Loc)) (β : Nat → Option Loc) (σ : S) (a : Act) (w : World) : Prop where
  size : a.tmps.size = σ.n
  defers : a.defers = []
  slot : ∀ i, AvRep w (Bl A β σ.m) β σ.m (σ.t i) (a.tmps.getD i Go.undef)
  ob : ∀ id o, σ.m id = some o → ObRep w (Bl A β σ.m) β σ.m id o
  inj : ∀ id id' o o' l l', σ.m id = some o → o.live = true → β id = some l → σ.m id' = some o' → o'.live = true → β id' = some l' → l.b = l'.b → id = id'
  new : ∀ id o l, σ.m id = some o → o.live = true → β id = some l → l.b < w.heap.size ∧ ¬ A l.b ∧ (w0.heap.size ≤ l.b ∨ ∃ l0, some l0 ∈ locs ∧ l0.b = l.b)
  fr : Fr w0 locs w
  lt : ∀ b, A b → b < w.heap.size
  pm : σ.pm.length = locs.length ∧ ∀ (i id : Nat), σ.pm[i]? = some id → locs[i]? = some (β id) ∧ ∃ o, σ.m id = some o

/-- The same heap and streams: draws alone. -/
theorem Keeps.heap {w w' : World} {B : Nat → Prop} (h : w'.heap = w.heap) : Keeps w B w' B := ⟨by rw [h]; exact Nat.le_refl _, fun _ _ _ => by rw [h], fun _ _ h => h⟩

theorem ObRep.keep {w w' : World} {B B' : Nat → Prop} {β β' : Nat → Option Loc} {m m' : Nat → Option O} (k : Keeps w B w' B') (g : Goes β m β' m') {id : Nat} {o : O}
    (hβ : β' id = β id) (hb : ∀ l, β id = some l → w'.heap[l.b]? = w.heap[l.b]?) (h : ObRep w B β m id o) : ObRep w' B' β' m' id o := by
  cases o with
  | gone => trivial
  | box ty cells =>
    obtain ⟨l, cs, h1, h2, h3, h4⟩ := h
    exact ⟨l, cs, hβ.trans h1, (hb l h1).trans h2, h3, fun j a hj => (h4 j a hj).keep k g⟩
  | arr ty sz rows =>
    obtain ⟨h0, hp, h⟩ := h
    refine ⟨h0, hp, ?_⟩
    rcases h with ⟨h1, h2⟩ | ⟨l, cs, h1, h2, h3, h4, h5, h6⟩
    · exact .inl ⟨hβ.trans h1, h2⟩
    · exact .inr ⟨l, cs, hβ.trans h1, (hb l h1).trans h2, h3, h4, h5, fun j d hj => (h6 j d hj).keep k⟩

section
variable {w0 w : World} {A : Nat → Prop} {locs : List (Option Loc)} {β : Nat → Option Loc} {σ : S} {a : Act}

theorem Sim.world (h : Sim w0 A locs β σ a w) {w' : World} (hh : w'.heap = w.heap) (ho : w'.os = w.os) (ht : w'.tape = w.tape) (hu : w'.output = w.output) : Sim w0 A locs β σ a w' :=
  { size := h.size, defers := h.defers
    slot := fun i => (h.slot i).keep (Keeps.heap hh) (Goes.refl _ _)
    ob := fun id o hm => (h.ob id o hm).keep (Keeps.heap hh) (Goes.refl _ _) rfl (fun _ _ => by rw [hh])
    inj := h.inj
    new := fun id o l h1 h2 h3 => by rw [hh]; exact h.new id o l h1 h2 h3
    fr := ⟨ho.trans h.fr.os, ht.trans h.fr.tape, hu.trans h.fr.output, by rw [hh]; exact h.fr.size, fun b hb hl => by rw [hh]; exact h.fr.blk b hb hl, h.fr.tb⟩
    lt := fun b hb => by rw [hh]; exact h.lt b hb
    pm := h.pm }

theorem getD_put (tm : Array Value) (d i : Nat) (v : Value) (hd : d < tm.size) : (tm.setIfInBounds d v).getD i Go.undef = if i = d then v else tm.getD i Go.undef := by
  simp only [Array.getD_eq_getD_getElem?, Array.getElem?_setIfInBounds]
  by_cases h : d = i
  · subst h; simp [hd]
  · rw [if_neg h, if_neg (Ne.symm h)]

/-- A value is put into a slot. -/
theorem Sim.put (h : Sim w0 A locs β σ a w) {dst : Option Nat} {v : Value} {av : AV} (hd : ∀ d, dst = some d → d < σ.n) (hv : AvRep w (Bl A β σ.m) β σ.m av v) :
    Sim w0 A locs β (σ.put dst av) (a.put dst v) w := by
  cases dst with
  | none => exact h
  | some d =>
    have hd' : d < a.tmps.size := by rw [h.size]; exact hd d rfl
    refine { size := ?_, defers := h.defers, slot := ?_, ob := h.ob, inj := h.inj, new := h.new, fr := h.fr, lt := h.lt, pm := h.pm }
    · simpa [Act.put] using h.size
    · intro i
      show AvRep w _ β σ.m (upd σ.t d av i) ((a.tmps.setIfInBounds d v).getD i Go.undef)
      rw [getD_put _ _ _ _ hd']
      unfold upd
      split
      · exact hv
      · exact h.slot i

/-- What the objects' part of a state comes to behind a move: everything but the slot that is written. -/
theorem Sim.move (h : Sim w0 A locs β σ a w) {w' : World} {β' : Nat → Option Loc} {m' : Nat → Option O}
    (k : Keeps w (Bl A β σ.m) w' (Bl A β' m')) (g : Goes β σ.m β' m') (gβ : ∀ id o, σ.m id = some o → β' id = β id)
    (ob : ∀ id o, m' id = some o → o.live = true → (σ.m id = some o ∧ ∀ l, β id = some l → w'.heap[l.b]? = w.heap[l.b]?) ∨ ObRep w' (Bl A β' m') β' m' id o)
    (inj : ∀ id id' o o' l l', m' id = some o → o.live = true → β' id = some l → m' id' = some o' → o'.live = true → β' id' = some l' → l.b = l'.b → id = id')
    (new : ∀ id o l, m' id = some o → o.live = true → β' id = some l → l.b < w'.heap.size ∧ ¬ A l.b ∧ (w0.heap.size ≤ l.b ∨ ∃ l0, some l0 ∈ locs ∧ l0.b = l.b))
    (fr : Fr w0 locs w') :
    Sim w0 A locs β' { σ with m := m' } a w' :=
  { size := h.size, defers := h.defers
    slot := fun i => (h.slot i).keep k g
    ob := fun id o hm => by
      cases hl : o.live with
      | false => cases o <;> first | trivial | (simp [O.live] at hl)
      | true =>
        rcases ob id o hm hl with ⟨h1, h2⟩ | h1
        · exact (h.ob id o h1).keep k g (gβ id o h1) h2
        · exact h1
    inj := inj, new := new, fr := fr
    lt := fun b hb => Nat.lt_of_lt_of_le (h.lt b hb) k.size
    pm := ⟨h.pm.1, fun i id hi => by
      obtain ⟨h1, o, h2⟩ := h.pm.2 i id hi
      obtain ⟨o', h3, _, _⟩ := g id o h2
      exact ⟨by rw [gβ id o h2]; exact h1, o', h3⟩⟩ }

theorem heap_alloc_lt (w : World) (o : Obj) {b : Nat} (h : b < w.heap.size) : (w.alloc o).heap[b]? = w.heap[b]? := by
  show (w.heap.push o)[b]? = _
  rw [Array.getElem?_push, if_neg (by omega)]
theorem heap_alloc_at (w : World) (o : Obj) : (w.alloc o).heap[w.heap.size]? = some o := by
  show (w.heap.push o)[w.heap.size]? = _
  rw [Array.getElem?_push, if_pos rfl]
theorem size_alloc (w : World) (o : Obj) : (w.alloc o).heap.size = w.heap.size + 1 := by show (w.heap.push o).size = _; simp

theorem Fr.alloc {w0 w : World} {locs : List (Option Loc)} (h : Fr w0 locs w) (o : Obj) : Fr w0 locs (w.alloc o) :=
  ⟨h.os, h.tape, h.output, by rw [size_alloc]; have := h.size; omega, fun b hb hl => (heap_alloc_lt w o (Nat.lt_of_lt_of_le hb h.size)).trans (h.blk b hb hl), h.tb⟩

/-- Whoever is handed some of our objects to write finds the package variables as they were. -/
theorem Sim.tb (h : Sim w0 A locs β σ a w) {locsC : List (Option Loc)} (hl : ∀ l, some l ∈ locsC → ∃ id o, σ.m id = some o ∧ o.live = true ∧ β id = some l) : Tb w locsC := by
  intro g cs hg
  obtain ⟨⟨ty, fz, h1⟩, h2⟩ := h.fr.tb g cs hg
  have hlt := lt_of_cells h1
  refine ⟨⟨ty, fz, (h.fr.blk g hlt h2).trans h1⟩, fun l hm e => ?_⟩
  obtain ⟨id, o, e1, e2, e3⟩ := hl l hm
  rcases (h.new id o l e1 e2 e3).2.2 with h3 | ⟨l0, h3, h4⟩
  · omega
  · exact h2 l0 h3 (h4.trans e)

theorem goes_new {β β' : Nat → Option Loc} {m : Nat → Option O} {id : Nat} {o : O} (hid : m id = none) (hβ : ∀ i, i ≠ id → β' i = β i) : Goes β m β' (upd m id (some o)) := by
  intro i o' hi
  have hne : i ≠ id := fun e => by subst e; rw [hid] at hi; cases hi
  exact ⟨o', by rw [upd_other _ _ hne]; exact hi, o'.sub_refl, fun _ => hβ i hne⟩

/-- A new object in a new block. -/
theorem Sim.new_ (h : Sim w0 A locs β σ a w) {id : Nat} {o : O} {cs : Array Value} {ty : TypeId} {l : Loc} (hid : σ.m id = none) (hl : l.b = w.heap.size)
    (ho : ∀ (w' : World) (B' : Nat → Prop) (β' : Nat → Option Loc) (m' : Nat → Option O), Keeps w (Bl A β σ.m) w' B' → Goes β σ.m β' m' → β' id = some l → m' id = some o → w'.heap[l.b]? = some (.cells cs ty (0, 0)) →
      ObRep w' B' β' m' id o) :
    Sim w0 A locs (upd β id (some l)) { σ with m := upd σ.m id (some o) } a (w.alloc (.cells cs ty)) := by
  have hβ : ∀ i, i ≠ id → upd β id (some l) i = β i := fun i hi => upd_other _ _ hi
  have g : Goes β σ.m (upd β id (some l)) (upd σ.m id (some o)) := goes_new hid hβ
  have hne : ∀ i o', σ.m i = some o' → i ≠ id := fun i o' hi e => by subst e; rw [hid] at hi; cases hi
  have k : Keeps w (Bl A β σ.m) (w.alloc (.cells cs ty)) (Bl A (upd β id (some l)) (upd σ.m id (some o))) := by
    refine ⟨by rw [size_alloc]; omega, fun b hb _ => heap_alloc_lt w _ hb, fun b hb hB hB' => hB ?_⟩
    rcases hB' with hA | ⟨i, o', l', h1, h2, h3, h4⟩
    · exact .inl hA
    · by_cases hi : i = id
      · subst hi
        rw [upd_same] at h3
        injection h3 with h3
        subst h3; omega
      · rw [upd_other _ _ hi] at h1 h3
        exact .inr ⟨i, o', l', h1, h2, h3, h4⟩
  refine h.move k g (fun i o' hi => hβ i (hne i o' hi)) ?_ ?_ ?_ (h.fr.alloc _)
  · intro i o' hi hlive
    by_cases he : i = id
    · subst he
      rw [upd_same] at hi
      injection hi with hi
      subst hi
      exact .inr (ho _ _ _ _ k g (upd_same _ _ _) (upd_same _ _ _) (by rw [hl]; exact heap_alloc_at w _))
    · rw [upd_other _ _ he] at hi
      exact .inl ⟨hi, fun l' hl' => heap_alloc_lt w _ (h.new i o' l' hi hlive hl').1⟩
  · intro i j oi oj li lj h1 h2 h3 h4 h5 h6 h7
    by_cases hi : i = id <;> by_cases hj : j = id
    · rw [hi, hj]
    · exfalso
      subst hi
      rw [upd_same] at h3; injection h3 with h3; subst h3
      rw [upd_other _ _ hj] at h4 h6
      have := (h.new j oj lj h4 h5 h6).1
      omega
    · exfalso
      subst hj
      rw [upd_same] at h6; injection h6 with h6; subst h6
      rw [upd_other _ _ hi] at h1 h3
      have := (h.new i oi li h1 h2 h3).1
      omega
    · rw [upd_other _ _ hi] at h1 h3
      rw [upd_other _ _ hj] at h4 h6
      exact h.inj i j oi oj li lj h1 h2 h3 h4 h5 h6 h7
  · intro i o' l' h1 h2 h3
    by_cases hi : i = id
    · subst hi
      rw [upd_same] at h3; injection h3 with h3; subst h3
      rw [hl, size_alloc]
      refine ⟨by omega, fun hA => ?_, .inl h.fr.size⟩
      have := h.lt _ hA
      omega
    · rw [upd_other _ _ hi] at h1 h3
      obtain ⟨h4, h5⟩ := h.new i o' l' h1 h2 h3
      exact ⟨by rw [size_alloc]; omega, h5⟩

/-- A new array that has no memory yet: a nil slice. -/
theorem Sim.newNil (h : Sim w0 A locs β σ a w) {id : Nat} (ty sz : Nat) (hid : σ.m id = none) (hsz : 0 < sz) :
    Sim w0 A locs (upd β id none) { σ with m := upd σ.m id (some (.arr ty sz [])) } a w := by
  have hβ : ∀ i, i ≠ id → upd β id none i = β i := fun i hi => upd_other _ _ hi
  have g : Goes β σ.m (upd β id none) (upd σ.m id (some (.arr ty sz []))) := goes_new hid hβ
  have hne : ∀ i o', σ.m i = some o' → i ≠ id := fun i o' hi e => by subst e; rw [hid] at hi; cases hi
  have hi_ne : ∀ i l, upd β id none i = some l → i ≠ id := fun i l hl e => by subst e; rw [upd_same] at hl; cases hl
  have k : Keeps w (Bl A β σ.m) w (Bl A (upd β id none) (upd σ.m id (some (.arr ty sz [])))) := by
    refine ⟨Nat.le_refl _, fun _ _ _ => rfl, fun b hb hB hB' => hB ?_⟩
    rcases hB' with hA | ⟨i, o', l', h1, h2, h3, h4⟩
    · exact .inl hA
    · have hi := hi_ne i l' h3
      rw [upd_other _ _ hi] at h1 h3
      exact .inr ⟨i, o', l', h1, h2, h3, h4⟩
  refine h.move k g (fun i o' hi => hβ i (hne i o' hi)) ?_ ?_ ?_ h.fr
  · intro i o' hi hlive
    by_cases he : i = id
    · subst he
      rw [upd_same] at hi
      injection hi with hi
      subst hi
      refine .inr ?_
      show (∀ r ∈ ([] : List (List D)), r.length = sz) ∧ 0 < sz ∧ _
      exact ⟨(fun r hr => by cases hr), hsz, Or.inl ⟨upd_same _ _ _, rfl⟩⟩
    · rw [upd_other _ _ he] at hi
      exact .inl ⟨hi, fun _ _ => rfl⟩
  · intro i j oi oj li lj h1 h2 h3 h4 h5 h6 h7
    have hi := hi_ne i li h3
    have hj := hi_ne j lj h6
    rw [upd_other _ _ hi] at h1 h3
    rw [upd_other _ _ hj] at h4 h6
    exact h.inj i j oi oj li lj h1 h2 h3 h4 h5 h6 h7
  · intro i o' l' h1 h2 h3
    have hi := hi_ne i l' h3
    rw [upd_other _ _ hi] at h1 h3
    exact h.new i o' l' h1 h2 h3

theorem goes_up {β : Nat → Option Loc} {m : Nat → Option O} {id : Nat} {o o' : O} (hid : m id = some o) (hs : o.sub o') : Goes β m β (upd m id (some o')) := by
  intro i oi hi
  by_cases he : i = id
  · subst he
    rw [hid] at hi; injection hi with hi; subst hi
    exact ⟨o', upd_same _ _ _, hs, fun _ => rfl⟩
  · exact ⟨oi, by rw [upd_other _ _ he]; exact hi, oi.sub_refl, fun _ => rfl⟩

/-- An object is given up. -/
theorem Sim.kill (h : Sim w0 A locs β σ a w) {id : Nat} {o : O} (hid : σ.m id = some o) : Sim w0 A locs β { σ with m := upd σ.m id (some .gone) } a w := by
  have g : Goes β σ.m β (upd σ.m id (some .gone)) := goes_up hid o.sub_gone
  have hi_ne : ∀ i o', upd σ.m id (some .gone) i = some o' → o'.live = true → i ≠ id ∧ σ.m i = some o' := fun i o' hi hl => by
    by_cases e : i = id
    · subst e; rw [upd_same] at hi; injection hi with hi; subst hi; simp [O.live] at hl
    · exact ⟨e, by rw [upd_other _ _ e] at hi; exact hi⟩
  refine h.move ⟨Nat.le_refl _, fun _ _ _ => rfl, fun b hb hB hB' => hB ?_⟩ g (fun _ _ _ => rfl) ?_ ?_ ?_ h.fr
  · rcases hB' with hA | ⟨i, o', l', h1, h2, h3, h4⟩
    · exact .inl hA
    · exact .inr ⟨i, o', l', (hi_ne i o' h1 h2).2, h2, h3, h4⟩
  · exact fun i o' hi hl => .inl ⟨(hi_ne i o' hi hl).2, fun _ _ => rfl⟩
  · exact fun i j oi oj li lj h1 h2 h3 h4 h5 h6 h7 => h.inj i j oi oj li lj (hi_ne i oi h1 h2).2 h2 h3 (hi_ne j oj h4 h5).2 h5 h6 h7
  · exact fun i o' l' h1 h2 h3 => h.new i o' l' (hi_ne i o' h1 h2).2 h2 h3

/-- The block of one object is written, and the object with it. -/
theorem Sim.write (h : Sim w0 A locs β σ a w) {w' : World} {id : Nat} {o o' : O} {l : Loc} (hid : σ.m id = some o) (hlive : o.live = true) (hlive' : o'.live = true) (hs : o.sub o') (hl : β id = some l)
    (hw : ∀ b, b ≠ l.b → w'.heap[b]? = w.heap[b]?) (hsz : w'.heap.size = w.heap.size) (hos : w'.os = w.os) (htape : w'.tape = w.tape) (hout : w'.output = w.output)
    (ho : Keeps w (Bl A β σ.m) w' (Bl A β σ.m) → Goes β σ.m β (upd σ.m id (some o')) → ObRep w' (Bl A β σ.m) β (upd σ.m id (some o')) id o') :
    Sim w0 A locs β { σ with m := upd σ.m id (some o') } a w' := by
  have hBl : Bl A β (upd σ.m id (some o')) = Bl A β σ.m := by
    funext b
    apply propext
    constructor
    · rintro (hA | ⟨i, oi, li, h1, h2, h3, h4⟩)
      · exact .inl hA
      · by_cases e : i = id
        · subst e; exact .inr ⟨i, o, li, hid, hlive, h3, h4⟩
        · rw [upd_other _ _ e] at h1; exact .inr ⟨i, oi, li, h1, h2, h3, h4⟩
    · rintro (hA | ⟨i, oi, li, h1, h2, h3, h4⟩)
      · exact .inl hA
      · by_cases e : i = id
        · subst e; exact .inr ⟨i, o', li, upd_same _ _ _, hlive', h3, h4⟩
        · exact .inr ⟨i, oi, li, by rw [upd_other _ _ e]; exact h1, h2, h3, h4⟩
  have k : Keeps w (Bl A β σ.m) w' (Bl A β σ.m) := ⟨by omega, fun b _ hB => hw b (fun e => hB (.inr ⟨id, o, l, hid, hlive, hl, e.symm⟩)), fun _ _ h => h⟩
  have g : Goes β σ.m β (upd σ.m id (some o')) := goes_up hid hs
  have k' : Keeps w (Bl A β σ.m) w' (Bl A β (upd σ.m id (some o'))) := by rw [hBl]; exact k
  have hin : ∀ i oi, upd σ.m id (some o') i = some oi → oi.live = true → ∃ oj, σ.m i = some oj ∧ oj.live = true := fun i oi hi hl' => by
    by_cases e : i = id
    · subst e; exact ⟨o, hid, hlive⟩
    · rw [upd_other _ _ e] at hi; exact ⟨oi, hi, hl'⟩
  refine h.move k' g (fun _ _ _ => rfl) ?_ ?_ ?_ ?_
  · intro i oi hi hl'
    by_cases e : i = id
    · subst e
      rw [upd_same] at hi; injection hi with hi; subst hi
      exact .inr (by rw [hBl]; exact ho k g)
    · rw [upd_other _ _ e] at hi
      exact .inl ⟨hi, fun l' hl'' => hw _ (fun eb => e (h.inj i id oi o l' l hi hl' hl'' hid hlive hl eb))⟩
  · intro i j oi oj li lj h1 h2 h3 h4 h5 h6 h7
    obtain ⟨oi', h1', h2'⟩ := hin i oi h1 h2
    obtain ⟨oj', h4', h5'⟩ := hin j oj h4 h5
    exact h.inj i j oi' oj' li lj h1' h2' h3 h4' h5' h6 h7
  · intro i oi li h1 h2 h3
    obtain ⟨oi', h1', h2'⟩ := hin i oi h1 h2
    rw [hsz]
    exact h.new i oi' li h1' h2' h3
  · refine ⟨hos.trans h.fr.os, htape.trans h.fr.tape, hout.trans h.fr.output, by rw [hsz]; exact h.fr.size, fun b hb hlo => ?_, h.fr.tb⟩
    rw [hw b ?_]
    · exact h.fr.blk b hb hlo
    · rintro rfl
      rcases (h.new id o l hid hlive hl).2.2 with h1 | ⟨l0, h1, h2⟩
      · omega
      · exact hlo l0 h1 h2
end
end Go.Am
