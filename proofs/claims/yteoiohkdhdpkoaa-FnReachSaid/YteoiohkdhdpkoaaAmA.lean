/- The abstract machine: data, states, operations. -/
import Derived.Test.YteoiohkdhdpkoaaAmT
/-! The abstract machine, part 1: Go data without memory, how they are read off a world, and what keeps a reading. Over any program. -/
namespace Go.Am
open Go

/-- Go data as plain values. 'list': a slice's elements, each the list of its cells. 'ptr': the cells from an address on. -/
inductive D where
  | int (k : IntKind) (n : Int)
  | bool (b : Bool)
  | str (s : ByteArray)
  | list (rows : List (List D))
  | agg (cs : List D)
  | fn (f : FuncId) (caps : List D)
  | ptr (cs : List D)
  | other (v : Value)

/-- The value reads as the datum in the world, through no block of B. -/
inductive Rep (w : World) (B : Nat → Prop) : Value → D → Prop where
  | int (k : IntKind) (n : Int) : Rep w B (.int k n) (.int k n)
  | bool (b : Bool) : Rep w B (.bool b) (.bool b)
  | str (s : ByteArray) : Rep w B (.string s) (.str s)
  | other (v : Value) : Rep w B v (.other v)
  | nil (a : Option Addr) (c : Nat) : Rep w B (.slice a 0 c) (.list [])
  | list (ad : Addr) (n c : Nat) (rows : List (List D)) (sz : Nat) (g : Nat → Value) : n = rows.length → n ≤ c → (∀ r ∈ rows, r.length = sz) →
      ad.block < w.heap.size → ¬ B ad.block → ad.spot = none →
      (∀ (j : Nat) (d : D), rows.flatten[j]? = some d → w.cell? (ad.add j) = some (g j) ∧ w.frozen? (ad.add j) = false) →
      (∀ (j : Nat) (d : D), rows.flatten[j]? = some d → Rep w B (g j) d) → Rep w B (.slice (some ad) n c) (.list rows)
  | agg (vs : Array Value) (ds : List D) : vs.size = ds.length → (∀ (j : Nat) (d : D), ds[j]? = some d → Rep w B (vs.getD j undef) d) → Rep w B (.agg vs) (.agg ds)
  | fn (f : FuncId) (vs : Array Value) (ds : List D) : vs.size = ds.length → (∀ (j : Nat) (d : D), ds[j]? = some d → Rep w B (vs.getD j undef) d) →
      Rep w B (.func (.func f) #[] vs) (.fn f ds)
  | ptr (ad : Addr) (ds : List D) (g : Nat → Value) : ad.block < w.heap.size → ¬ B ad.block → ad.spot = none →
      (∀ (j : Nat) (d : D), ds[j]? = some d → w.cell? (ad.add j) = some (g j) ∧ w.frozen? (ad.add j) = false) →
      (∀ (j : Nat) (d : D), ds[j]? = some d → Rep w B (g j) d) → Rep w B (.pointer (some ad)) (.ptr ds)

theorem block_add (a : Addr) (n : Nat) : (a.add n).block = a.block := by unfold Addr.add; split <;> rfl
theorem add_add (a : Addr) (i j : Nat) : (a.add i).add j = a.add (i + j) := by
  unfold Addr.add
  by_cases hi : i = 0 <;> by_cases hj : j = 0 <;> simp [hi, hj, Nat.add_assoc]
theorem add_spot {a : Addr} (h : a.spot = none) (n : Nat) : a.add n = ⟨a.block, a.off + n, none⟩ := by
  unfold Addr.add
  split
  · rename_i h0; subst h0; cases a; simp_all
  · rfl

/-- What keeps every reading: blocks outside B are as they were, and B has not grown over old blocks. -/
structure Keeps (w : World) (B : Nat → Prop) (w' : World) (B' : Nat → Prop) : Prop where
  size : w.heap.size ≤ w'.heap.size
  blk : ∀ b, b < w.heap.size → ¬ B b → w'.heap[b]? = w.heap[b]?
  out : ∀ b, b < w.heap.size → ¬ B b → ¬ B' b

theorem Keeps.refl (w : World) (B : Nat → Prop) : Keeps w B w B := ⟨Nat.le_refl _, fun _ _ _ => rfl, fun _ _ h => h⟩
theorem Keeps.trans {w w' w'' : World} {B B' B'' : Nat → Prop} (h : Keeps w B w' B') (k : Keeps w' B' w'' B'') : Keeps w B w'' B'' :=
  ⟨Nat.le_trans h.size k.size, fun b hb hB => (k.blk b (Nat.lt_of_lt_of_le hb h.size) (h.out b hb hB)).trans (h.blk b hb hB),
   fun b hb hB => k.out b (Nat.lt_of_lt_of_le hb h.size) (h.out b hb hB)⟩

theorem frozen_of_block {w w' : World} {a : Addr} (h : w'.heap[a.block]? = w.heap[a.block]?) : w'.frozen? a = w.frozen? a := by
  unfold World.frozen?
  rw [h]

theorem Rep.keep {w w' : World} {B B' : Nat → Prop} (h : Keeps w B w' B') {v : Value} {d : D} (r : Rep w B v d) : Rep w' B' v d := by
  induction r with
  | int k n => exact .int k n
  | bool b => exact .bool b
  | str s => exact .str s
  | other v => exact .other v
  | nil a c => exact .nil a c
  | list ad n c rows sz g hn hc hr hb hB hs hcell _ ih =>
    exact .list ad n c rows sz g hn hc hr (Nat.lt_of_lt_of_le hb h.size) (h.out _ hb hB) hs
      (fun j d hj => ⟨(World.cell?_of_block (by rw [block_add]; exact h.blk _ hb hB)).trans (hcell j d hj).1, (frozen_of_block (by rw [block_add]; exact h.blk _ hb hB)).trans (hcell j d hj).2⟩) ih
  | agg vs ds hs _ ih => exact .agg vs ds hs ih
  | fn f vs ds hs _ ih => exact .fn f vs ds hs ih
  | ptr ad ds g hb hB hs hcell _ ih =>
    exact .ptr ad ds g (Nat.lt_of_lt_of_le hb h.size) (h.out _ hb hB) hs
      (fun j d hj => ⟨(World.cell?_of_block (by rw [block_add]; exact h.blk _ hb hB)).trans (hcell j d hj).1, (frozen_of_block (by rw [block_add]; exact h.blk _ hb hB)).trans (hcell j d hj).2⟩) ih

/-- Data that lie in one cell. -/
def D.one : D → Bool
  | .agg _ => false
  | .other v => v.oneCell'
  | _ => true

theorem Rep.one {w : World} {B : Nat → Prop} {v : Value} {d : D} (r : Rep w B v d) (h : d.one = true) : v.oneCell' = true := by
  cases r <;> first | rfl | exact h | simp [D.one] at h

/-- A constant as a datum. -/
def toD : Value → D
  | .int k n => .int k n
  | .bool b => .bool b
  | .string s => .str s
  | .slice none 0 0 => .list []
  | .func (.func f) ⟨[]⟩ ⟨[]⟩ => .fn f []
  | v => .other v

theorem rep_toD (w : World) (B : Nat → Prop) (v : Value) : Rep w B v (toD v) := by
  unfold toD
  split <;> first
    | exact .int _ _ | exact .bool _ | exact .str _ | exact .nil _ _ | exact .other _
    | exact .fn _ _ [] rfl (fun j d hj => by simp at hj)

/-- What a slot may hold: 'own': a part of an array that this call alone holds; 'box': an address in a variable of this call's own; 'eptr': an address in such an array; 'clo': a function with captured boxes. -/
inductive AV where
  | dead
  | undef
  | imm (d : D)
  | own (id off len : Nat)
  | box (id off : Nat)
  | eptr (id row off : Nat)
  | clo (f : FuncId) (ids : List Nat)
  | tup (l : List AV)
  | tv (id : Nat) (d : D)
  | mix (l : List AV)

/-- Where an object lies; 'rg': the blocks of a region, and the world in which its values are read. -/
structure Loc where
  b : Nat
  base : Nat
  tot : Nat
  rg : Option ((Nat → Prop) × World) := none

inductive O where
  | box (ty : TypeId) (cells : List AV)
  | arr (ty : TypeId) (sz : Nat) (rows : List (List D))
  | gone
  | reg (c : Bool)
  | cel (sz : Nat) (rows : List (List D))
  | ext (I : World → (Nat → Prop) → Prop)

/-- The blocks that belong to an object. -/
def Loc.has (l : Loc) (b : Nat) : Prop := l.b = b ∨ ∃ r, l.rg = some r ∧ r.1 b
theorem Loc.self (l : Loc) : l.has l.b := .inl rfl
theorem Loc.has_none {l : Loc} (h : l.rg = none) {b : Nat} (hb : l.has b) : l.b = b := by
  rcases hb with hb | ⟨r, hr, _⟩
  · exact hb
  · rw [h] at hr; cases hr

/-- A value of a region reads as the datum in the region's own world, through its blocks alone. -/
def RegRd : Option Loc → Value → D → Prop
  | none, v, d => ∀ (w : World) (B : Nat → Prop), Rep w B v d
  | some l, v, d => ∃ r, l.rg = some r ∧ Rep r.2 (fun b => ¬ r.1 b) v d

def LikeV (v v' : Value) : Prop := v' = v ∨ (∃ k n n', v = .int k n ∧ v' = .int k n') ∨ ∃ s s', v = .string s ∧ v' = .string s'

/-- A region's block as it was, or, where the region has been written, with other numbers and texts. -/
def LikeO (c : Bool) (o o' : Option Obj) : Prop :=
  o' = o ∨ (c = false ∧ ∃ (cs cs' : Array Value) (ty : TypeId) (fz : Nat × Nat), o = some (.cells cs ty fz) ∧ o' = some (.cells cs' ty fz) ∧ cs'.size = cs.size ∧ ∀ j, LikeV (cs.getD j Go.undef) (cs'.getD j Go.undef))

/-- What is told of an object's blocks alone. -/
def ExtAt (I : World → (Nat → Prop) → Prop) (w : World) (F : Nat → Prop) : Prop := ∀ w' : World, (∀ b, F b → w'.heap[b]? = w.heap[b]?) → w.heap.size ≤ w'.heap.size → I w' F
theorem ExtAt.now {I : World → (Nat → Prop) → Prop} {w : World} {F : Nat → Prop} (h : ExtAt I w F) : I w F := h w (fun _ _ => rfl) (Nat.le_refl _)
theorem ExtAt.keep {I : World → (Nat → Prop) → Prop} {w w' : World} {F : Nat → Prop} (h : ExtAt I w F) (hb : ∀ b, F b → w'.heap[b]? = w.heap[b]?) (hs : w.heap.size ≤ w'.heap.size) : ExtAt I w' F :=
  fun w2 h2 hs2 => h w2 (fun b hl => (h2 b hl).trans (hb b hl)) (Nat.le_trans hs hs2)
/-- The blocks of a place. -/
def foot (ol : Option Loc) : Nat → Prop := fun b => ∃ l, ol = some l ∧ l.has b

def O.live : O → Bool
  | .gone => false
  | _ => true

section
variable (w : World) (B : Nat → Prop) (β : Nat → Option Loc) (m : Nat → Option O)

def BoxAt (id off : Nat) (v : Value) : Prop :=
  match m id with
  | some (.box _ _) => ∃ l, β id = some l ∧ v = .pointer (some ⟨l.b, off, none⟩)
  | some .gone => True
  | _ => False

def AvRep0 : AV → Value → Prop
  | .dead, _ => True
  | .undef, v => v = Go.undef
  | .imm d, v => Rep w B v d
  | .own id off len, v =>
    match m id with
    | some (.arr _ sz rows) => off + len ≤ rows.length ∧ ((β id = none ∧ v = .slice none 0 0) ∨
        ∃ l ad, β id = some l ∧ v = .slice (some ad) len (l.tot - off) ∧ off ≤ l.tot ∧ (off < l.tot → ad = ⟨l.b, l.base + off * sz, none⟩))
    | some (.cel sz rows) => off + len ≤ rows.length ∧ ∃ ad c, v = .slice ad len c ∧ len ≤ c ∧ (0 < len → ∃ l, β id = some l ∧ ad = some ⟨l.b, l.base + off * sz, none⟩)
    | some .gone => True
    | _ => False
  | .box id off, v => BoxAt β m id off v
  | .eptr id row off, v =>
    match m id with
    | some (.arr _ sz rows) => row < rows.length ∧ ∃ l, β id = some l ∧ v = .pointer (some ⟨l.b, l.base + row * sz + off, none⟩)
    | some (.cel sz rows) => row < rows.length ∧ ∃ l, β id = some l ∧ v = .pointer (some ⟨l.b, l.base + row * sz + off, none⟩)
    | some .gone => True
    | _ => False
  | .clo f ids, v => ∃ vs : Array Value, v = .func (.func f) #[] vs ∧ vs.size = ids.length ∧ ∀ (i id : Nat), ids[i]? = some id → BoxAt β m id 0 (vs.getD i Go.undef)
  | .tup _, _ => False
  | .mix _, _ => False
  | .tv id d, v =>
    match m id with
    | some (.reg _) => RegRd (β id) v d
    | some .gone => True
    | _ => False

def AvRep : AV → Value → Prop
  | .tup l, v => ∃ vs : Array Value, v = .tuple vs ∧ vs.size = l.length ∧ ∀ (i : Nat) (a : AV), l[i]? = some a → AvRep0 w B β m a (vs.getD i Go.undef)
  | .mix l, v => ∃ vs : Array Value, v = .agg vs ∧ vs.size = l.length ∧ ∀ (i : Nat) (a : AV), l[i]? = some a → AvRep0 w B β m a (vs.getD i Go.undef)
  | a, v => AvRep0 w B β m a v

def ObRep (id : Nat) : O → Prop
  | .gone => True
  | .box ty cells => ∃ (l : Loc) (cs : Array Value), β id = some l ∧ w.heap[l.b]? = some (.cells cs ty (0, 0)) ∧ cs.size = cells.length ∧
      ∀ (j : Nat) (a : AV), cells[j]? = some a → AvRep0 w B β m a (cs.getD j Go.undef)
  | .arr ty sz rows => (∀ r ∈ rows, r.length = sz) ∧ 0 < sz ∧ ((β id = none ∧ rows = []) ∨
      ∃ (l : Loc) (cs : Array Value), β id = some l ∧ w.heap[l.b]? = some (.cells cs ty (0, 0)) ∧ cs.size = l.base + l.tot * sz ∧ rows.length ≤ l.tot ∧ l.tot ≤ maxLen ∧
        ∀ (j : Nat) (d : D), rows.flatten[j]? = some d → Rep w B (cs.getD (l.base + j) Go.undef) d)
  | .reg c => β id = none ∨ ∃ (l : Loc) (r : (Nat → Prop) × World), β id = some l ∧ l.rg = some r ∧ r.2.heap.size ≤ w.heap.size ∧ ∀ b, r.1 b → LikeO c r.2.heap[b]? w.heap[b]?
  | .cel sz rows => (∀ r ∈ rows, r.length = sz) ∧ 0 < sz ∧ ((β id = none ∧ rows = []) ∨
      ∃ (l : Loc) (g : Nat → Value), β id = some l ∧ ∀ (j : Nat) (d : D), rows.flatten[j]? = some d → (w.cell? ⟨l.b, l.base + j, none⟩ = some (g j) ∧ w.frozen? ⟨l.b, l.base + j, none⟩ = false) ∧ Rep w B (g j) d)
  | .ext I => ExtAt I w (foot (β id))
end

/-- An object stays of its make, or is given up. -/
def O.sub : O → O → Prop
  | .gone, o' => o' = .gone
  | .box _ _, o' => o' = .gone ∨ ∃ ty cells, o' = .box ty cells
  | .arr _ sz rows, o' => o' = .gone ∨ ∃ ty rows', o' = .arr ty sz rows' ∧ rows.length ≤ rows'.length
  | .reg _, o' => o' = .gone ∨ ∃ c', o' = .reg c'
  | .cel sz rows, o' => o' = .gone ∨ ∃ rows', o' = .cel sz rows' ∧ rows.length ≤ rows'.length
  | .ext _, o' => o' = .gone ∨ ∃ I', o' = .ext I'

theorem O.sub_refl (o : O) : o.sub o := by
  cases o with
  | gone => rfl
  | box ty cells => exact .inr ⟨_, _, rfl⟩
  | arr ty sz rows => exact .inr ⟨_, _, rfl, Nat.le_refl _⟩
  | reg c => exact .inr ⟨_, rfl⟩
  | cel sz rows => exact .inr ⟨_, rfl, Nat.le_refl _⟩
  | ext I => exact .inr ⟨_, rfl⟩
theorem O.sub_gone (o : O) : o.sub .gone := by
  cases o with
  | gone => rfl
  | box ty cells => exact .inl rfl
  | arr ty sz rows => exact .inl rfl
  | reg c => exact .inl rfl
  | cel sz rows => exact .inl rfl
  | ext I => exact .inl rfl

/-- The objects go on: each old one stays of its make at its place, or is given up. -/
def Goes (β : Nat → Option Loc) (m : Nat → Option O) (β' : Nat → Option Loc) (m' : Nat → Option O) : Prop :=
  ∀ id o, m id = some o → ∃ o', m' id = some o' ∧ o.sub o' ∧ (o'.live = true → β' id = β id)

theorem Goes.refl (β : Nat → Option Loc) (m : Nat → Option O) : Goes β m β m := fun _ o h => ⟨o, h, o.sub_refl, fun _ => rfl⟩

theorem BoxAt.keep {β β' : Nat → Option Loc} {m m' : Nat → Option O} (g : Goes β m β' m') {id off : Nat} {v : Value} (h : BoxAt β m id off v) : BoxAt β' m' id off v := by
  unfold BoxAt at h ⊢
  cases ho : m id with
  | none => simp [ho] at h
  | some o =>
    obtain ⟨o', ho', hs, hl⟩ := g id o ho
    rw [ho']
    cases o with
    | gone => rw [show o' = .gone from hs]; trivial
    | arr ty sz rows => simp [ho] at h
    | reg c => simp [ho] at h
    | ext I => simp [ho] at h
    | cel sz rows => simp [ho] at h
    | box ty cells =>
      rcases hs with rfl | ⟨ty', cells', rfl⟩
      · trivial
      · simp only [ho] at h
        rw [hl rfl]; exact h

theorem AvRep0.keep {w w' : World} {B B' : Nat → Prop} {β β' : Nat → Option Loc} {m m' : Nat → Option O} (k : Keeps w B w' B') (g : Goes β m β' m') {a : AV} {v : Value}
    (h : AvRep0 w B β m a v) : AvRep0 w' B' β' m' a v := by
  cases a with
  | dead => trivial
  | undef => exact h
  | imm d => exact Rep.keep k h
  | tup l => exact h
  | mix l => exact h
  | box id off => exact BoxAt.keep g h
  | clo f ids =>
    obtain ⟨vs, hv, hs, hi⟩ := h
    exact ⟨vs, hv, hs, fun i id hid => (hi i id hid).keep g⟩
  | own id off len =>
    simp only [AvRep0] at h ⊢
    cases ho : m id with
    | none => simp [ho] at h
    | some o =>
      obtain ⟨o', ho', hs, hl⟩ := g id o ho
      rw [ho']
      cases o with
      | gone => rw [show o' = .gone from hs]; trivial
      | box ty cells => simp [ho] at h
      | reg c => simp [ho] at h
      | ext I => simp [ho] at h
      | arr ty sz rows =>
        rcases hs with rfl | ⟨ty', rows', rfl, hlen⟩
        · trivial
        · simp only [ho] at h
          rw [hl rfl]; exact ⟨Nat.le_trans h.1 hlen, h.2⟩
      | cel sz rows =>
        rcases hs with rfl | ⟨rows', rfl, hlen⟩
        · trivial
        · simp only [ho] at h
          rw [hl rfl]; exact ⟨Nat.le_trans h.1 hlen, h.2⟩
  | eptr id row off =>
    simp only [AvRep0] at h ⊢
    cases ho : m id with
    | none => simp [ho] at h
    | some o =>
      obtain ⟨o', ho', hs, hl⟩ := g id o ho
      rw [ho']
      cases o with
      | gone => rw [show o' = .gone from hs]; trivial
      | box ty cells => simp [ho] at h
      | reg c => simp [ho] at h
      | ext I => simp [ho] at h
      | arr ty sz rows =>
        rcases hs with rfl | ⟨ty', rows', rfl, hlen⟩
        · trivial
        · simp only [ho] at h
          rw [hl rfl]; exact ⟨Nat.lt_of_lt_of_le h.1 hlen, h.2⟩
      | cel sz rows =>
        rcases hs with rfl | ⟨rows', rfl, hlen⟩
        · trivial
        · simp only [ho] at h
          rw [hl rfl]; exact ⟨Nat.lt_of_lt_of_le h.1 hlen, h.2⟩
  | tv id d =>
    simp only [AvRep0] at h ⊢
    cases ho : m id with
    | none => simp [ho] at h
    | some o =>
      obtain ⟨o', ho', hs, hl⟩ := g id o ho
      rw [ho']
      cases o with
      | gone => rw [show o' = .gone from hs]; trivial
      | box ty cells => simp [ho] at h
      | arr ty sz rows => simp [ho] at h
      | cel sz rows => simp [ho] at h
      | ext I => simp [ho] at h
      | reg c =>
        rcases hs with rfl | ⟨c', rfl⟩
        · trivial
        · simp only [ho] at h
          rw [hl rfl]; exact h

theorem AvRep.keep {w w' : World} {B B' : Nat → Prop} {β β' : Nat → Option Loc} {m m' : Nat → Option O} (k : Keeps w B w' B') (g : Goes β m β' m') {a : AV} {v : Value}
    (h : AvRep w B β m a v) : AvRep w' B' β' m' a v := by
  cases a with
  | tup l =>
    obtain ⟨vs, hv, hs, hi⟩ := h
    exact ⟨vs, hv, hs, fun i a ha => (hi i a ha).keep k g⟩
  | mix l =>
    obtain ⟨vs, hv, hs, hi⟩ := h
    exact ⟨vs, hv, hs, fun i a ha => (hi i a ha).keep k g⟩
  | dead => trivial
  | undef => exact h
  | imm d => exact Rep.keep k h
  | box id off => exact BoxAt.keep g h
  | own id off len => exact AvRep0.keep (a := .own id off len) k g h
  | eptr id row off => exact AvRep0.keep (a := .eptr id row off) k g h
  | clo f ids => exact AvRep0.keep (a := .clo f ids) k g h
  | tv id d => exact AvRep0.keep (a := .tv id d) k g h

end Go.Am

/-! The abstract machine, part 2: its states, how a state stands for slots and memory, and the moves on memory that keep this. -/
namespace Go.Am
open Go

def upd {α : Type} (f : Nat → α) (k : Nat) (v : α) : Nat → α := fun j => if j = k then v else f j

theorem upd_same {α : Type} (f : Nat → α) (k : Nat) (v : α) : upd f k v k = v := by simp [upd]
theorem upd_other {α : Type} (f : Nat → α) {k j : Nat} (v : α) (h : j ≠ k) : upd f k v j = f j := by simp [upd, h]

/-- A state: slots, objects, the number of the region (for new names), how many slots there are, the names of the objects that came in to be written. -/
structure S where
  t : Nat → AV
  m : Nat → Option O
  ep : Nat
  n : Nat
  pm : List Nat

/-- What one operation does: its value, and the objects that it makes, changes or gives up. -/
structure Eff where
  v : AV
  up : List (Nat × O)

def upm (m : Nat → Option O) : List (Nat × O) → Nat → Option O
  | [] => m
  | (id, o) :: r => upm (upd m id (some o)) r

def S.put (σ : S) (dst : Option Nat) (v : AV) : S :=
  match dst with
  | some d => { σ with t := upd σ.t d v }
  | none => σ

def S.app (σ : S) (dst : Option Nat) (e : Eff) : S := { σ.put dst e.v with m := upm σ.m e.up }

@[simp] theorem S.put_m (σ : S) (dst : Option Nat) (v : AV) : (σ.put dst v).m = σ.m := by cases dst <;> rfl
@[simp] theorem S.put_n (σ : S) (dst : Option Nat) (v : AV) : (σ.put dst v).n = σ.n := by cases dst <;> rfl
@[simp] theorem S.put_ep (σ : S) (dst : Option Nat) (v : AV) : (σ.put dst v).ep = σ.ep := by cases dst <;> rfl
@[simp] theorem S.put_pm (σ : S) (dst : Option Nat) (v : AV) : (σ.put dst v).pm = σ.pm := by cases dst <;> rfl

/-- The blocks through which no plain datum may be read: those kept from us, and those of our objects. -/
def Bl (A : Nat → Prop) (β : Nat → Option Loc) (m : Nat → Option O) : Nat → Prop :=
  fun b => A b ∨ ∃ id o l, m id = some o ∧ o.live = true ∧ β id = some l ∧ l.has b

/-- The package variables lie in their blocks, and nobody may write there. -/
def Tb (w0 : World) (locs : List (Option Loc)) : Prop :=
  ∀ g cs, (g, cs) ∈ tabs → (∃ ty fz, w0.heap[g]? = some (.cells cs ty fz)) ∧ ∀ l, some l ∈ locs → ¬ l.has g

/-- Memory that was there is as it was, but for the blocks of 'locs'. -/
structure Fr (w0 : World) (locs : List (Option Loc)) (w : World) : Prop where
  os : w.os = w0.os
  tape : w.tape = w0.tape
  output : w.output = w0.output
  size : w0.heap.size ≤ w.heap.size
  blk : ∀ b, b < w0.heap.size → (∀ l, some l ∈ locs → ¬ l.has b) → w.heap[b]? = w0.heap[b]?
  tb : Tb w0 locs
  drawn : w0.drawn ≤ w.drawn

theorem Fr.refl (w : World) (locs : List (Option Loc)) (h : Tb w locs) : Fr w locs w := ⟨rfl, rfl, rfl, Nat.le_refl _, fun _ _ _ => rfl, h, Nat.le_refl _⟩

theorem tb_of_nil (h : tabs = []) {w : World} {locs : List (Option Loc)} : Tb w locs := by
  intro g cs hg
  rw [h] at hg
  cases hg

/-- A block with its cells is within the heap. -/
theorem lt_of_cells {w : World} {g : Nat} {o : Obj} (h : w.heap[g]? = some o) : g < w.heap.size := by
  rcases Nat.lt_or_ge g w.heap.size with h' | h'
  · exact h'
  · rw [Array.getElem?_eq_none h'] at h; cases h

/-- The state stands for these slots and this world. -/
structure Sim (w0 : World) (A : Nat → Prop) (locs : List (Option Loc)) (β : Nat → Option Loc) (σ : S) (a : Act) (w : World) : Prop where
  size : a.tmps.size = σ.n
  defers : a.defers = []
  slot : ∀ i, AvRep w (Bl A β σ.m) β σ.m (σ.t i) (a.tmps.getD i Go.undef)
  ob : ∀ id o, σ.m id = some o → ObRep w (Bl A β σ.m) β σ.m id o
  inj : ∀ id id' o o' l l' b, σ.m id = some o → o.live = true → β id = some l → σ.m id' = some o' → o'.live = true → β id' = some l' → l.has b → l'.has b → id = id'
  new : ∀ id o l, σ.m id = some o → o.live = true → β id = some l → ∀ b, l.has b → b < w.heap.size ∧ ¬ A b ∧ (w0.heap.size ≤ b ∨ ∃ l0, some l0 ∈ locs ∧ l0.has b)
  fr : Fr w0 locs w
  lt : ∀ b, A b → b < w.heap.size
  pm : σ.pm.length = locs.length ∧ ∀ (i id : Nat), σ.pm[i]? = some id → locs[i]? = some (β id) ∧ ∃ o, σ.m id = some o

/-- The same heap and streams: draws alone. -/
theorem Keeps.heap {w w' : World} {B : Nat → Prop} (h : w'.heap = w.heap) : Keeps w B w' B := ⟨by rw [h]; exact Nat.le_refl _, fun _ _ _ => by rw [h], fun _ _ h => h⟩

theorem ObRep.keep {w w' : World} {B B' : Nat → Prop} {β β' : Nat → Option Loc} {m m' : Nat → Option O} (k : Keeps w B w' B') (g : Goes β m β' m') {id : Nat} {o : O}
    (hβ : β' id = β id) (hb : ∀ l, β id = some l → ∀ b, l.has b → w'.heap[b]? = w.heap[b]?) (h : ObRep w B β m id o) : ObRep w' B' β' m' id o := by
  cases o with
  | gone => trivial
  | box ty cells =>
    obtain ⟨l, cs, h1, h2, h3, h4⟩ := h
    exact ⟨l, cs, hβ.trans h1, (hb l h1 _ l.self).trans h2, h3, fun j a hj => (h4 j a hj).keep k g⟩
  | arr ty sz rows =>
    obtain ⟨h0, hp, h⟩ := h
    refine ⟨h0, hp, ?_⟩
    rcases h with ⟨h1, h2⟩ | ⟨l, cs, h1, h2, h3, h4, h5, h6⟩
    · exact .inl ⟨hβ.trans h1, h2⟩
    · exact .inr ⟨l, cs, hβ.trans h1, (hb l h1 _ l.self).trans h2, h3, h4, h5, fun j d hj => (h6 j d hj).keep k⟩
  | reg c =>
    rcases h with h | ⟨l, r, h1, h2, h3, h4⟩
    · exact .inl (hβ.trans h)
    · exact .inr ⟨l, r, hβ.trans h1, h2, Nat.le_trans h3 k.size, fun b hb' => by rw [hb l h1 b (.inr ⟨r, h2, hb'⟩)]; exact h4 b hb'⟩
  | ext I =>
    have h : ExtAt I w (foot (β id)) := h
    show ExtAt I w' (foot (β' id))
    rw [hβ]
    exact h.keep (fun b ⟨l, hl, hb'⟩ => hb l hl b hb') k.size
  | cel sz rows =>
    obtain ⟨h0, hp, h⟩ := h
    refine ⟨h0, hp, ?_⟩
    rcases h with ⟨h1, h2⟩ | ⟨l, g', h1, h2⟩
    · exact .inl ⟨hβ.trans h1, h2⟩
    · refine .inr ⟨l, g', hβ.trans h1, fun j d hj => ?_⟩
      obtain ⟨⟨h3, h4⟩, h5⟩ := h2 j d hj
      exact ⟨⟨(World.cell?_of_block (hb l h1 _ l.self)).trans h3, (frozen_of_block (hb l h1 _ l.self)).trans h4⟩, h5.keep k⟩

section
variable {w0 w : World} {A : Nat → Prop} {locs : List (Option Loc)} {β : Nat → Option Loc} {σ : S} {a : Act}

theorem Sim.world (h : Sim w0 A locs β σ a w) {w' : World} (hh : w'.heap = w.heap) (ho : w'.os = w.os) (ht : w'.tape = w.tape) (hu : w'.output = w.output) (hdr : w.drawn ≤ w'.drawn) : Sim w0 A locs β σ a w' :=
  { size := h.size, defers := h.defers
    slot := fun i => (h.slot i).keep (Keeps.heap hh) (Goes.refl _ _)
    ob := fun id o hm => (h.ob id o hm).keep (Keeps.heap hh) (Goes.refl _ _) rfl (fun _ _ _ _ => by rw [hh])
    inj := h.inj
    new := fun id o l h1 h2 h3 => by rw [hh]; exact h.new id o l h1 h2 h3
    fr := ⟨ho.trans h.fr.os, ht.trans h.fr.tape, hu.trans h.fr.output, by rw [hh]; exact h.fr.size, fun b hb hl => by rw [hh]; exact h.fr.blk b hb hl, h.fr.tb, Nat.le_trans h.fr.drawn hdr⟩
    lt := fun b hb => by rw [hh]; exact h.lt b hb
    pm := h.pm }

theorem getD_put (tm : Array Value) (d i : Nat) (v : Value) (hd : d < tm.size) : (tm.setIfInBounds d v).getD i Go.undef = if i = d then v else tm.getD i Go.undef := by
  simp only [Array.getD_eq_getD_getElem?, Array.getElem?_setIfInBounds]
  by_cases h : d = i
  · subst h; simp [hd]
  · rw [if_neg h, if_neg (Ne.symm h)]

/-- A value is put into a slot. -/
theorem Sim.put (h : Sim w0 A locs β σ a w) {dst : Option Nat} {v : Value} {av : AV} (hd : ∀ d, dst = some d → d < σ.n) (hv : AvRep w (Bl A β σ.m) β σ.m av v) :
    Sim w0 A locs β (σ.put dst av) (a.put dst v) w := by
  cases dst with
  | none => exact h
  | some d =>
    have hd' : d < a.tmps.size := by rw [h.size]; exact hd d rfl
    refine { size := ?_, defers := h.defers, slot := ?_, ob := h.ob, inj := h.inj, new := h.new, fr := h.fr, lt := h.lt, pm := h.pm }
    · simpa [Act.put] using h.size
    · intro i
      show AvRep w _ β σ.m (upd σ.t d av i) ((a.tmps.setIfInBounds d v).getD i Go.undef)
      rw [getD_put _ _ _ _ hd']
      unfold upd
      split
      · exact hv
      · exact h.slot i

/-- What the objects' part of a state comes to behind a move: everything but the slot that is written. -/
theorem Sim.move (h : Sim w0 A locs β σ a w) {w' : World} {β' : Nat → Option Loc} {m' : Nat → Option O}
    (k : Keeps w (Bl A β σ.m) w' (Bl A β' m')) (g : Goes β σ.m β' m') (gβ : ∀ id o, σ.m id = some o → β' id = β id)
    (ob : ∀ id o, m' id = some o → o.live = true → (σ.m id = some o ∧ ∀ l, β id = some l → ∀ b, l.has b → w'.heap[b]? = w.heap[b]?) ∨ ObRep w' (Bl A β' m') β' m' id o)
    (inj : ∀ id id' o o' l l' b, m' id = some o → o.live = true → β' id = some l → m' id' = some o' → o'.live = true → β' id' = some l' → l.has b → l'.has b → id = id')
    (new : ∀ id o l, m' id = some o → o.live = true → β' id = some l → ∀ b, l.has b → b < w'.heap.size ∧ ¬ A b ∧ (w0.heap.size ≤ b ∨ ∃ l0, some l0 ∈ locs ∧ l0.has b))
    (fr : Fr w0 locs w') :
    Sim w0 A locs β' { σ with m := m' } a w' :=
  { size := h.size, defers := h.defers
    slot := fun i => (h.slot i).keep k g
    ob := fun id o hm => by
      cases hl : o.live with
      | false => cases o <;> first | trivial | (simp [O.live] at hl)
      | true =>
        rcases ob id o hm hl with ⟨h1, h2⟩ | h1
        · exact (h.ob id o h1).keep k g (gβ id o h1) h2
        · exact h1
    inj := inj, new := new, fr := fr
    lt := fun b hb => Nat.lt_of_lt_of_le (h.lt b hb) k.size
    pm := ⟨h.pm.1, fun i id hi => by
      obtain ⟨h1, o, h2⟩ := h.pm.2 i id hi
      obtain ⟨o', h3, _, _⟩ := g id o h2
      exact ⟨by rw [gβ id o h2]; exact h1, o', h3⟩⟩ }

theorem heap_alloc_lt (w : World) (o : Obj) {b : Nat} (h : b < w.heap.size) : (w.alloc o).heap[b]? = w.heap[b]? := by
  show (w.heap.push o)[b]? = _
  rw [Array.getElem?_push, if_neg (by omega)]
theorem heap_alloc_at (w : World) (o : Obj) : (w.alloc o).heap[w.heap.size]? = some o := by
  show (w.heap.push o)[w.heap.size]? = _
  rw [Array.getElem?_push, if_pos rfl]
theorem size_alloc (w : World) (o : Obj) : (w.alloc o).heap.size = w.heap.size + 1 := by show (w.heap.push o).size = _; simp

theorem Fr.alloc {w0 w : World} {locs : List (Option Loc)} (h : Fr w0 locs w) (o : Obj) : Fr w0 locs (w.alloc o) :=
  ⟨h.os, h.tape, h.output, by rw [size_alloc]; have := h.size; omega, fun b hb hl => (heap_alloc_lt w o (Nat.lt_of_lt_of_le hb h.size)).trans (h.blk b hb hl), h.tb, h.drawn⟩

/-- Whoever is handed some of our objects to write finds the package variables as they were. -/
theorem Sim.tb (h : Sim w0 A locs β σ a w) {locsC : List (Option Loc)} (hl : ∀ l, some l ∈ locsC → ∃ id o, σ.m id = some o ∧ o.live = true ∧ β id = some l) : Tb w locsC := by
  intro g cs hg
  obtain ⟨⟨ty, fz, h1⟩, h2⟩ := h.fr.tb g cs hg
  have hlt := lt_of_cells h1
  refine ⟨⟨ty, fz, (h.fr.blk g hlt h2).trans h1⟩, fun l hm e => ?_⟩
  obtain ⟨id, o, e1, e2, e3⟩ := hl l hm
  rcases (h.new id o l e1 e2 e3 _ e).2.2 with h3 | ⟨l0, h3, h4⟩
  · omega
  · exact h2 l0 h3 h4

theorem goes_new {β β' : Nat → Option Loc} {m : Nat → Option O} {id : Nat} {o : O} (hid : m id = none) (hβ : ∀ i, i ≠ id → β' i = β i) : Goes β m β' (upd m id (some o)) := by
  intro i o' hi
  have hne : i ≠ id := fun e => by subst e; rw [hid] at hi; cases hi
  exact ⟨o', by rw [upd_other _ _ hne]; exact hi, o'.sub_refl, fun _ => hβ i hne⟩

/-- A new object in a new block. -/
theorem Sim.new_ (h : Sim w0 A locs β σ a w) {id : Nat} {o : O} {cs : Array Value} {ty : TypeId} {l : Loc} (hid : σ.m id = none) (hl : l.b = w.heap.size) (hrg : l.rg = none)
    (ho : ∀ (w' : World) (B' : Nat → Prop) (β' : Nat → Option Loc) (m' : Nat → Option O), Keeps w (Bl A β σ.m) w' B' → Goes β σ.m β' m' → β' id = some l → m' id = some o → w'.heap[l.b]? = some (.cells cs ty (0, 0)) →
      ObRep w' B' β' m' id o) :
    Sim w0 A locs (upd β id (some l)) { σ with m := upd σ.m id (some o) } a (w.alloc (.cells cs ty)) := by
  have hβ : ∀ i, i ≠ id → upd β id (some l) i = β i := fun i hi => upd_other _ _ hi
  have g : Goes β σ.m (upd β id (some l)) (upd σ.m id (some o)) := goes_new hid hβ
  have hne : ∀ i o', σ.m i = some o' → i ≠ id := fun i o' hi e => by subst e; rw [hid] at hi; cases hi
  have k : Keeps w (Bl A β σ.m) (w.alloc (.cells cs ty)) (Bl A (upd β id (some l)) (upd σ.m id (some o))) := by
    refine ⟨by rw [size_alloc]; omega, fun b hb _ => heap_alloc_lt w _ hb, fun b hb hB hB' => hB ?_⟩
    rcases hB' with hA | ⟨i, o', l', h1, h2, h3, h4⟩
    · exact .inl hA
    · by_cases hi : i = id
      · subst hi
        rw [upd_same] at h3
        injection h3 with h3
        subst h3
        have := Loc.has_none hrg h4
        omega
      · rw [upd_other _ _ hi] at h1 h3
        exact .inr ⟨i, o', l', h1, h2, h3, h4⟩
  refine h.move k g (fun i o' hi => hβ i (hne i o' hi)) ?_ ?_ ?_ (h.fr.alloc _)
  · intro i o' hi hlive
    by_cases he : i = id
    · subst he
      rw [upd_same] at hi
      injection hi with hi
      subst hi
      exact .inr (ho _ _ _ _ k g (upd_same _ _ _) (upd_same _ _ _) (by rw [hl]; exact heap_alloc_at w _))
    · rw [upd_other _ _ he] at hi
      exact .inl ⟨hi, fun l' hl' b hb => heap_alloc_lt w _ (h.new i o' l' hi hlive hl' b hb).1⟩
  · intro i j oi oj li lj b h1 h2 h3 h4 h5 h6 h7 h8
    by_cases hi : i = id <;> by_cases hj : j = id
    · rw [hi, hj]
    · exfalso
      subst hi
      rw [upd_same] at h3; injection h3 with h3; subst h3
      rw [upd_other _ _ hj] at h4 h6
      have := (h.new j oj lj h4 h5 h6 b h8).1
      have := Loc.has_none hrg h7
      omega
    · exfalso
      subst hj
      rw [upd_same] at h6; injection h6 with h6; subst h6
      rw [upd_other _ _ hi] at h1 h3
      have := (h.new i oi li h1 h2 h3 b h7).1
      have := Loc.has_none hrg h8
      omega
    · rw [upd_other _ _ hi] at h1 h3
      rw [upd_other _ _ hj] at h4 h6
      exact h.inj i j oi oj li lj b h1 h2 h3 h4 h5 h6 h7 h8
  · intro i o' l' h1 h2 h3 b hb
    by_cases hi : i = id
    · subst hi
      rw [upd_same] at h3; injection h3 with h3; subst h3
      rw [← Loc.has_none hrg hb, hl, size_alloc]
      refine ⟨by omega, fun hA => ?_, .inl h.fr.size⟩
      have := h.lt _ hA
      omega
    · rw [upd_other _ _ hi] at h1 h3
      obtain ⟨h4, h5⟩ := h.new i o' l' h1 h2 h3 b hb
      exact ⟨by rw [size_alloc]; omega, h5⟩

/-- A new object in a new block, whatever world is behind. -/
theorem Sim.newAt (h : Sim w0 A locs β σ a w) {id : Nat} {o : O} {cs : Array Value} {ty : TypeId} {l : Loc} {fz : Nat × Nat} {w' : World} (hid : σ.m id = none) (hl : l.b = w.heap.size) (hrg : l.rg = none)
    (hw1 : w'.heap.size = w.heap.size + 1) (hw2 : ∀ j, j < w.heap.size → w'.heap[j]? = w.heap[j]?) (hw3 : w'.heap[w.heap.size]? = some (.cells cs ty fz)) (hfr : Fr w0 locs w')
    (ho : ∀ (w' : World) (B' : Nat → Prop) (β' : Nat → Option Loc) (m' : Nat → Option O), Keeps w (Bl A β σ.m) w' B' → Goes β σ.m β' m' → β' id = some l → m' id = some o → w'.heap[l.b]? = some (.cells cs ty fz) →
      ObRep w' B' β' m' id o) :
    Sim w0 A locs (upd β id (some l)) { σ with m := upd σ.m id (some o) } a w' := by
  have hβ : ∀ i, i ≠ id → upd β id (some l) i = β i := fun i hi => upd_other _ _ hi
  have g : Goes β σ.m (upd β id (some l)) (upd σ.m id (some o)) := goes_new hid hβ
  have hne : ∀ i o', σ.m i = some o' → i ≠ id := fun i o' hi e => by subst e; rw [hid] at hi; cases hi
  have k : Keeps w (Bl A β σ.m) w' (Bl A (upd β id (some l)) (upd σ.m id (some o))) := by
    refine ⟨by rw [hw1]; omega, fun b hb _ => hw2 b hb, fun b hb hB hB' => hB ?_⟩
    rcases hB' with hA | ⟨i, o', l', h1, h2, h3, h4⟩
    · exact .inl hA
    · by_cases hi : i = id
      · subst hi
        rw [upd_same] at h3
        injection h3 with h3
        subst h3
        have := Loc.has_none hrg h4
        omega
      · rw [upd_other _ _ hi] at h1 h3
        exact .inr ⟨i, o', l', h1, h2, h3, h4⟩
  refine h.move k g (fun i o' hi => hβ i (hne i o' hi)) ?_ ?_ ?_ hfr
  · intro i o' hi hlive
    by_cases he : i = id
    · subst he
      rw [upd_same] at hi
      injection hi with hi
      subst hi
      exact .inr (ho _ _ _ _ k g (upd_same _ _ _) (upd_same _ _ _) (by rw [hl]; exact hw3))
    · rw [upd_other _ _ he] at hi
      exact .inl ⟨hi, fun l' hl' b hb => hw2 _ (h.new i o' l' hi hlive hl' b hb).1⟩
  · intro i j oi oj li lj b h1 h2 h3 h4 h5 h6 h7 h8
    by_cases hi : i = id <;> by_cases hj : j = id
    · rw [hi, hj]
    · exfalso
      subst hi
      rw [upd_same] at h3; injection h3 with h3; subst h3
      rw [upd_other _ _ hj] at h4 h6
      have := (h.new j oj lj h4 h5 h6 b h8).1
      have := Loc.has_none hrg h7
      omega
    · exfalso
      subst hj
      rw [upd_same] at h6; injection h6 with h6; subst h6
      rw [upd_other _ _ hi] at h1 h3
      have := (h.new i oi li h1 h2 h3 b h7).1
      have := Loc.has_none hrg h8
      omega
    · rw [upd_other _ _ hi] at h1 h3
      rw [upd_other _ _ hj] at h4 h6
      exact h.inj i j oi oj li lj b h1 h2 h3 h4 h5 h6 h7 h8
  · intro i o' l' h1 h2 h3 b hb
    by_cases hi : i = id
    · subst hi
      rw [upd_same] at h3; injection h3 with h3; subst h3
      rw [← Loc.has_none hrg hb, hl, hw1]
      refine ⟨by omega, fun hA => ?_, .inl h.fr.size⟩
      have := h.lt _ hA
      omega
    · rw [upd_other _ _ hi] at h1 h3
      obtain ⟨h4, h5⟩ := h.new i o' l' h1 h2 h3 b hb
      exact ⟨by rw [hw1]; omega, h5⟩

/-- A new array that has no memory yet: a nil slice. -/
theorem Sim.newNil (h : Sim w0 A locs β σ a w) {id : Nat} (ty sz : Nat) (hid : σ.m id = none) (hsz : 0 < sz) :
    Sim w0 A locs (upd β id none) { σ with m := upd σ.m id (some (.arr ty sz [])) } a w := by
  have hβ : ∀ i, i ≠ id → upd β id none i = β i := fun i hi => upd_other _ _ hi
  have g : Goes β σ.m (upd β id none) (upd σ.m id (some (.arr ty sz []))) := goes_new hid hβ
  have hne : ∀ i o', σ.m i = some o' → i ≠ id := fun i o' hi e => by subst e; rw [hid] at hi; cases hi
  have hi_ne : ∀ i l, upd β id none i = some l → i ≠ id := fun i l hl e => by subst e; rw [upd_same] at hl; cases hl
  have k : Keeps w (Bl A β σ.m) w (Bl A (upd β id none) (upd σ.m id (some (.arr ty sz [])))) := by
    refine ⟨Nat.le_refl _, fun _ _ _ => rfl, fun b hb hB hB' => hB ?_⟩
    rcases hB' with hA | ⟨i, o', l', h1, h2, h3, h4⟩
    · exact .inl hA
    · have hi := hi_ne i l' h3
      rw [upd_other _ _ hi] at h1 h3
      exact .inr ⟨i, o', l', h1, h2, h3, h4⟩
  refine h.move k g (fun i o' hi => hβ i (hne i o' hi)) ?_ ?_ ?_ h.fr
  · intro i o' hi hlive
    by_cases he : i = id
    · subst he
      rw [upd_same] at hi
      injection hi with hi
      subst hi
      refine .inr ?_
      show (∀ r ∈ ([] : List (List D)), r.length = sz) ∧ 0 < sz ∧ _
      exact ⟨(fun r hr => by cases hr), hsz, Or.inl ⟨upd_same _ _ _, rfl⟩⟩
    · rw [upd_other _ _ he] at hi
      exact .inl ⟨hi, fun _ _ _ _ => rfl⟩
  · intro i j oi oj li lj b h1 h2 h3 h4 h5 h6 h7 h8
    have hi := hi_ne i li h3
    have hj := hi_ne j lj h6
    rw [upd_other _ _ hi] at h1 h3
    rw [upd_other _ _ hj] at h4 h6
    exact h.inj i j oi oj li lj b h1 h2 h3 h4 h5 h6 h7 h8
  · intro i o' l' h1 h2 h3
    have hi := hi_ne i l' h3
    rw [upd_other _ _ hi] at h1 h3
    exact h.new i o' l' h1 h2 h3

theorem goes_up {β : Nat → Option Loc} {m : Nat → Option O} {id : Nat} {o o' : O} (hid : m id = some o) (hs : o.sub o') : Goes β m β (upd m id (some o')) := by
  intro i oi hi
  by_cases he : i = id
  · subst he
    rw [hid] at hi; injection hi with hi; subst hi
    exact ⟨o', upd_same _ _ _, hs, fun _ => rfl⟩
  · exact ⟨oi, by rw [upd_other _ _ he]; exact hi, oi.sub_refl, fun _ => rfl⟩

/-- An object is given up. -/
theorem Sim.kill (h : Sim w0 A locs β σ a w) {id : Nat} {o : O} (hid : σ.m id = some o) : Sim w0 A locs β { σ with m := upd σ.m id (some .gone) } a w := by
  have g : Goes β σ.m β (upd σ.m id (some .gone)) := goes_up hid o.sub_gone
  have hi_ne : ∀ i o', upd σ.m id (some .gone) i = some o' → o'.live = true → i ≠ id ∧ σ.m i = some o' := fun i o' hi hl => by
    by_cases e : i = id
    · subst e; rw [upd_same] at hi; injection hi with hi; subst hi; simp [O.live] at hl
    · exact ⟨e, by rw [upd_other _ _ e] at hi; exact hi⟩
  refine h.move ⟨Nat.le_refl _, fun _ _ _ => rfl, fun b hb hB hB' => hB ?_⟩ g (fun _ _ _ => rfl) ?_ ?_ ?_ h.fr
  · rcases hB' with hA | ⟨i, o', l', h1, h2, h3, h4⟩
    · exact .inl hA
    · exact .inr ⟨i, o', l', (hi_ne i o' h1 h2).2, h2, h3, h4⟩
  · exact fun i o' hi hl => .inl ⟨(hi_ne i o' hi hl).2, fun _ _ _ _ => rfl⟩
  · exact fun i j oi oj li lj b h1 h2 h3 h4 h5 h6 h7 h8 => h.inj i j oi oj li lj b (hi_ne i oi h1 h2).2 h2 h3 (hi_ne j oj h4 h5).2 h5 h6 h7 h8
  · exact fun i o' l' h1 h2 h3 => h.new i o' l' (hi_ne i o' h1 h2).2 h2 h3

/-- The block of one object is written, and the object with it. -/
theorem Sim.write (h : Sim w0 A locs β σ a w) {w' : World} {id : Nat} {o o' : O} {l : Loc} (hid : σ.m id = some o) (hlive : o.live = true) (hlive' : o'.live = true) (hs : o.sub o') (hl : β id = some l)
    (hw : ∀ b, ¬ l.has b → w'.heap[b]? = w.heap[b]?) (hsz : w'.heap.size = w.heap.size) (hos : w'.os = w.os) (htape : w'.tape = w.tape) (hout : w'.output = w.output) (hdr : w.drawn ≤ w'.drawn)
    (ho : Keeps w (Bl A β σ.m) w' (Bl A β σ.m) → Goes β σ.m β (upd σ.m id (some o')) → ObRep w' (Bl A β σ.m) β (upd σ.m id (some o')) id o') :
    Sim w0 A locs β { σ with m := upd σ.m id (some o') } a w' := by
  have hBl : Bl A β (upd σ.m id (some o')) = Bl A β σ.m := by
    funext b
    apply propext
    constructor
    · rintro (hA | ⟨i, oi, li, h1, h2, h3, h4⟩)
      · exact .inl hA
      · by_cases e : i = id
        · subst e; exact .inr ⟨i, o, li, hid, hlive, h3, h4⟩
        · rw [upd_other _ _ e] at h1; exact .inr ⟨i, oi, li, h1, h2, h3, h4⟩
    · rintro (hA | ⟨i, oi, li, h1, h2, h3, h4⟩)
      · exact .inl hA
      · by_cases e : i = id
        · subst e; exact .inr ⟨i, o', li, upd_same _ _ _, hlive', h3, h4⟩
        · exact .inr ⟨i, oi, li, by rw [upd_other _ _ e]; exact h1, h2, h3, h4⟩
  have k : Keeps w (Bl A β σ.m) w' (Bl A β σ.m) := ⟨by omega, fun b _ hB => hw b (fun e => hB (.inr ⟨id, o, l, hid, hlive, hl, e⟩)), fun _ _ h => h⟩
  have g : Goes β σ.m β (upd σ.m id (some o')) := goes_up hid hs
  have k' : Keeps w (Bl A β σ.m) w' (Bl A β (upd σ.m id (some o'))) := by rw [hBl]; exact k
  have hin : ∀ i oi, upd σ.m id (some o') i = some oi → oi.live = true → ∃ oj, σ.m i = some oj ∧ oj.live = true := fun i oi hi hl' => by
    by_cases e : i = id
    · subst e; exact ⟨o, hid, hlive⟩
    · rw [upd_other _ _ e] at hi; exact ⟨oi, hi, hl'⟩
  refine h.move k' g (fun _ _ _ => rfl) ?_ ?_ ?_ ?_
  · intro i oi hi hl'
    by_cases e : i = id
    · subst e
      rw [upd_same] at hi; injection hi with hi; subst hi
      exact .inr (by rw [hBl]; exact ho k g)
    · rw [upd_other _ _ e] at hi
      exact .inl ⟨hi, fun l' hl'' b hb => hw _ (fun eb => e (h.inj i id oi o l' l b hi hl' hl'' hid hlive hl hb eb))⟩
  · intro i j oi oj li lj b h1 h2 h3 h4 h5 h6 h7 h8
    obtain ⟨oi', h1', h2'⟩ := hin i oi h1 h2
    obtain ⟨oj', h4', h5'⟩ := hin j oj h4 h5
    exact h.inj i j oi' oj' li lj b h1' h2' h3 h4' h5' h6 h7 h8
  · intro i oi li h1 h2 h3
    obtain ⟨oi', h1', h2'⟩ := hin i oi h1 h2
    rw [hsz]
    exact h.new i oi' li h1' h2' h3
  · refine ⟨hos.trans h.fr.os, htape.trans h.fr.tape, hout.trans h.fr.output, by rw [hsz]; exact h.fr.size, fun b hb hlo => ?_, h.fr.tb, Nat.le_trans h.fr.drawn hdr⟩
    rw [hw b ?_]
    · exact h.fr.blk b hb hlo
    · intro hhas
      rcases (h.new id o l hid hlive hl b hhas).2.2 with h1 | ⟨l0, h1, h2⟩
      · omega
      · exact hlo l0 h1 h2
end
end Go.Am

/-! The abstract machine, part 3: a table of types that the kernel holds against the program, and runs of the model's operations on memory. Over any program. -/
namespace Go.Am
open Go

inductive TD where
  | int (k : IntKind)
  | bool
  | str
  | struct (fs : List (Nat × Nat × Bool))
  | slice (e : TypeId)
  | array (n : Nat) (e : TypeId)
  | ptr (e : TypeId)
  | func
  | other

structure TI where
  d : TD
  size : Nat
  bytes : Nat
  zero : List D

def TI.agg (ti : TI) : Bool :=
  match ti.d with
  | .struct _ | .array _ _ => true
  | _ => false

def zcell : Value → D → Bool
  | .int k n, .int k' n' => decide (k = k') && decide (n = n')
  | .bool b, .bool b' => decide (b = b')
  | .string s, .str s' => decide (s = s')
  | .slice none 0 0, .list [] => true
  | .slice none 0 0, .other (.slice none 0 0) => true
  | .pointer none, .other (.pointer none) => true
  | .nilFunc, .other .nilFunc => true
  | .nilIface, .other .nilIface => true
  | _, _ => false

def zall : List Value → List D → Bool
  | [], [] => true
  | v :: vs, d :: ds => zcell v d && zall vs ds
  | _, _ => false

def aggB (P : Program) (t : TypeId) : Option Bool :=
  match P.underlying t with
  | some (.struct _) | some (.array _ _) => some true
  | some _ => some false
  | none => none

def fieldsB (P : Program) : List Field → List (Nat × Nat × Bool) → Bool
  | [], [] => true
  | f :: fs, x :: xs => decide (f.offset = x.1) && decide ((P.info? f.type).map (·.size) = some x.2.1) && decide (x.2.1 ≠ 0) && decide (aggB P f.type = some x.2.2) && fieldsB P fs xs
  | _, _ => false

def chkD (P : Program) (t : TypeId) (d : TD) : Bool :=
  match P.underlying t, d with
  | some (.int k), .int k' => decide (k = k')
  | some .bool, .bool => true
  | some .string, .str => true
  | some (.struct fields), .struct fs => fieldsB P fields.toList fs
  | some (.slice e), .slice e' => decide (e = e')
  | some (.array n e), .array n' e' => decide (n = n') && decide (e = e')
  | some (.pointer e), .ptr e' => decide (e = e')
  | some (.func _ _ _), .func => true
  | some (.struct _), .other | some (.array _ _), .other => false
  | some _, .other => true
  | _, _ => false

def chk (P : Program) (t : TypeId) (ti : TI) : Bool :=
  match P.info? t with
  | none => false
  | some i => decide (i.size = ti.size) && decide (i.bytes = ti.bytes) && (match i.zero with | some z => zall z.cells.toList ti.zero && decide (ti.zero.length = ti.size) | none => false) && chkD P t ti.d

/-- The table holds of the program. -/
def TOk (P : Program) (T : TypeId → Option TI) : Prop := ∀ t ti, T t = some ti → chk P t ti = true

theorem zcell_rep (w : World) (B : Nat → Prop) {v : Value} {d : D} (h : zcell v d = true) : Rep w B v d := by
  unfold zcell at h
  split at h
  · simp only [Bool.and_eq_true, decide_eq_true_eq] at h; obtain ⟨rfl, rfl⟩ := h; exact .int _ _
  · simp only [decide_eq_true_eq] at h; subst h; exact .bool _
  · simp only [decide_eq_true_eq] at h; subst h; exact .str _
  · exact .nil _ _
  · exact .other _
  · exact .other _
  · exact .other _
  · exact .other _
  · cases h

theorem zall_rep (w : World) (B : Nat → Prop) : ∀ (vs : List Value) (ds : List D), zall vs ds = true → vs.length = ds.length ∧ ∀ (j : Nat) (d : D), ds[j]? = some d → ∃ v, vs[j]? = some v ∧ Rep w B v d
  | [], [], _ => ⟨rfl, fun j d h => by simp at h⟩
  | [], _ :: _, h => by simp [zall] at h
  | _ :: _, [], h => by simp [zall] at h
  | v :: vs, d :: ds, h => by
    simp only [zall, Bool.and_eq_true] at h
    obtain ⟨h1, h2⟩ := zall_rep w B vs ds h.2
    refine ⟨by simp [h1], fun j d' hj => ?_⟩
    cases j with
    | zero => simp at hj; subst hj; exact ⟨v, rfl, zcell_rep w B h.1⟩
    | succ j => simpa using h2 j d' (by simpa using hj)

theorem fieldsB_at (P : Program) : ∀ (fl : List Field) (fs : List (Nat × Nat × Bool)), fieldsB P fl fs = true → ∀ (j : Nat) (x : Nat × Nat × Bool), fs[j]? = some x →
    ∃ f, fl[j]? = some f ∧ f.offset = x.1 ∧ (P.info? f.type).map (·.size) = some x.2.1 ∧ x.2.1 ≠ 0 ∧ aggB P f.type = some x.2.2
  | [], [], _, j, x, hx => by simp at hx
  | [], _ :: _, h, _, _, _ => by simp [fieldsB] at h
  | _ :: _, [], h, _, _, _ => by simp [fieldsB] at h
  | f :: fl, y :: fs, h, j, x, hx => by
    simp only [fieldsB, Bool.and_eq_true, decide_eq_true_eq] at h
    obtain ⟨⟨⟨⟨h1, h2⟩, h3⟩, h4⟩, h5⟩ := h
    cases j with
    | zero => simp at hx; subst hx; exact ⟨f, rfl, h1, h2, h3, h4⟩
    | succ j => simpa using fieldsB_at P fl fs h5 j x (by simpa using hx)

section
variable {P : Program} {T : TypeId → Option TI} (hT : TOk P T) {t : TypeId} {ti : TI} (ht : T t = some ti)
include hT ht

theorem TOk.zlen : ti.zero.length = ti.size := by
  have h := hT t ti ht
  unfold chk at h
  split at h
  · cases h
  · simp only [Bool.and_eq_true, decide_eq_true_eq] at h
    obtain ⟨⟨_, h3⟩, _⟩ := h
    split at h3
    · simp only [Bool.and_eq_true, decide_eq_true_eq] at h3; exact h3.2
    · cases h3

theorem TOk.info : ∃ i z, P.info? t = some i ∧ i.size = ti.size ∧ i.bytes = ti.bytes ∧ i.zero = some z ∧ zall z.cells.toList ti.zero = true := by
  have h := hT t ti ht
  unfold chk at h
  split at h
  · cases h
  · rename_i i hi
    simp only [Bool.and_eq_true, decide_eq_true_eq] at h
    obtain ⟨⟨⟨h1, h2⟩, h3⟩, _⟩ := h
    split at h3
    · rename_i z hz
      simp only [Bool.and_eq_true] at h3
      exact ⟨i, z, hi, h1, h2, hz, h3.1⟩
    · cases h3

theorem TOk.desc : chkD P t ti.d = true := by
  have h := hT t ti ht
  unfold chk at h
  split at h
  · cases h
  · simp only [Bool.and_eq_true, decide_eq_true_eq] at h
    exact h.2

theorem TOk.isAgg (w : World) : (Go.isAgg t).run P w = .ok ti.agg w := by
  have h := hT.desc ht
  unfold chkD at h
  unfold Go.isAgg TI.agg
  cases hu : P.underlying t with
  | none => simp [hu] at h
  | some d =>
    simp only [Sem.run_bind, run_underlying hu, Result.andThen_ok]
    cases d <;> cases hd : ti.d <;> simp [hu, hd] at h ⊢

theorem TOk.sizeOf (w : World) : (Go.sizeOf t).run P w = .ok ti.size w := by
  obtain ⟨i, z, h1, h2, _⟩ := hT.info ht
  simp [Go.sizeOf, typeInfo, h1, h2]

theorem TOk.slice {e : TypeId} (hd : ti.d = .slice e) : P.underlying t = some (.slice e) := by
  have h := hT.desc ht
  unfold chkD at h
  cases hu : P.underlying t with
  | none => simp [hu] at h
  | some d => cases d <;> simp [hu, hd] at h; subst h; rfl
theorem TOk.array {n : Nat} {e : TypeId} (hd : ti.d = .array n e) : P.underlying t = some (.array n e) := by
  have h := hT.desc ht
  unfold chkD at h
  cases hu : P.underlying t with
  | none => simp [hu] at h
  | some d => cases d <;> simp [hu, hd] at h; obtain ⟨rfl, rfl⟩ := h; rfl
theorem TOk.str (hd : ti.d = .str) : P.underlying t = some .string := by
  have h := hT.desc ht
  unfold chkD at h
  cases hu : P.underlying t with
  | none => simp [hu] at h
  | some d => cases d <;> simp [hu, hd] at h; rfl
theorem TOk.int {k : IntKind} (hd : ti.d = .int k) : P.underlying t = some (.int k) := by
  have h := hT.desc ht
  unfold chkD at h
  cases hu : P.underlying t with
  | none => simp [hu] at h
  | some d => cases d <;> simp [hu, hd] at h; subst h; rfl
theorem TOk.struct {fs : List (Nat × Nat × Bool)} (hd : ti.d = .struct fs) : ∃ fields, P.underlying t = some (.struct fields) ∧ ∀ (j : Nat) (x : Nat × Nat × Bool), fs[j]? = some x →
    ∃ f, fields[j]? = some f ∧ f.offset = x.1 ∧ (P.info? f.type).map (·.size) = some x.2.1 ∧ x.2.1 ≠ 0 ∧ aggB P f.type = some x.2.2 := by
  have h := hT.desc ht
  unfold chkD at h
  cases hu : P.underlying t with
  | none => simp [hu] at h
  | some d =>
    cases d <;> simp [hu, hd] at h
    rename_i fields
    refine ⟨fields, rfl, fun j x hx => ?_⟩
    obtain ⟨f, hf, r⟩ := fieldsB_at P _ _ h j x hx
    exact ⟨f, by simpa using hf, r⟩
end

/-! ### Runs -/
section
variable {P : Program} {w : World}

theorem cell_at {b : Nat} {cs : Array Value} {ty : TypeId} {fz : Nat × Nat} (h : w.heap[b]? = some (.cells cs ty fz)) (o : Nat) : w.cell? ⟨b, o, none⟩ = cs[o]? := by simp [World.cell?, h]

theorem getD_of {cs : Array Value} {o : Nat} (h : o < cs.size) : cs[o]? = some (cs.getD o Go.undef) := by simp [h, Array.getD]

theorem thaw {b o : Nat} {cs : Array Value} {ty : TypeId} (h : w.heap[b]? = some (.cells cs ty (0, 0))) : w.frozen? ⟨b, o, none⟩ = false := by simp [World.frozen?, h]

theorem run_load_at {b o : Nat} {cs : Array Value} {ty : TypeId} {fz : Nat × Nat} (h : w.heap[b]? = some (.cells cs ty fz)) (ho : o < cs.size) :
    w.cell? ⟨b, o, none⟩ = some (cs.getD o Go.undef) := by rw [cell_at h, getD_of ho]

/-- A whole variable is read: a struct, or one cell. -/
theorem run_loadAt {T : TypeId → Option TI} (hT : TOk P T) {t : TypeId} {ti : TI} (ht : T t = some ti) (ad : Addr) (g : Nat → Value)
    (h : ∀ j, j < (if ti.agg then ti.size else 1) → w.cell? (ad.add j) = some (g j)) :
    (Instr.loadAt t (.pointer (some ad))).run P w = .ok (if ti.agg then .agg ((List.range ti.size).map g).toArray else g 0) w := by
  have e0 : (Instr.sureAddr (.pointer (some ad))).run P w = .ok ad w := rfl
  simp only [Instr.loadAt, Sem.run_bind, e0, Result.andThen_ok, loadVar, hT.isAgg ht]
  cases hag : ti.agg with
  | true =>
    simp only [hag, if_true] at h ⊢
    simp only [Sem.run_bind, hT.sizeOf ht, Result.andThen_ok, run_loadCells w ad ti.size g h, Sem.run_pure]
  | false =>
    simp only [hag, Bool.false_eq_true, if_false] at h ⊢
    have h0 := h 0 (by omega)
    simp only [Addr.add_zero'] at h0
    rw [run_load, h0]

/-- Cells are written in a row of one block. -/
theorem run_storeCells (b o : Nat) (ty : TypeId) (vs : List Value) (cs : Array Value) (h : w.heap[b]? = some (.cells cs ty (0, 0))) (hl : o + vs.length ≤ cs.size) (h1 : ∀ v ∈ vs, v.oneCell' = true) :
    ∃ w' cs', (storeCells ⟨b, o, none⟩ vs).run P w = .ok () w' ∧ w'.heap[b]? = some (.cells cs' ty (0, 0)) ∧ cs'.size = cs.size ∧
      (∀ j, cs'.getD j Go.undef = if o ≤ j ∧ j < o + vs.length then vs.getD (j - o) Go.undef else cs.getD j Go.undef) ∧
      (∀ b', b' ≠ b → w'.heap[b']? = w.heap[b']?) ∧ w'.heap.size = w.heap.size ∧ w'.os = w.os ∧ w'.tape = w.tape ∧ w'.output = w.output ∧ w'.drawn = w.drawn := by
  have hr := run_storeCells_at P b o ty vs 0 cs w h (by simpa using hl) h1
  simp only [Nat.add_zero] at hr
  refine ⟨_, _, hr, setRow_heap w b cs _ ty _ h, ?_, ?_, fun b' hb => setRow_other w b b' _ hb, by simp [World.setRow], rfl, rfl, rfl, rfl⟩
  · simp; omega
  · intro j
    simp only [Array.getD_eq_getD_getElem?, List.getElem?_toArray, List.getD_eq_getElem?_getD]
    rw [List.append_assoc, List.getElem?_append, List.length_take, Array.length_toList]
    by_cases hjo : j < o
    · rw [if_pos (by omega), if_neg (by omega), List.getElem?_take, if_pos hjo]
      simp
    · rw [if_neg (by omega), List.getElem?_append]
      have e1 : j - min o cs.size = j - o := by omega
      rw [e1]
      by_cases hj2 : j - o < vs.length
      · rw [if_pos hj2, if_pos (by omega)]
      · rw [if_neg hj2, if_neg (by omega), List.getElem?_drop]
        have e2 : o + vs.length + (j - o - vs.length) = j := by omega
        rw [e2]; simp

theorem run_storeAt {T : TypeId → Option TI} (hT : TOk P T) {t : TypeId} {ti : TI} (ht : T t = some ti) (b o : Nat) (v : Value) (ty : TypeId) (cs : Array Value) (hsz : v.cells.size = ti.size)
    (h : w.heap[b]? = some (.cells cs ty (0, 0))) (hl : o + ti.size ≤ cs.size) (h1 : ∀ u ∈ v.cells.toList, u.oneCell' = true) :
    ∃ w' cs', (Instr.storeAt t (.pointer (some ⟨b, o, none⟩)) v).run P w = .ok () w' ∧ w'.heap[b]? = some (.cells cs' ty (0, 0)) ∧ cs'.size = cs.size ∧
      (∀ j, cs'.getD j Go.undef = if o ≤ j ∧ j < o + ti.size then v.cells.getD (j - o) Go.undef else cs.getD j Go.undef) ∧
      (∀ b', b' ≠ b → w'.heap[b']? = w.heap[b']?) ∧ w'.heap.size = w.heap.size ∧ w'.os = w.os ∧ w'.tape = w.tape ∧ w'.output = w.output ∧ w'.drawn = w.drawn := by
  obtain ⟨w', cs', hr, r⟩ := run_storeCells (P := P) b o ty v.cells.toList cs h (by simpa [hsz] using hl) h1
  have e0 : (Instr.sureAddr (.pointer (some (⟨b, o, none⟩ : Addr)))).run P w = .ok ⟨b, o, none⟩ w := rfl
  refine ⟨w', cs', ?_, r.1, r.2.1, ?_, r.2.2.2⟩
  · simp only [Instr.storeAt, Sem.run_bind, e0, Result.andThen_ok, storeVar, hT.sizeOf ht]
    rw [if_neg (by simp [hsz])]
    exact hr
  · intro j
    rw [r.2.2.1 j]
    simp only [Array.length_toList, hsz]
    simp [Array.getD_eq_getD_getElem?, List.getD_eq_getElem?_getD]

/-- append within the capacity, anywhere in a block. -/
theorem run_append_room' (t ty e : TypeId) (i : TypeInfo) (ht : P.underlying t = some (.slice e)) (hi : P.info? e = some i)
    (g o sLen sCap : Nat) (cs : Array Value) (hg : w.heap[g]? = some (.cells cs e (0, 0)))
    (a : Addr) (m c : Nat) (news : List Value) (hl : news.length = m * i.size) (hnews : ∀ (j : Nat) (u : Value), news[j]? = some u → w.cell? (a.add j) = some u) (h1 : ∀ u ∈ news, u.oneCell' = true)
    (hroom : sLen + m ≤ sCap) (hfit : o + sLen * i.size + news.length ≤ cs.size) :
    ∃ w' cs', (Builtin.append_ #[t, t] ty #[.slice (some ⟨g, o, none⟩) sLen sCap, .slice (some a) m c]).run P w = .ok (.slice (some ⟨g, o, none⟩) (sLen + m) sCap) w' ∧
      w'.heap[g]? = some (.cells cs' e (0, 0)) ∧ cs'.size = cs.size ∧
      (∀ j, cs'.getD j Go.undef = if o + sLen * i.size ≤ j ∧ j < o + sLen * i.size + news.length then news.getD (j - (o + sLen * i.size)) Go.undef else cs.getD j Go.undef) ∧
      (∀ b', b' ≠ g → w'.heap[b']? = w.heap[b']?) ∧ w'.heap.size = w.heap.size ∧ w'.os = w.os ∧ w'.tape = w.tape ∧ w'.output = w.output ∧ w'.drawn = w.drawn := by
  have hf := run_firstCells_some (P := P) w i.size m a m c news hl hnews
  obtain ⟨w', cs', hr, r⟩ := run_storeCells (P := P) g (o + sLen * i.size) e news cs hg hfit h1
  refine ⟨w', cs', ?_, r⟩
  simp [Builtin.append_, run_underlying ht, sizeOf, typeInfo, hi, Builtin.lenOf, hroom, hf, Addr.add_lit, hr]

end
end Go.Am

/-! The abstract machine, part 4: its operations that leave memory alone, and that each stands for the model's. -/
namespace Go.Am
open Go

theorem S.app_nil (σ : S) (dst : Option Nat) (v : AV) : σ.app dst ⟨v, []⟩ = σ.put dst v := by cases dst <;> rfl

def S.ev (σ : S) : Operand → AV
  | .tmp t => σ.t t
  | .const v => .imm (toD v)
  | .func f => .imm (.fn f [])
  | .global _ => .dead

def nid (ep d : Nat) : Nat := ep * 4096 + d

def binK (op : BinOp) : D → D → (D → Prop) → Prop
  | .int k a, .int k' b, K =>
    match op with
    | .shl => 0 ≤ b ∧ K (.int k (k.wrap (a * 2 ^ (min b.toNat k.bits))))
    | .shr => 0 ≤ b ∧ K (.int k (a.fdiv (2 ^ (min b.toNat k.bits))))
    | .add => k = k' ∧ K (.int k (k.wrap (a + b)))
    | .sub => k = k' ∧ K (.int k (k.wrap (a - b)))
    | .mul => k = k' ∧ K (.int k (k.wrap (a * b)))
    | .quo => k = k' ∧ b ≠ 0 ∧ K (.int k (k.wrap (a.tdiv b)))
    | .rem => k = k' ∧ b ≠ 0 ∧ K (.int k (a.tmod b))
    | .and => k = k' ∧ K (.int k (bits .and k a b))
    | .or => k = k' ∧ K (.int k (bits .or k a b))
    | .xor => k = k' ∧ K (.int k (bits .xor k a b))
    | .andNot => k = k' ∧ K (.int k (bits .andNot k a b))
    | .eql => k = k' ∧ K (.bool (decide (a = b)))
    | .neq => k = k' ∧ K (.bool (!decide (a = b)))
    | .lss => k = k' ∧ K (.bool (decide (a < b)))
    | .leq => k = k' ∧ K (.bool (decide (a ≤ b)))
    | .gtr => k = k' ∧ K (.bool (decide (b < a)))
    | .geq => k = k' ∧ K (.bool (decide (b ≤ a)))
  | .str a, .str b, K =>
    match op with
    | .add => a.size + b.size ≤ 4611686018427387904 ∧ K (.str (a ++ b))
    | .eql => K (.bool (a == b))
    | .neq => K (.bool (!(a == b)))
    | .lss => K (.bool (Op.bytesLess a.toList b.toList))
    | .leq => K (.bool (Op.bytesLess a.toList b.toList || a == b))
    | .gtr => K (.bool (!(Op.bytesLess a.toList b.toList || a == b)))
    | .geq => K (.bool (!(Op.bytesLess a.toList b.toList)))
    | _ => False
  | _, _, _ => False

def opBin (T : TypeId → Option TI) (op : BinOp) (t : TypeId) (x y : AV) (K : Eff → Prop) : Prop :=
  match x, y with
  | .imm (.bool a), .imm (.bool b) =>
    match T t, op with
    | some ⟨.bool, _, _, _⟩, .eql => K ⟨.imm (.bool (a == b)), []⟩
    | some ⟨.bool, _, _, _⟩, .neq => K ⟨.imm (.bool (!(a == b))), []⟩
    | _, _ => False
  | .imm d, .imm d' => binK op d d' fun r => K ⟨.imm r, []⟩
  | _, _ => False

def opUn (op : UnOp) (x : AV) (K : Eff → Prop) : Prop :=
  match op, x with
  | .not, .imm (.bool b) => K ⟨.imm (.bool (!b)), []⟩
  | .neg, .imm (.int k n) => K ⟨.imm (.int k (k.wrap (0 - n))), []⟩
  | _, _ => False

def opConv (T : TypeId → Option TI) (src dst : TypeId) (x : AV) (K : Eff → Prop) : Prop :=
  match T src, T dst, x with
  | some _, some ⟨.int k, _, _, _⟩, .imm (.int _ n) => K ⟨.imm (.int k (k.wrap n)), []⟩
  | some _, some ⟨.str, _, _, _⟩, .imm (.str s) => K ⟨.imm (.str s), []⟩
  | _, _, _ => False

def opPick (c a b : AV) (K : Eff → Prop) : Prop :=
  match c with
  | .imm (.bool t) => (t = true → K ⟨a, []⟩) ∧ (t = false → K ⟨b, []⟩)
  | _ => False

def opExtract (x : AV) (i : Nat) (K : Eff → Prop) : Prop :=
  match x with
  | .tup l => match l[i]? with | some (.tup _) => False | some a => K ⟨a, []⟩ | none => False
  | _ => False

/-- A part of a region's value: numbers and texts are plain data. -/
def tvAV (id : Nat) (d : D) : AV :=
  match d with
  | .int k n => .imm (.int k n)
  | .bool b => .imm (.bool b)
  | .str s => .imm (.str s)
  | d => .tv id d

def D.lst : D → Bool
  | .list _ => true
  | _ => false

def likeD : D → D → Bool
  | .int k _, .int k' _ => decide (k = k')
  | .str _, .str _ => true
  | _, _ => false

def imms : List AV → Option (List D)
  | [] => some []
  | .imm d :: r => (imms r).map (d :: ·)
  | _ :: _ => none

theorem imms_cells : ∀ {cells : List AV} {ds : List D}, imms cells = some ds → ds.length = cells.length ∧ ∀ (j : Nat) (d : D), ds[j]? = some d → cells[j]? = some (.imm d)
  | [], ds, hi => by simp [imms] at hi; subst hi; exact ⟨rfl, fun j d hj => by simp at hj⟩
  | c :: r, ds, hi => by
    cases c with
    | imm d =>
      simp only [imms, Option.map_eq_some_iff] at hi
      obtain ⟨ds', h1, rfl⟩ := hi
      obtain ⟨h2, h3⟩ := imms_cells h1
      refine ⟨by simp [h2], fun j d' hj => ?_⟩
      cases j with
      | zero => simpa using hj
      | succ j => simp at hj; simpa using h3 j d' hj
    | _ => cases hi

theorem avRep_of0 {w : World} {B : Nat → Prop} {β : Nat → Option Loc} {m : Nat → Option O} {x : AV} {v : Value} (h : AvRep0 w B β m x v) : AvRep w B β m x v := by
  cases x with
  | tup l => exact h.elim
  | mix l => exact h.elim
  | _ => exact h

def opField (T : TypeId → Option TI) (m : Nat → Option O) (t : TypeId) (x : AV) (f : Nat) (K : Eff → Prop) : Prop :=
  match T t, x with
  | some ⟨.struct fs, _, _, _⟩, .imm (.agg ds) =>
    match fs[f]? with
    | some (o, n, true) => o + n ≤ ds.length ∧ K ⟨.imm (.agg ((ds.drop o).take n)), []⟩
    | some (o, _, false) => match ds[o]? with | some d => K ⟨.imm d, []⟩ | none => False
    | none => False
  | some ⟨.struct fs, _, _, _⟩, .mix l =>
    match fs[f]? with
    | some (o, n, true) => o + n ≤ l.length ∧ match imms ((l.drop o).take n) with | some ds => K ⟨.imm (.agg ds), []⟩ | none => K ⟨.mix ((l.drop o).take n), []⟩
    | some (o, _, false) => match l[o]? with | some av => K ⟨av, []⟩ | none => False
    | none => False
  | some ⟨.struct fs, _, _, _⟩, .tv id (.agg ds) =>
    match m id with
    | some (.reg _) =>
      match fs[f]? with
      | some (o, n, true) => o + n ≤ ds.length ∧ K ⟨.tv id (.agg ((ds.drop o).take n)), []⟩
      | some (o, _, false) => match ds[o]? with | some d => K ⟨tvAV id d, []⟩ | none => False
      | none => False
    | _ => False
  | _, _ => False

def opFieldAddr (T : TypeId → Option TI) (m : Nat → Option O) (t : TypeId) (x : AV) (f : Nat) (K : Eff → Prop) : Prop :=
  match T t with
  | some ⟨.struct fs, _, _, _⟩ =>
    match fs[f]? with
    | some (o, _, _) =>
      match x with
      | .box id off => match m id with | some (.box _ _) => K ⟨.box id (off + o), []⟩ | _ => False
      | .eptr id r off => match m id with | some (.arr _ _ _) | some (.cel _ _) => K ⟨.eptr id r (off + o), []⟩ | _ => False
      | .imm (.ptr ds) => K ⟨.imm (.ptr (ds.drop o)), []⟩
      | .tv id (.ptr ds) => match m id with | some (.reg _) => K ⟨.tv id (.ptr (ds.drop o)), []⟩ | _ => False
      | _ => False
    | none => False
  | _ => False

def opIndexAddr (T : TypeId → Option TI) (m : Nat → Option O) (t : TypeId) (x i : AV) (K : Eff → Prop) : Prop :=
  match i with
  | .imm (.int _ n) =>
    match T t with
    | some ⟨.slice e, _, _, _⟩ =>
      match T e with
      | some te =>
        match x with
        | .imm (.list rows) => 0 ≤ n ∧ match rows[n.toNat]? with | some r => r.length = te.size ∧ K ⟨.imm (.ptr r), []⟩ | none => False
        | .own id off len => 0 ≤ n ∧ n < len ∧ match m id with | some (.arr _ sz _) | some (.cel sz _) => sz = te.size ∧ K ⟨.eptr id (off + n.toNat) 0, []⟩ | _ => False
        | .tv id (.list rows) => 0 ≤ n ∧ match m id with | some (.reg _) => (match rows[n.toNat]? with | some r => r.length = te.size ∧ K ⟨.tv id (.ptr r), []⟩ | none => False) | _ => False
        | _ => False
      | none => False
    | some ⟨.array len e, _, _, _⟩ =>
      match T e with
      | some te =>
        match x with
        | .box id off => 0 ≤ n ∧ n < len ∧ match m id with | some (.box _ _) => K ⟨.box id (off + n.toNat * te.size), []⟩ | _ => False
        | .imm (.ptr ds) => 0 ≤ n ∧ n < len ∧ K ⟨.imm (.ptr (ds.drop (n.toNat * te.size))), []⟩
        | _ => False
      | none => False
    | _ => False
  | _ => False

def opIndex (T : TypeId → Option TI) (t : TypeId) (x i : AV) (K : Eff → Prop) : Prop :=
  match i with
  | .imm (.int _ n) =>
    match T t, x with
    | some ⟨.str, _, _, _⟩, .imm (.str s) => 0 ≤ n ∧ match s[n.toNat]? with | some b => K ⟨.imm (.int .u8 (b.toNat : Int)), []⟩ | none => False
    | some ⟨.array len e, _, _, _⟩, .imm (.agg ds) =>
      match T e with
      | some te => 0 ≤ n ∧ n < len ∧
        match te.agg with
        | true => n.toNat * te.size + te.size ≤ ds.length ∧ K ⟨.imm (.agg ((ds.drop (n.toNat * te.size)).take te.size)), []⟩
        | false => match ds[n.toNat * te.size]? with | some d => K ⟨.imm d, []⟩ | none => False
      | none => False
    | _, _ => False
  | _ => False

/-- A bound of a slice expression: a number, or what stands where none is given. -/
def bnd (x : Option AV) (dflt : Int) (K : Int → Prop) : Prop :=
  match x with
  | none => K dflt
  | some (.imm (.int _ n)) => K n
  | _ => False

/-- A variable's cells, an element a row. -/
def chunk (sz : Nat) (ds : List D) (n : Nat) : List (List D) := (List.range n).map fun i => (ds.drop (i * sz)).take sz

def opSlice (T : TypeId → Option TI) (m : Nat → Option O) (t : TypeId) (x : AV) (lo hi mx : Option AV) (K : Eff → Prop) : Prop :=
  mx = none ∧
  match T t, x with
  | some ⟨.str, _, _, _⟩, .imm (.str s) => bnd lo 0 fun l => bnd hi s.size fun h => 0 ≤ l ∧ l ≤ h ∧ h ≤ s.size ∧ K ⟨.imm (.str (s.extract l.toNat h.toNat)), []⟩
  | some ⟨.slice e, _, _, _⟩, .imm (.list rows) =>
    match T e with
    | some te => (∀ r ∈ rows, r.length = te.size) ∧ bnd lo 0 fun l => bnd hi rows.length fun h => 0 ≤ l ∧ l ≤ h ∧ h ≤ rows.length ∧ K ⟨.imm (.list ((rows.drop l.toNat).take (h.toNat - l.toNat))), []⟩
    | none => False
  | some ⟨.slice e, _, _, _⟩, .own id off len =>
    match T e, m id with
    | some te, some (.arr _ sz _) => sz = te.size ∧ bnd lo 0 fun l => bnd hi len fun h => 0 ≤ l ∧ l ≤ h ∧ h ≤ len ∧ K ⟨.own id (off + l.toNat) (h.toNat - l.toNat), []⟩
    | _, _ => False
  | some ⟨.array n e, _, _, _⟩, .box id off =>
    match T e, m id with
    | some te, some (.box _ cells) => off = 0 ∧ lo = none ∧ hi = none ∧ 0 < n ∧ (match imms cells with | some ds => ds.length = n * te.size ∧ K ⟨.imm (.list (chunk te.size ds n)), [(id, .gone)]⟩ | none => False)
    | _, _ => False
  | _, _ => False

def opLen (T : TypeId → Option TI) (m : Nat → Option O) (t : TypeId) (x : AV) (K : Eff → Prop) : Prop :=
  match T t, x with
  | some ⟨.str, _, _, _⟩, .imm (.str s) => K ⟨.imm (.int .i64 (s.size : Int)), []⟩
  | some ⟨.slice _, _, _, _⟩, .imm (.list rows) => K ⟨.imm (.int .i64 (rows.length : Int)), []⟩
  | some ⟨.slice _, _, _, _⟩, .own id _ len => (match m id with | some (.arr _ _ _) | some (.cel _ _) => True | _ => False) ∧ K ⟨.imm (.int .i64 (len : Int)), []⟩
  | some ⟨.slice _, _, _, _⟩, .tv id (.list rows) => (match m id with | some (.reg _) => True | _ => False) ∧ K ⟨.imm (.int .i64 (rows.length : Int)), []⟩
  | some ⟨.slice _, _, _, _⟩, .imm (.other (.slice _ n _)) => K ⟨.imm (.int .i64 (n : Int)), []⟩
  | some ⟨.array n _, _, _, _⟩, _ => K ⟨.imm (.int .i64 (n : Int)), []⟩
  | _, _ => False

def opMinMax (mx : Bool) (x y : AV) (K : Eff → Prop) : Prop :=
  match x, y with
  | .imm (.int k a), .imm (.int k' b) => k = k' ∧ K ⟨.imm (.int k (if mx then (if b > a then b else a) else (if b < a then b else a))), []⟩
  | _, _ => False

/-- Where an operation comes to: a value for its slot, a world, objects. -/
def Good (P : Program) (w0 : World) (A : Nat → Prop) (locs : List (Option Loc)) (σ : S) (a : Act) (w : World) (o : Oper) (K : Eff → Prop) : Prop :=
  ∃ e β' v w', K e ∧ ((execOp a.eval o).run P w = .ok (.value v) w' ∨ ((execOp a.eval o).run P w = .ok .skip w' ∧ v = Go.undef)) ∧ Sim w0 A locs β' (σ.app o.dst e) (a.put o.dst v) w'

section
variable {P : Program} {T : TypeId → Option TI} (hT : TOk P T) {w0 w : World} {A : Nat → Prop} {locs : List (Option Loc)} {β : Nat → Option Loc} {σ : S} {a : Act}

theorem Sim.ev (h : Sim w0 A locs β σ a w) (x : Operand) : AvRep w (Bl A β σ.m) β σ.m (σ.ev x) (a.eval x) := by
  cases x with
  | tmp t => exact h.slot t
  | const v => exact rep_toD w _ v
  | func f => exact (show Rep w _ (.func (.func f) #[] #[]) (.fn f []) from .fn f #[] [] rfl (fun j d hj => by simp at hj))
  | global g => trivial

/-- A value alone. -/
theorem Sim.val (h : Sim w0 A locs β σ a w) {o : Oper} (hd : ∀ d, o.dst = some d → d < σ.n) {K : Eff → Prop} {av : AV} {v : Value} (hK : K ⟨av, []⟩)
    (hrun : (execOp a.eval o).run P w = .ok (.value v) w) (hv : AvRep w (Bl A β σ.m) β σ.m av v) : Good P w0 A locs σ a w o K :=
  ⟨⟨av, []⟩, β, v, w, hK, .inl hrun, by rw [S.app_nil]; exact h.put hd hv⟩

theorem Sim.imm (h : Sim w0 A locs β σ a w) {x : Operand} {d : D} (e : σ.ev x = .imm d) : Rep w (Bl A β σ.m) (a.eval x) d := by
  have := h.ev x
  rw [e] at this
  exact this

theorem rep_int {B : Nat → Prop} {v : Value} {k : IntKind} {n : Int} (h : Rep w B v (.int k n)) : v = .int k n := by cases h; rfl
theorem rep_bool {B : Nat → Prop} {v : Value} {b : Bool} (h : Rep w B v (.bool b)) : v = .bool b := by cases h; rfl
theorem rep_str {B : Nat → Prop} {v : Value} {s : ByteArray} (h : Rep w B v (.str s)) : v = .string s := by cases h; rfl

theorem binK_run {t : TypeId} {xo yo : Operand} (op : BinOp) {B : Nat → Prop} {x y : Value} {d d' : D} {K : D → Prop} (hx : Rep w B x d) (hy : Rep w B y d') (hk : binK op d d' K) :
    ∃ v r, K r ∧ Rep w B v r ∧ (do eqGuard op t xo yo x y; binOp op t x y : Sem Value).run P w = .ok v w := by
  unfold binK at hk
  split at hk
  · rename_i k n k' n' 
    obtain rfl := rep_int hx
    obtain rfl := rep_int hy
    cases op <;> simp only at hk
    case shl => exact ⟨_, _, hk.2, .int _ _, by simp [eqGuard_at_int, binOp_shl, Op.shift, show ¬ n' < 0 from by omega]⟩
    case shr => exact ⟨_, _, hk.2, .int _ _, by simp [eqGuard_at_int, binOp_shr, Op.shift, show ¬ n' < 0 from by omega]⟩
    case quo => obtain ⟨rfl, h0, hk⟩ := hk; exact ⟨_, _, hk, .int _ _, by simp [eqGuard_at_int, binOp_quo, Op.intDiv, h0]⟩
    case rem => obtain ⟨rfl, h0, hk⟩ := hk; exact ⟨_, _, hk, .int _ _, by simp [eqGuard_at_int, binOp_rem, Op.intDiv, h0]⟩
    case add => obtain ⟨rfl, hk⟩ := hk; exact ⟨_, _, hk, .int _ _, by simp [eqGuard_at_int, binOp_add, Op.intArith]⟩
    case sub => obtain ⟨rfl, hk⟩ := hk; exact ⟨_, _, hk, .int _ _, by simp [eqGuard_at_int, binOp_sub, Op.intArith]⟩
    case mul => obtain ⟨rfl, hk⟩ := hk; exact ⟨_, _, hk, .int _ _, by simp [eqGuard_at_int, binOp_mul, Op.intArith]⟩
    case and => obtain ⟨rfl, hk⟩ := hk; exact ⟨_, _, hk, .int _ _, by simp [eqGuard_at_int, binOp_and, intBits_and]⟩
    case or => obtain ⟨rfl, hk⟩ := hk; exact ⟨_, _, hk, .int _ _, by simp [eqGuard_at_int, binOp_or, intBits_or]⟩
    case xor => obtain ⟨rfl, hk⟩ := hk; exact ⟨_, _, hk, .int _ _, by simp [eqGuard_at_int, binOp_xor, intBits_xor]⟩
    case andNot => obtain ⟨rfl, hk⟩ := hk; exact ⟨_, _, hk, .int _ _, by simp [eqGuard_at_int, binOp_andNot, intBits_andNot]⟩
    case eql => obtain ⟨rfl, hk⟩ := hk; exact ⟨_, _, hk, .bool _, by simp [eqGuard_at_int, binOp_eql]; rfl⟩
    case neq => obtain ⟨rfl, hk⟩ := hk; exact ⟨_, _, hk, .bool _, by simp [eqGuard_at_int, binOp_neq]; rfl⟩
    case lss => obtain ⟨rfl, hk⟩ := hk; exact ⟨_, _, hk, .bool _, by simp [eqGuard_at_int, binOp_lss]⟩
    case leq => obtain ⟨rfl, hk⟩ := hk; exact ⟨_, _, hk, .bool _, by simp [eqGuard_at_int, binOp_leq]⟩
    case gtr => obtain ⟨rfl, hk⟩ := hk; exact ⟨_, _, hk, .bool _, by simp [eqGuard_at_int, binOp_gtr]⟩
    case geq => obtain ⟨rfl, hk⟩ := hk; exact ⟨_, _, hk, .bool _, by simp [eqGuard_at_int, binOp_geq]⟩
  · rename_i s s'
    obtain rfl := rep_str hx
    obtain rfl := rep_str hy
    cases op <;> simp only at hk
    case add =>
      refine ⟨_, _, hk.2, .str _, ?_⟩
      have : ¬ ((9223372036854775807 : Int) < (s.size : Int) + (s'.size : Int)) := by omega
      simp [eqGuard_at_string, binOp, Op.stringOp, this]
    case eql => exact ⟨_, _, hk, .bool _, by simp [eqGuard_at_string, binOp, Op.stringOp, beq_toListBytes]⟩
    case neq => exact ⟨_, _, hk, .bool _, by simp [eqGuard_at_string, binOp, Op.stringOp, beq_toListBytes]⟩
    case lss => exact ⟨_, _, hk, .bool _, by simp [eqGuard_at_string, binOp, Op.stringOp]⟩
    case leq => exact ⟨_, _, hk, .bool _, by simp [eqGuard_at_string, binOp, Op.stringOp, beq_toListBytes]⟩
    case gtr => exact ⟨_, _, hk, .bool _, by simp [eqGuard_at_string, binOp, Op.stringOp, beq_toListBytes]⟩
    case geq => exact ⟨_, _, hk, .bool _, by simp [eqGuard_at_string, binOp, Op.stringOp]⟩
  · exact hk.elim

end
end Go.Am

/-! The abstract machine, part 5: each operation that leaves memory alone stands for the model's. -/
namespace Go.Am
open Go

theorem fdiv_toNat {l h : Int} (_ : 0 ≤ l) (_ : l ≤ h) : (h - l).toNat = h.toNat - l.toNat := by omega

section
variable {P : Program} {T : TypeId → Option TI} (hT : TOk P T) {w0 w : World} {A : Nat → Prop} {locs : List (Option Loc)} {β : Nat → Option Loc} {σ : S} {a : Act}
variable (h : Sim w0 A locs β σ a w) {o : Oper} (hd : ∀ d, o.dst = some d → d < σ.n) {K : Eff → Prop} {m' : Nat → Option O} (hm : ∀ id ob, m' id = some ob → σ.m id = some ob)

include h hd in
theorem good_pick {c x y : Operand} (ho : o.op = .pick c x y) (hk : opPick (σ.ev c) (σ.ev x) (σ.ev y) K) : Good P w0 A locs σ a w o K := by
  unfold opPick at hk
  split at hk
  · rename_i t e
    have hc := rep_bool (h.imm e)
    cases t with
    | true => exact h.val hd (hk.1 rfl) (by simp [execOp, ho, hc, asBool]) (h.ev x)
    | false => exact h.val hd (hk.2 rfl) (by simp [execOp, ho, hc, asBool]) (h.ev y)
  · exact hk.elim

theorem run_bool_eq {t t' : TypeId} {x y : Operand} {b b' : Bool} (ho : o.op = .binOp .eql t x y t') (hx : a.eval x = .bool b) (hy : a.eval y = .bool b') (hu : P.underlying t = some .bool) :
    (execOp a.eval o).run P w = .ok (.value (.bool (b == b'))) w := by
  have e1 : ∀ w : World, (Op.equal t (.bool b) (.bool b')).run P w = .ok (b == b') w := fun w => run_equalIn_bool' w 9999 t b b' hu
  have e2 : binOp .eql t (.bool b) (.bool b') = (do pure (.bool (← Op.equal t (.bool b) (.bool b')))) := rfl
  unfold execOp
  simp only [ho, hx, hy, eqGuard_at_bool, e2, Sem.run_bind, Sem.run_pure, Result.andThen_ok, e1]
theorem run_bool_ne {t t' : TypeId} {x y : Operand} {b b' : Bool} (ho : o.op = .binOp .neq t x y t') (hx : a.eval x = .bool b) (hy : a.eval y = .bool b') (hu : P.underlying t = some .bool) :
    (execOp a.eval o).run P w = .ok (.value (.bool (!(b == b')))) w := by
  have e1 : ∀ w : World, (Op.equal t (.bool b) (.bool b')).run P w = .ok (b == b') w := fun w => run_equalIn_bool' w 9999 t b b' hu
  have e2 : binOp .neq t (.bool b) (.bool b') = (do pure (.bool (!(← Op.equal t (.bool b) (.bool b'))))) := rfl
  unfold execOp
  simp only [ho, hx, hy, eqGuard_at_bool, e2, Sem.run_bind, Sem.run_pure, Result.andThen_ok, e1]

include hT h hd in
theorem good_bin {op : BinOp} {t t' : TypeId} {x y : Operand} (ho : o.op = .binOp op t x y t') (hk : opBin T op t (σ.ev x) (σ.ev y) K) : Good P w0 A locs σ a w o K := by
  unfold opBin at hk
  split at hk
  · rename_i b b' e e'
    have hx := rep_bool (h.imm e)
    have hy := rep_bool (h.imm e')
    split at hk
    · rename_i ht
      have hu : P.underlying t = some .bool := by
        have hc := hT.desc ht
        unfold chkD at hc
        cases hu : P.underlying t with
        | none => simp [hu] at hc
        | some d => cases d <;> simp [hu] at hc; rfl
      exact h.val hd hk (v := .bool (b == b')) (run_bool_eq (t' := t') ho hx hy hu) (.bool _)
    · rename_i ht
      have hu : P.underlying t = some .bool := by
        have hc := hT.desc ht
        unfold chkD at hc
        cases hu : P.underlying t with
        | none => simp [hu] at hc
        | some d => cases d <;> simp [hu] at hc; rfl
      exact h.val hd hk (v := .bool (!(b == b'))) (run_bool_ne (t' := t') ho hx hy hu) (.bool _)
    · exact hk.elim
  · rename_i d d' _ e e'
    obtain ⟨v, r, hK, hr, hrun⟩ := binK_run (P := P) (t := t) (xo := x) (yo := y) op (h.imm e) (h.imm e') hk
    refine h.val hd hK (v := v) ?_ hr
    unfold execOp
    simp only [ho]
    rw [Sem.run_bind, hrun]
    rfl
  · exact hk.elim

include h hd in
theorem good_un {op : UnOp} {t : TypeId} {x : Operand} (ho : o.op = .unOp op t x) (hk : opUn op (σ.ev x) K) : Good P w0 A locs σ a w o K := by
  unfold opUn at hk
  split at hk
  · rename_i b e
    exact h.val hd hk (v := .bool (!b)) (by simp [execOp, ho, rep_bool (h.imm e), Op.unary]) (.bool _)
  · rename_i k n e
    exact h.val hd hk (v := .int k (k.wrap (0 - n))) (by simp [execOp, ho, rep_int (h.imm e), Op.unary, Op.intArith]) (.int _ _)
  · exact hk.elim

include hT h hd in
theorem good_conv {src dst : TypeId} {x : Operand} (ho : o.op = .convert src dst x) (hk : opConv T src dst (σ.ev x) K) : Good P w0 A locs σ a w o K := by
  unfold opConv at hk
  split at hk
  · rename_i ti k _ _ _ k' n hs ht e
    have hu := hT.int ht rfl
    have hs' : ∃ d, P.underlying src = some d := by
      have hc := hT.desc hs
      unfold chkD at hc
      cases hu : P.underlying src with
      | none => simp [hu] at hc
      | some d => exact ⟨d, rfl⟩
    obtain ⟨ds, hs'⟩ := hs'
    exact h.val hd hk (v := .int k (k.wrap n)) (by simp [execOp, ho, rep_int (h.imm e), convert, run_underlying hs', run_underlying hu, Conv.intToInt]) (.int _ _)
  · rename_i ti _ _ _ s hs ht e
    have hu := hT.str ht rfl
    have hs' : ∃ d, P.underlying src = some d := by
      have hc := hT.desc hs
      unfold chkD at hc
      cases hu : P.underlying src with
      | none => simp [hu] at hc
      | some d => exact ⟨d, rfl⟩
    obtain ⟨ds, hs'⟩ := hs'
    exact h.val hd hk (v := .string s) (by simp [execOp, ho, rep_str (h.imm e), convert, run_underlying hs', run_underlying hu]) (.str _)
  · exact hk.elim

include h hd in
theorem good_extract {x : Operand} {i : Nat} (ho : o.op = .extract x i) (hk : opExtract (σ.ev x) i K) : Good P w0 A locs σ a w o K := by
  unfold opExtract at hk
  split at hk
  · rename_i l e
    have hx := h.ev x
    rw [e] at hx
    obtain ⟨vs, hv, hs, hi⟩ := hx
    split at hk
    · exact hk.elim
    · rename_i av _ hl
      have hlt : i < vs.size := by rw [hs]; exact (List.getElem?_eq_some_iff.1 hl).1
      refine h.val hd hk (v := vs.getD i Go.undef) ?_ ?_
      · have e1 := getD_of hlt
        simp only [execOp, ho, hv, Instr.extract, e1, Sem.run_bind, Sem.run_pure, Result.andThen_ok]
      · have := hi i av hl
        cases av with
        | tup l' => exact this.elim
        | mix l' => exact this.elim
        | _ => exact this
    · exact hk.elim
  · exact hk.elim

theorem run_part {t : TypeId} (cs : Array Value) (off n : Nat) (b : Bool) (hs : (P.info? t).map (·.size) = some n) (hag : aggB P t = some b) (hb : b = false → off < cs.size) (w : World) :
    (part t cs off).run P w = .ok (if b then .agg (cs.extract off (off + n)) else cs.getD off Go.undef) w := by
  have hsz : (sizeOf t).run P w = .ok n w := by
    cases hi : P.info? t with
    | none => simp [hi] at hs
    | some i => simp [hi] at hs; simp [sizeOf, typeInfo, hi, hs]
  have hag' : (isAgg t).run P w = .ok b w := by
    unfold aggB at hag
    unfold isAgg
    cases hu : P.underlying t with
    | none => simp [hu] at hag
    | some d =>
      simp only [Sem.run_bind, run_underlying hu, Result.andThen_ok]
      cases d <;> simp [hu] at hag ⊢ <;> exact hag
  unfold part
  simp only [Sem.run_bind, hag', Result.andThen_ok]
  cases b with
  | true => simp [hsz]
  | false =>
    have e1 := getD_of (hb rfl)
    simp only [Bool.false_eq_true, if_false, e1, Sem.run_pure]

theorem extract_getD (cs : Array Value) (o n j : Nat) (hj : j < n) (hl : o + n ≤ cs.size) : (cs.extract o (o + n)).getD j Go.undef = cs.getD (o + j) Go.undef := by
  simp only [Array.getD_eq_getD_getElem?, Array.getElem?_extract]
  rw [if_pos (by omega)]

theorem rep_agg {B : Nat → Prop} {v : Value} {ds : List D} (hr : Rep w B v (.agg ds)) : ∃ vs : Array Value, v = .agg vs ∧ vs.size = ds.length ∧ ∀ (j : Nat) (d : D), ds[j]? = some d → Rep w B (vs.getD j Go.undef) d := by
  cases hr with
  | agg vs ds hs hj => exact ⟨vs, rfl, hs, hj⟩

theorem rep_part {B : Nat → Prop} {vs : Array Value} {ds : List D} (hs : vs.size = ds.length) (hj : ∀ (j : Nat) (d : D), ds[j]? = some d → Rep w B (vs.getD j Go.undef) d) (o n : Nat) (hl : o + n ≤ ds.length) :
    Rep w B (.agg (vs.extract o (o + n))) (.agg ((ds.drop o).take n)) := by
  refine .agg _ _ (by simp [hs]; omega) fun j d hjd => ?_
  rw [List.getElem?_take] at hjd
  split at hjd
  · rename_i hjn
    rw [List.getElem?_drop] at hjd
    rw [extract_getD vs o n j hjn (by omega)]
    exact hj _ _ hjd
  · cases hjd

theorem rep_ptr {B : Nat → Prop} {v : Value} {ds : List D} (hr : Rep w B v (.ptr ds)) : ∃ (ad : Addr) (g : Nat → Value), v = .pointer (some ad) ∧ ad.block < w.heap.size ∧ ¬ B ad.block ∧ ad.spot = none ∧
    (∀ (j : Nat) (d : D), ds[j]? = some d → w.cell? (ad.add j) = some (g j) ∧ w.frozen? (ad.add j) = false) ∧ (∀ (j : Nat) (d : D), ds[j]? = some d → Rep w B (g j) d) := by
  cases hr with
  | ptr ad ds g hb hB hs hc hr => exact ⟨ad, g, rfl, hb, hB, hs, hc, hr⟩

theorem rep_ptr_mk {B : Nat → Prop} {ad : Addr} {ds : List D} {g : Nat → Value} (hb : ad.block < w.heap.size) (hB : ¬ B ad.block) (hs : ad.spot = none)
    (hc : ∀ (j : Nat) (d : D), ds[j]? = some d → w.cell? (ad.add j) = some (g j) ∧ w.frozen? (ad.add j) = false) (hr : ∀ (j : Nat) (d : D), ds[j]? = some d → Rep w B (g j) d) (n : Nat) :
    Rep w B (.pointer (some (ad.add n))) (.ptr (ds.drop n)) := by
  refine Rep.ptr (ad.add n) (ds.drop n) (fun j => g (n + j)) (by rw [block_add]; exact hb) (by rw [block_add]; exact hB) (by rw [add_spot hs]) ?_ ?_
  · intro j d hj
    rw [List.getElem?_drop] at hj
    rw [add_add]; exact hc _ _ hj
  · intro j d hj
    rw [List.getElem?_drop] at hj
    exact hr _ _ hj

theorem RegRd.ex (w : World) {ol : Option Loc} {v : Value} {d : D} (h : RegRd ol v d) : ∃ w' B', Rep w' B' v d := by
  cases ol with
  | none => exact ⟨w, fun _ => False, h w _⟩
  | some l => obtain ⟨r, _, h⟩ := h; exact ⟨_, _, h⟩

theorem RegRd.map {ol : Option Loc} {v v' : Value} {d d' : D} (f : ∀ w B, Rep w B v d → Rep w B v' d') (h : RegRd ol v d) : RegRd ol v' d' := by
  cases ol with
  | none => exact fun w B => f _ _ (h w B)
  | some l => obtain ⟨r, e, h⟩ := h; exact ⟨r, e, f _ _ h⟩

theorem tvAV_of {w : World} {B : Nat → Prop} {β : Nat → Option Loc} {m : Nat → Option O} {id : Nat} {c : Bool} {d : D} {v : Value} (hm : m id = some (.reg c)) (hr : RegRd (β id) v d) : AvRep w B β m (tvAV id d) v := by
  obtain ⟨w1, B1, h1⟩ := hr.ex w
  unfold tvAV
  split
  · rw [rep_int h1]; exact Rep.int _ _
  · rw [rep_bool h1]; exact Rep.bool _
  · rw [rep_str h1]; exact Rep.str _
  · simp only [AvRep, AvRep0, hm]; exact hr

theorem tv_rd {w : World} {B : Nat → Prop} {β : Nat → Option Loc} {m : Nat → Option O} {id : Nat} {c : Bool} {d : D} {v : Value} (hm : m id = some (.reg c)) (h : AvRep w B β m (.tv id d) v) : RegRd (β id) v d := by
  simpa only [AvRep, AvRep0, hm] using h
theorem tv_mk {w : World} {B : Nat → Prop} {β : Nat → Option Loc} {m : Nat → Option O} {id : Nat} {c : Bool} {d : D} {v : Value} (hm : m id = some (.reg c)) (h : RegRd (β id) v d) : AvRep w B β m (.tv id d) v := by
  simpa only [AvRep, AvRep0, hm] using h

include hT h hd hm in
theorem good_field {t : TypeId} {x : Operand} {f : Nat} (ho : o.op = .field t x f) (hk : opField T m' t (σ.ev x) f K) : Good P w0 A locs σ a w o K := by
  unfold opField at hk
  split at hk
  · rename_i fs _ _ _ ds ht e
    obtain ⟨vs, hv, hs, hj⟩ := rep_agg (h.imm e)
    obtain ⟨fields, hu, hf⟩ := hT.struct ht rfl
    split at hk
    · rename_i off n hfs
      obtain ⟨fd, h1, h2, h3, h4, h5⟩ := hf f _ hfs
      refine h.val hd hk.2 (v := .agg (vs.extract off (off + n))) ?_ (rep_part hs hj off n hk.1)
      have hp := run_part (P := P) vs fd.offset n true h3 h5 (fun e => by cases e) w
      simp only [h2, if_true] at hp
      simp [execOp, ho, hv, Instr.field, run_underlying hu, h1, asAgg, h2, hp]
    · rename_i off n hfs
      obtain ⟨fd, h1, h2, h3, h4, h5⟩ := hf f _ hfs
      split at hk
      · rename_i d hd'
        have hlt : off < vs.size := by rw [hs]; exact (List.getElem?_eq_some_iff.1 hd').1
        refine h.val hd hk (v := vs.getD off Go.undef) ?_ (hj off d hd')
        have hp := run_part (P := P) vs fd.offset n false h3 h5 (fun _ => by rw [h2]; exact hlt) w
        simp only [h2, Bool.false_eq_true, if_false] at hp
        simp only [execOp, ho, hv, Instr.field, Sem.run_bind, run_underlying hu, Result.andThen_ok, h1, asAgg, Sem.run_pure, h2, hp]
      · exact hk.elim
    · exact hk.elim
  · rename_i fs _ _ _ l ht e
    obtain ⟨fields, hu, hf⟩ := hT.struct ht rfl
    have hx := h.ev x
    rw [e] at hx
    obtain ⟨vs, hv, hs, hj⟩ := hx
    split at hk
    · rename_i off n hfs
      obtain ⟨fd, h1, h2, h3, h4, h5⟩ := hf f _ hfs
      have hp := run_part (P := P) vs fd.offset n true h3 h5 (fun e => by cases e) w
      simp only [h2, if_true] at hp
      have hrun : (execOp a.eval o).run P w = .ok (.value (.agg (vs.extract off (off + n)))) w := by
        simp [execOp, ho, hv, Instr.field, run_underlying hu, h1, asAgg, h2, hp]
      have hsz : (vs.extract off (off + n)).size = ((l.drop off).take n).length := by
        simp only [Array.size_extract, List.length_take, List.length_drop, hs]
        have := hk.1
        omega
      have hat : ∀ (i : Nat) (c : AV), ((l.drop off).take n)[i]? = some c → AvRep0 w (Bl A β σ.m) β σ.m c ((vs.extract off (off + n)).getD i Go.undef) := fun i c hi => by
        rw [List.getElem?_take] at hi
        split at hi
        · rename_i hlt
          rw [List.getElem?_drop] at hi
          have := hj _ _ hi
          have hlt2 : off + i < vs.size := by rw [hs]; exact (List.getElem?_eq_some_iff.1 hi).1
          have e1 : (vs.extract off (off + n)).getD i Go.undef = vs.getD (off + i) Go.undef := by
            simp only [Array.getD_eq_getD_getElem?, Array.getElem?_extract]
            rw [if_pos (by omega)]
          rw [e1]; exact this
        · cases hi
      obtain ⟨_, hk⟩ := hk
      split at hk
      · rename_i ds hds
        refine h.val hd hk hrun ?_
        obtain ⟨i1, i2⟩ := imms_cells hds
        exact Rep.agg _ _ (by rw [hsz, i1]) fun i d hi => hat i _ (i2 i d hi)
      · exact h.val hd hk hrun ⟨_, rfl, hsz, hat⟩
    · rename_i off n hfs
      obtain ⟨fd, h1, h2, h3, h4, h5⟩ := hf f _ hfs
      split at hk
      · rename_i av hav
        have hlt : off < vs.size := by rw [hs]; exact (List.getElem?_eq_some_iff.1 hav).1
        refine h.val hd hk (v := vs.getD off Go.undef) ?_ (avRep_of0 (hj off av hav))
        have hp := run_part (P := P) vs fd.offset n false h3 h5 (fun _ => by rw [h2]; exact hlt) w
        simp only [h2, Bool.false_eq_true, if_false] at hp
        simp only [execOp, ho, hv, Instr.field, Sem.run_bind, run_underlying hu, Result.andThen_ok, h1, asAgg, Sem.run_pure, h2, hp]
      · exact hk.elim
    · exact hk.elim
  · rename_i fs _ _ _ id ds ht e
    obtain ⟨fields, hu, hf⟩ := hT.struct ht rfl
    have hx := h.ev x
    rw [e] at hx
    split at hk
    · rename_i c hmm
      have hmm' := hm _ _ hmm
      have hrd := tv_rd hmm' hx
      obtain ⟨w1, B1, hr1⟩ := hrd.ex w
      obtain ⟨vs, hv, hs, _⟩ := rep_agg hr1
      split at hk
      · rename_i off n hfs
        obtain ⟨fd, h1, h2, h3, h4, h5⟩ := hf f _ hfs
        refine h.val hd hk.2 (v := .agg (vs.extract off (off + n))) ?_ (tv_mk hmm' (hrd.map fun w2 B2 hr2 => ?_))
        · have hp := run_part (P := P) vs fd.offset n true h3 h5 (fun e => by cases e) w
          simp only [h2, if_true] at hp
          simp [execOp, ho, hv, Instr.field, run_underlying hu, h1, asAgg, h2, hp]
        · rw [hv] at hr2
          obtain ⟨vs', e', hs', hj'⟩ := rep_agg hr2
          injection e' with e'
          subst e'
          exact rep_part hs' hj' off n hk.1
      · rename_i off n hfs
        obtain ⟨fd, h1, h2, h3, h4, h5⟩ := hf f _ hfs
        split at hk
        · rename_i d hd'
          have hlt : off < vs.size := by rw [hs]; exact (List.getElem?_eq_some_iff.1 hd').1
          have hav := tvAV_of (w := w) (B := Bl A β σ.m) hmm' (v := vs.getD off Go.undef) (hrd.map fun w2 B2 hr2 => by
            rw [hv] at hr2
            obtain ⟨vs', e', hs', hj'⟩ := rep_agg hr2
            injection e' with e'
            subst e'
            exact hj' off d hd')
          refine h.val hd hk (v := vs.getD off Go.undef) ?_ hav
          have hp := run_part (P := P) vs fd.offset n false h3 h5 (fun _ => by rw [h2]; exact hlt) w
          simp only [h2, Bool.false_eq_true, if_false] at hp
          simp only [execOp, ho, hv, Instr.field, Sem.run_bind, run_underlying hu, Result.andThen_ok, h1, asAgg, Sem.run_pure, h2, hp]
        · exact hk.elim
      · exact hk.elim
    · exact hk.elim
  · exact hk.elim

include hT h hd hm in
theorem good_fieldAddr {t : TypeId} {x : Operand} {f : Nat} (ho : o.op = .fieldAddr t x f) (hk : opFieldAddr T m' t (σ.ev x) f K) : Good P w0 A locs σ a w o K := by
  unfold opFieldAddr at hk
  split at hk
  · rename_i fs _ _ _ ht
    obtain ⟨fields, hu, hf⟩ := hT.struct ht rfl
    split at hk
    · rename_i off n b hfs
      obtain ⟨fd, h1, h2, h3, h4, h5⟩ := hf f _ hfs
      have hsz : ∀ w : World, (sizeOf fd.type).run P w = .ok n w := fun w => by
        cases hi : P.info? fd.type with
        | none => simp [hi] at h3
        | some i => simp [hi] at h3; simp [sizeOf, typeInfo, hi, h3]
      have hrun : ∀ ad : Addr, a.eval x = .pointer (some ad) → (execOp a.eval o).run P w = .ok (.value (.pointer (some (ad.add off)))) w := fun ad hx => by
        have h4' : ¬ n = 0 := h4
        simp [execOp, ho, hx, Instr.fieldAt, run_underlying hu, h1, Instr.sureAddr, fieldPlace, hsz, h4', h2]
      have hx := h.ev x
      split at hk
      · rename_i id o' e
        rw [e] at hx
        split at hk
        · rename_i ty cells hmm
          have hmm' := hm _ _ hmm
          simp only [AvRep, AvRep0, BoxAt, hmm'] at hx
          obtain ⟨l, hl, hv⟩ := hx
          refine h.val hd hk (hrun _ hv) ?_
          simp only [AvRep, AvRep0, BoxAt, hmm']
          exact ⟨l, hl, by rw [add_spot rfl]⟩
        · exact hk.elim
      · rename_i id r o' e
        rw [e] at hx
        split at hk
        · rename_i ty sz rows hmm
          have hmm' := hm _ _ hmm
          simp only [AvRep, AvRep0, hmm'] at hx
          obtain ⟨hr, l, hl, hv⟩ := hx
          refine h.val hd hk (hrun _ hv) ?_
          simp only [AvRep, AvRep0, hmm']
          exact ⟨hr, l, hl, by rw [add_spot rfl]; simp [Nat.add_assoc]⟩
        · rename_i sz rows hmm
          have hmm' := hm _ _ hmm
          simp only [AvRep, AvRep0, hmm'] at hx
          obtain ⟨hr, l, hl, hv⟩ := hx
          refine h.val hd hk (hrun _ hv) ?_
          simp only [AvRep, AvRep0, hmm']
          exact ⟨hr, l, hl, by rw [add_spot rfl]; simp [Nat.add_assoc]⟩
        · exact hk.elim
      · rename_i ds e
        rw [e] at hx
        obtain ⟨ad, g, hxe, hb, hB, hs, hc, hr⟩ := rep_ptr hx
        exact h.val hd hk (hrun ad hxe) (rep_ptr_mk hb hB hs hc hr off)
      · rename_i id ds e
        rw [e] at hx
        split at hk
        · rename_i c hmm
          have hmm' := hm _ _ hmm
          have hrd := tv_rd hmm' hx
          obtain ⟨w1, B1, hr1⟩ := hrd.ex w
          obtain ⟨ad, _, hxe, _⟩ := rep_ptr hr1
          refine h.val hd hk (hrun ad hxe) (tv_mk hmm' (hrd.map fun w2 B2 hr2 => ?_))
          rw [hxe] at hr2
          obtain ⟨ad', g, e', hb, hB, hs, hc, hr⟩ := rep_ptr hr2
          injection e' with e'; injection e' with e'; subst e'
          exact rep_ptr_mk hb hB hs hc hr off
        · exact hk.elim
      · exact hk.elim
    · exact hk.elim
  · exact hk.elim

theorem rep_list {B : Nat → Prop} {v : Value} {rows : List (List D)} (hr : Rep w B v (.list rows)) :
    ∃ ad n c, v = .slice ad n c ∧ n = rows.length ∧ (0 < n → ∃ (b : Addr) (sz : Nat) (g : Nat → Value), ad = some b ∧ n ≤ c ∧ (∀ r ∈ rows, r.length = sz) ∧ b.block < w.heap.size ∧ ¬ B b.block ∧ b.spot = none ∧
      (∀ (j : Nat) (d : D), rows.flatten[j]? = some d → w.cell? (b.add j) = some (g j) ∧ w.frozen? (b.add j) = false) ∧ (∀ (j : Nat) (d : D), rows.flatten[j]? = some d → Rep w B (g j) d)) := by
  cases hr with
  | nil a c => exact ⟨a, 0, c, rfl, rfl, fun h => by omega⟩
  | list ad n c rows sz g hn hc hr hb hB hs hcell hrep => exact ⟨some ad, n, c, rfl, hn, fun _ => ⟨ad, sz, g, rfl, hc, hr, hb, hB, hs, hcell, hrep⟩⟩

/-- Row i, cell j of rows of one size. -/
theorem flat_at {α : Type} {sz : Nat} : ∀ (rows : List (List α)), (∀ r ∈ rows, r.length = sz) → ∀ (i : Nat) (r : List α), rows[i]? = some r → ∀ (j : Nat) (x : α), r[j]? = some x → rows.flatten[i * sz + j]? = some x
  | [], _, i, r, hi, _, _, _ => by simp at hi
  | r0 :: rows, hsz, 0, r, hi, j, x, hx => by
    simp at hi; subst hi
    have hj : j < r0.length := (List.getElem?_eq_some_iff.1 hx).1
    rw [List.flatten_cons, Nat.zero_mul, Nat.zero_add, List.getElem?_append_left hj]
    exact hx
  | r0 :: rows, hsz, i + 1, r, hi, j, x, hx => by
    have h0 : r0.length = sz := hsz r0 (by simp)
    rw [List.flatten_cons, List.getElem?_append_right (by rw [h0, Nat.succ_mul]; omega), h0]
    rw [show (i + 1) * sz + j - sz = i * sz + j from by rw [Nat.succ_mul]; omega]
    exact flat_at rows (fun r hr => hsz r (by simp [hr])) i r (by simpa using hi) j x hx

theorem flat_drop {α : Type} {sz : Nat} : ∀ (rows : List (List α)), (∀ r ∈ rows, r.length = sz) → ∀ i, (rows.drop i).flatten = rows.flatten.drop (i * sz)
  | [], _, i => by simp
  | r0 :: rows, hsz, 0 => by simp
  | r0 :: rows, hsz, i + 1 => by
    have h0 : r0.length = sz := hsz r0 (by simp)
    rw [List.drop_succ_cons, flat_drop rows (fun r hr => hsz r (by simp [hr])) i, List.flatten_cons, List.drop_append, h0, Nat.succ_mul]
    rw [List.drop_eq_nil_of_le (show r0.length ≤ i * sz + sz by omega), List.nil_append]
    congr 1
    omega

theorem flat_len {α : Type} {sz : Nat} : ∀ (rows : List (List α)), (∀ r ∈ rows, r.length = sz) → rows.flatten.length = rows.length * sz
  | [], _ => by simp
  | r0 :: rows, hsz => by
    rw [List.flatten_cons, List.length_append, flat_len rows (fun r hr => hsz r (by simp [hr])), hsz r0 (by simp), List.length_cons, Nat.succ_mul]
    omega

theorem flat_take {α : Type} {sz : Nat} (rows : List (List α)) (hsz : ∀ r ∈ rows, r.length = sz) (i : Nat) : (rows.take i).flatten = rows.flatten.take (i * sz) := by
  have h1 := List.take_append_drop i rows
  have h2 : rows.flatten = (rows.take i).flatten ++ (rows.drop i).flatten := by rw [← List.flatten_append, h1]
  by_cases hi : i ≤ rows.length
  · have h3 : (rows.take i).flatten.length = i * sz := by
      rw [flat_len (sz := sz) _ (fun r hr => hsz r (List.mem_of_mem_take hr)), List.length_take, Nat.min_eq_left hi]
    rw [h2]
    exact (List.take_left' h3).symm
  · rw [List.take_of_length_le (show rows.length ≤ i by omega), List.take_of_length_le]
    rw [flat_len rows hsz]
    exact Nat.mul_le_mul_right _ (by omega)

include hT h hd hm in
theorem good_indexAddr {t : TypeId} {x i : Operand} (ho : o.op = .indexAddr t x i) (hk : opIndexAddr T m' t (σ.ev x) (σ.ev i) K) : Good P w0 A locs σ a w o K := by
  unfold opIndexAddr at hk
  split at hk
  · rename_i k n ei
    have hi := rep_int (h.imm ei)
    have hx := h.ev x
    split at hk
    · rename_i e _ _ _ ht
      have hu := hT.slice ht rfl
      split at hk
      · rename_i te hte
        have hsz : ∀ w : World, (sizeOf e).run P w = .ok te.size w := fun w => hT.sizeOf hte w
        have hrun : ∀ (ad : Addr) (len cap : Nat), a.eval x = .slice (some ad) len cap → 0 ≤ n → n < len → (execOp a.eval o).run P w = .ok (.value (.pointer (some (ad.add (n.toNat * te.size))))) w := fun ad len cap hv h0 h1 => by
          simp [execOp, ho, hv, hi, Instr.indexAt, asIntOf, run_underlying hu, h0, h1, hsz]
        split at hk
        · rename_i rows e'
          rw [e'] at hx
          obtain ⟨h0, hk⟩ := hk
          split at hk
          · rename_i r hr
            obtain ⟨ad, len, c, hv, hl, hrest⟩ := rep_list hx
            have hlt : n.toNat < rows.length := (List.getElem?_eq_some_iff.1 hr).1
            obtain ⟨b, sz, g, rfl, hc, hrows, hb, hB, hs, hcell, hrep⟩ := hrest (by omega)
            have hrs : r.length = sz := hrows r (List.mem_of_getElem? hr)
            have hsz' : te.size = sz := by rw [← hk.1, hrs]
            refine h.val hd hk.2 (hrun b len c hv h0 (by omega)) ?_
            refine Rep.ptr _ _ (fun j => g (n.toNat * te.size + j)) (by rw [block_add]; exact hb) (by rw [block_add]; exact hB) (by rw [add_spot hs]) ?_ ?_
            · intro j d hj
              rw [add_add, hsz']
              exact hcell _ d (flat_at rows hrows _ r hr j d hj)
            · intro j d hj
              rw [hsz']
              exact hrep _ d (flat_at rows hrows _ r hr j d hj)
          · exact hk.elim
        · rename_i id off len e'
          rw [e'] at hx
          obtain ⟨h0, h1, hk⟩ := hk
          split at hk
          · rename_i ty sz rows hmm
            have hmm' := hm _ _ hmm
            simp only [AvRep, AvRep0, hmm'] at hx
            obtain ⟨hle, hx⟩ := hx
            rcases hx with ⟨hβ, hv⟩ | ⟨l, ad, hβ, hv, hot, had⟩
            · have hob := h.ob id _ hmm'
              obtain ⟨_, _, hob⟩ := hob
              rcases hob with ⟨_, hrn⟩ | ⟨l, cs, hβ', _⟩
              · subst hrn; simp at hle; omega
              · rw [hβ] at hβ'; cases hβ'
            · have hob := h.ob id _ hmm'
              obtain ⟨_, _, hob⟩ := hob
              rcases hob with ⟨hβ', _⟩ | ⟨l', cs, hβ', _, _, hrt, _⟩
              · rw [hβ] at hβ'; cases hβ'
              · rw [hβ] at hβ'; injection hβ' with hβ'; subst hβ'
                have had := had (by omega)
                refine h.val hd hk.2 (hrun ad len _ hv h0 (by omega)) ?_
                simp only [AvRep, AvRep0, hmm']
                refine ⟨by omega, l, hβ, ?_⟩
                rw [had, add_spot rfl, hk.1, Nat.add_mul]
                simp [Nat.add_assoc]
          · rename_i sz rows hmm
            have hmm' := hm _ _ hmm
            simp only [AvRep, AvRep0, hmm'] at hx
            obtain ⟨hle, ad, c, hv, hc, had⟩ := hx
            obtain ⟨l, hβ, rfl⟩ := had (by omega)
            refine h.val hd hk.2 (hrun _ len _ hv h0 (by omega)) ?_
            simp only [AvRep, AvRep0, hmm']
            refine ⟨by omega, l, hβ, ?_⟩
            rw [add_spot rfl, hk.1, Nat.add_mul]
            simp [Nat.add_assoc]
          · exact hk.elim
        · rename_i id rows e'
          rw [e'] at hx
          obtain ⟨h0, hk⟩ := hk
          split at hk
          · rename_i c hmm
            have hmm' := hm _ _ hmm
            have hrd := tv_rd hmm' hx
            obtain ⟨w1, B1, hr1⟩ := hrd.ex w
            split at hk
            · rename_i r hr
              obtain ⟨ad, len, c, hv, hl, hrest⟩ := rep_list hr1
              have hlt : n.toNat < rows.length := (List.getElem?_eq_some_iff.1 hr).1
              obtain ⟨b, _, _, rfl, _⟩ := hrest (by omega)
              refine h.val hd hk.2 (hrun b len c hv h0 (by omega)) (tv_mk hmm' (hrd.map fun w2 B2 hr2 => ?_))
              rw [hv] at hr2
              obtain ⟨ad', len', c', e2, hl', hrest'⟩ := rep_list hr2
              injection e2 with e2 e3 e4
              subst e3
              have hpos : 0 < len := by rw [hl]; exact Nat.lt_of_le_of_lt (Nat.zero_le _) hlt
              obtain ⟨b', sz, g, e5, hc, hrows, hb, hB, hs, hcell, hrep⟩ := hrest' hpos
              rw [e5] at e2
              injection e2 with e2
              subst e2
              have hrs : r.length = sz := hrows r (List.mem_of_getElem? hr)
              have hsz' : te.size = sz := by rw [← hk.1, hrs]
              refine Rep.ptr _ _ (fun j => g (n.toNat * te.size + j)) (by rw [block_add]; exact hb) (by rw [block_add]; exact hB) (by rw [add_spot hs]) ?_ ?_
              · intro j d hj
                rw [add_add, hsz']
                exact hcell _ d (flat_at rows hrows _ r hr j d hj)
              · intro j d hj
                rw [hsz']
                exact hrep _ d (flat_at rows hrows _ r hr j d hj)
            · exact hk.elim
          · exact hk.elim
        · exact hk.elim
      · exact hk.elim
    · rename_i len e _ _ _ ht
      have hu := hT.array ht rfl
      split at hk
      · rename_i te hte
        have hsz : ∀ w : World, (sizeOf e).run P w = .ok te.size w := fun w => hT.sizeOf hte w
        have hrun : ∀ (ad : Addr), a.eval x = .pointer (some ad) → 0 ≤ n → n < len → (execOp a.eval o).run P w = .ok (.value (.pointer (some (ad.add (n.toNat * te.size))))) w := fun ad hv h0 h1 => by
          simp [execOp, ho, hv, hi, Instr.indexAt, asIntOf, run_underlying hu, h0, h1, hsz, Instr.sureAddr]
        split at hk
        · rename_i id off e'
          rw [e'] at hx
          obtain ⟨h0, h1, hk⟩ := hk
          split at hk
          · rename_i ty cells hmm
            have hmm' := hm _ _ hmm
            simp only [AvRep, AvRep0, BoxAt, hmm'] at hx
            obtain ⟨l, hl, hv⟩ := hx
            refine h.val hd hk (hrun _ hv h0 h1) ?_
            simp only [AvRep, AvRep0, BoxAt, hmm']
            exact ⟨l, hl, by rw [add_spot rfl]⟩
          · exact hk.elim
        · rename_i ds e'
          rw [e'] at hx
          obtain ⟨ad, g, hv, hb, hB, hs, hc, hr⟩ := rep_ptr hx
          exact h.val hd hk.2.2 (hrun ad hv hk.1 hk.2.1) (rep_ptr_mk hb hB hs hc hr _)
        · exact hk.elim
      · exact hk.elim
    · exact hk.elim
  · exact hk.elim

include hT h hd in
theorem good_index {t : TypeId} {x i : Operand} (ho : o.op = .index t x i) (hk : opIndex T t (σ.ev x) (σ.ev i) K) : Good P w0 A locs σ a w o K := by
  unfold opIndex at hk
  split at hk
  · rename_i k n ei
    have hi := rep_int (h.imm ei)
    split at hk
    · rename_i _ _ _ s ht e
      have hu := hT.str ht rfl
      have hx := rep_str (h.imm e)
      obtain ⟨h0, hk⟩ := hk
      split at hk
      · rename_i b hb
        exact h.val hd hk (v := .int .u8 b.toNat) (by simp [execOp, ho, hx, hi, Instr.index, asIntOf, run_underlying hu, h0, hb]) (.int _ _)
      · exact hk.elim
    · rename_i len e _ _ _ ds ht e'
      have hu := hT.array ht rfl
      obtain ⟨vs, hv, hs, hj⟩ := rep_agg (h.imm e')
      split at hk
      · rename_i te hte
        have hsz : ∀ w : World, (sizeOf e).run P w = .ok te.size w := fun w => hT.sizeOf hte w
        have hag : ∀ w : World, (isAgg e).run P w = .ok te.agg w := fun w => hT.isAgg hte w
        obtain ⟨h0, h1, hk⟩ := hk
        split at hk
        · rename_i hagt
          refine h.val hd hk.2 (v := .agg (vs.extract (n.toNat * te.size) (n.toNat * te.size + te.size))) ?_ (rep_part hs hj _ _ hk.1)
          simp [execOp, ho, hv, hi, Instr.index, asIntOf, run_underlying hu, h0, h1, hsz, part, hag, hagt]
        · rename_i hagf
          split at hk
          · rename_i d hd'
            have hlt : n.toNat * te.size < vs.size := by rw [hs]; exact (List.getElem?_eq_some_iff.1 hd').1
            refine h.val hd hk (v := vs.getD (n.toNat * te.size) Go.undef) ?_ (hj _ d hd')
            have e1 := getD_of hlt
            simp only [execOp, ho, hv, hi, Instr.index, asIntOf, Sem.run_bind, Sem.run_pure, Result.andThen_ok, run_underlying hu, h0, h1, and_self, if_true, hsz, part, hag, hagf, Bool.false_eq_true, if_false, e1]
          · exact hk.elim
      · exact hk.elim
    · exact hk.elim
  · exact hk.elim

end
end Go.Am

/-! The abstract machine, part 6: slices, lengths, function values, moves. -/
namespace Go.Am
open Go

section
variable {P : Program} {T : TypeId → Option TI} (hT : TOk P T) {w0 w : World} {A : Nat → Prop} {locs : List (Option Loc)} {β : Nat → Option Loc} {σ : S} {a : Act}
variable (h : Sim w0 A locs β σ a w) {o : Oper} (hd : ∀ d, o.dst = some d → d < σ.n) {K : Eff → Prop} {m' : Nat → Option O} (hm : ∀ id ob, m' id = some ob → σ.m id = some ob)

theorem run_bounds (isSlice : Bool) (len cap : Nat) (lo hi : Option Value) (l hh : Int) (hlo : lo = none ∧ l = 0 ∨ ∃ k, lo = some (.int k l)) (hhi : hi = none ∧ hh = len ∨ ∃ k, hi = some (.int k hh))
    (h0 : 0 ≤ l) (h1 : l ≤ hh) (h2 : hh ≤ cap) (w : World) : (Instr.sliceBounds isSlice len cap lo hi none).run P w = .ok (l.toNat, hh.toNat, cap) w := by
  have eh : (hh.toNat : Int) = hh := Int.toNat_of_nonneg (by omega)
  rcases hlo with ⟨rfl, rfl⟩ | ⟨k, rfl⟩ <;> rcases hhi with ⟨rfl, rfl⟩ | ⟨k', rfl⟩ <;>
    (try have h3 : 0 ≤ hh := by omega) <;> (try have h4 : (l.toNat : Int) = l := Int.toNat_of_nonneg h0) <;> simp_all [Instr.sliceBounds, run_sliceBound]

include h in
theorem bnd_ev {x : Option Operand} {dflt : Int} {K : Int → Prop} (hk : bnd (x.map σ.ev) dflt K) : ∃ n, K n ∧ (x.map a.eval = none ∧ n = dflt ∨ ∃ k, x.map a.eval = some (.int k n)) := by
  unfold bnd at hk
  cases x with
  | none => exact ⟨dflt, hk, .inl ⟨rfl, rfl⟩⟩
  | some y =>
    simp only [Option.map_some] at hk ⊢
    split at hk
    · rename_i e; cases e
    · rename_i k n e
      injection e with e
      exact ⟨n, hk, .inr ⟨k, by rw [rep_int (h.imm e)]⟩⟩
    · exact hk.elim

theorem rep_slice {B : Nat → Prop} {ad : Option Addr} {n c : Nat} {rows : List (List D)} (hr : Rep w B (.slice ad n c) (.list rows)) {sz : Nat} (hsz : ∀ r ∈ rows, r.length = sz) {l hh : Nat} (h1 : l ≤ hh) (h2 : hh ≤ rows.length) :
    Rep w B (.slice (if c = l then ad else ad.map (·.add (l * sz))) (hh - l) (c - l)) (.list ((rows.drop l).take (hh - l))) := by
  obtain ⟨ad', n', c', e, hn, hrest⟩ := rep_list hr
  injection e with e1 e2 e3
  subst e1 e2 e3
  by_cases hlt : l < hh
  · obtain ⟨b, sz', g, rfl, hc, hrows, hb, hB, hs, hcell, hrep⟩ := hrest (by omega)
    have hsz' : sz' = sz := by
      obtain ⟨r, rest, rfl⟩ : ∃ r rest, rows = r :: rest := by
        cases rows with
        | nil => simp at h2; omega
        | cons r rest => exact ⟨r, rest, rfl⟩
      rw [← hrows r (by simp), hsz r (by simp)]
    subst hsz'
    rw [if_neg (by omega)]
    have hfl : ∀ (j : Nat) (d : D), ((rows.drop l).take (hh - l)).flatten[j]? = some d → rows.flatten[l * sz' + j]? = some d := by
      intro j d hj
      rw [flat_take (sz := sz') _ (fun r hr => hsz r (List.mem_of_mem_drop hr)), flat_drop rows hsz] at hj
      rw [List.getElem?_take] at hj
      split at hj
      · rwa [List.getElem?_drop] at hj
      · cases hj
    refine .list _ _ _ _ sz' (fun j => g (l * sz' + j)) ?_ (by omega) (fun r hr => hsz r (List.mem_of_mem_drop (List.mem_of_mem_take hr))) (by show (b.add _).block < _; rw [block_add]; exact hb) (by show ¬ B (b.add _).block; rw [block_add]; exact hB) (by show (b.add _).spot = none; rw [add_spot hs]) ?_ ?_
    · rw [List.length_take, List.length_drop]; omega
    · intro j d hj
      show w.cell? ((b.add _).add j) = _ ∧ w.frozen? ((b.add _).add j) = _
      rw [add_add]
      exact hcell _ d (hfl j d hj)
    · intro j d hj
      exact hrep _ d (hfl j d hj)
  · have e : hh - l = 0 := by omega
    rw [e, List.take_zero]
    exact .nil _ _

theorem flat_inv' {α : Type} {sz : Nat} : ∀ (rows : List (List α)), (∀ r ∈ rows, r.length = sz) → ∀ (j : Nat) (x : α), rows.flatten[j]? = some x → ∃ i q r, j = i * sz + q ∧ q < sz ∧ rows[i]? = some r ∧ r[q]? = some x
  | [], _, j, x, hj => by simp at hj
  | r0 :: rows, hsz, j, x, hj => by
    have h0 : r0.length = sz := hsz r0 (by simp)
    rw [List.flatten_cons, List.getElem?_append, h0] at hj
    split at hj
    · rename_i hlt
      exact ⟨0, j, r0, by omega, hlt, rfl, hj⟩
    · rename_i hge
      obtain ⟨i, q, r, h1, h2, h3, h4⟩ := flat_inv' rows (fun r hr => hsz r (by simp [hr])) (j - sz) x hj
      exact ⟨i + 1, q, r, by rw [Nat.succ_mul]; omega, h2, by simpa using h3, h4⟩

include hT h hd hm in
theorem good_slice {t : TypeId} {x : Operand} {lo hi mx : Option Operand} (ho : o.op = .slice t x lo hi mx) (hk : opSlice T m' t (σ.ev x) (lo.map σ.ev) (hi.map σ.ev) (mx.map σ.ev) K) : Good P w0 A locs σ a w o K := by
  unfold opSlice at hk
  obtain ⟨hmx, hk⟩ := hk
  have hmx' : mx = none := by cases mx <;> first | rfl | (simp at hmx)
  subst hmx'
  split at hk
  · rename_i _ _ _ s ht e
    have hu := hT.str ht rfl
    have hx := rep_str (h.imm e)
    obtain ⟨l, hk, hlo⟩ := bnd_ev h hk
    obtain ⟨hh, hk, hhi⟩ := bnd_ev h hk
    obtain ⟨h0, h1, h2, hk⟩ := hk
    refine h.val hd hk (v := .string (s.extract l.toNat hh.toNat)) ?_ (.str _)
    have hb := run_bounds (P := P) false s.size s.size _ _ l hh hlo hhi h0 h1 h2 w
    simp only [execOp, ho, hx, Instr.sliceAt, Option.map_none, Sem.run_bind, run_underlying hu, Result.andThen_ok, Instr.slice, Option.isSome_none, Bool.false_eq_true, if_false, Sem.run_pure, hb]
  · rename_i e _ _ _ rows ht e'
    have hu := hT.slice ht rfl
    have hx := h.imm e'
    split at hk
    · rename_i te hte
      obtain ⟨hrows, hk⟩ := hk
      obtain ⟨l, hk, hlo⟩ := bnd_ev h hk
      obtain ⟨hh, hk, hhi⟩ := bnd_ev h hk
      obtain ⟨h0, h1, h2, hk⟩ := hk
      have hsz : ∀ w : World, (sizeOf e).run P w = .ok te.size w := fun w => hT.sizeOf hte w
      obtain ⟨ad, n, c, hv, hn, hrest⟩ := rep_list hx
      have hnc : n ≤ c ∨ n = 0 := by
        by_cases hn0 : 0 < n
        · obtain ⟨b, sz, g, _, hc, _⟩ := hrest hn0; exact .inl hc
        · exact .inr (by omega)
      subst hn
      have hcap : hh ≤ (c : Int) := by omega
      have hb := run_bounds (P := P) true rows.length c _ _ l hh hlo hhi h0 h1 hcap w
      rw [hv] at hx
      refine h.val hd hk (v := .slice (if c = l.toNat then ad else ad.map (·.add (l.toNat * te.size))) (hh.toNat - l.toNat) (c - l.toNat)) ?_ (rep_slice hx hrows (by omega) (by omega))
      simp only [execOp, ho, hv, Instr.sliceAt, Option.map_none, Sem.run_bind, run_underlying hu, Result.andThen_ok, Instr.slice, Sem.run_pure, hb, hsz]
    · exact hk.elim
  · rename_i e _ _ _ id off len ht e'
    have hu := hT.slice ht rfl
    have hx := h.ev x
    rw [e'] at hx
    split at hk
    · rename_i te ty sz rows hte hmm
      have hmm' := hm _ _ hmm
      simp only [AvRep, AvRep0, hmm'] at hx
      obtain ⟨rfl, hk⟩ := hk
      obtain ⟨l, hk, hlo⟩ := bnd_ev h hk
      obtain ⟨hh, hk, hhi⟩ := bnd_ev h hk
      obtain ⟨h0, h1, h2, hk⟩ := hk
      have hsz : ∀ w : World, (sizeOf e).run P w = .ok te.size w := fun w => hT.sizeOf hte w
      obtain ⟨hle, hx⟩ := hx
      have hob := h.ob id _ hmm'
      obtain ⟨_, _, hob⟩ := hob
      rcases hx with ⟨hβ, hv⟩ | ⟨lc, ad, hβ, hv, hot, had⟩
      · have hrn : rows = [] := by
          rcases hob with ⟨_, hrn⟩ | ⟨lc, cs, hβ', _⟩
          · exact hrn
          · rw [hβ] at hβ'; cases hβ'
        subst hrn
        simp only [List.length_nil] at hle
        have e0 : len = 0 := by omega
        subst e0
        have e1 : l = 0 := by omega
        have e2 : hh = 0 := by omega
        subst e1 e2
        have hb := run_bounds (P := P) true 0 0 _ _ 0 0 hlo hhi (by omega) (by omega) (by omega) w
        refine h.val hd hk (v := .slice none 0 0) ?_ ?_
        · simp only [execOp, ho, hv, Instr.sliceAt, Option.map_none, Sem.run_bind, run_underlying hu, Result.andThen_ok, Instr.slice, Sem.run_pure, hb, hsz]
          simp
        · simp only [AvRep, AvRep0, hmm']
          exact ⟨by simp; omega, .inl ⟨hβ, trivial⟩⟩
      · rcases hob with ⟨hβ', _⟩ | ⟨l', cs, hβ', _, _, hrt, _⟩
        · rw [hβ] at hβ'; cases hβ'
        · rw [hβ] at hβ'; injection hβ' with hβ'; subst hβ'
          have hb := run_bounds (P := P) true len (lc.tot - off) _ _ l hh hlo hhi h0 h1 (by omega) w
          refine h.val hd hk (v := .slice (some (if lc.tot - off = l.toNat then ad else ad.add (l.toNat * te.size))) (hh.toNat - l.toNat) (lc.tot - off - l.toNat)) ?_ ?_
          · simp only [execOp, ho, hv, Instr.sliceAt, Option.map_none, Sem.run_bind, run_underlying hu, Result.andThen_ok, Instr.slice, Sem.run_pure, hb, hsz]
            congr 3
            split <;> rfl
          · simp only [AvRep, AvRep0, hmm']
            refine ⟨by omega, .inr ⟨lc, _, hβ, by congr 1; omega, by omega, fun hlt => ?_⟩⟩
            rw [if_neg (by omega), had (by omega), add_spot rfl, Nat.add_mul]
            simp [Nat.add_assoc]
    · exact hk.elim
  · rename_i n e _ _ _ id off ht e'
    have hu := hT.array ht rfl
    have hx := h.ev x
    rw [e'] at hx
    split at hk
    · rename_i te ty cells hte hmm
      have hmm' := hm _ _ hmm
      obtain ⟨rfl, hlo, hhi, hn, hk⟩ := hk
      split at hk
      · rename_i ds hds
        obtain ⟨hlen, hk⟩ := hk
        obtain ⟨i1, i2⟩ := imms_cells hds
        simp only [AvRep, AvRep0, BoxAt, hmm'] at hx
        obtain ⟨l, hl, hv⟩ := hx
        obtain ⟨l', cs, hl', hheap, hcsz, hcs⟩ := h.ob id _ hmm'
        rw [hl] at hl'; injection hl' with hl'; subst hl'
        have hlo' : lo = none := by cases lo <;> first | rfl | (simp at hlo)
        have hhi' : hi = none := by cases hi <;> first | rfl | (simp at hhi)
        subst hlo' hhi'
        have hsz : ∀ w : World, (sizeOf e).run P w = .ok te.size w := fun w => hT.sizeOf hte w
        have hb := run_bounds (P := P) false n n none none 0 n (.inl ⟨rfl, rfl⟩) (.inl ⟨rfl, rfl⟩) (by omega) (by omega) (by omega) w
        have hrun : (execOp a.eval o).run P w = .ok (.value (.slice (some ⟨l.b, 0, none⟩) n n)) w := by
          simp only [Int.toNat_natCast, Int.toNat_zero] at hb
          simp only [execOp, ho, hv, Instr.sliceAt, Instr.sureAddr, Option.map_none, Sem.run_bind, run_underlying hu, Result.andThen_ok, Sem.run_pure, hb, hsz]
          rw [if_neg (by omega)]
          simp [Addr.add_zero']
        have hsub : ∀ b, l.has b → ¬ Bl A β (upd σ.m id (some .gone)) b := by
          rintro b eb (hA | ⟨i, oi, li, e1, e2, e3, e4⟩)
          · exact (h.new id _ l hmm' rfl hl b eb).2.1 hA
          · by_cases e : i = id
            · subst e; rw [upd_same] at e1; injection e1 with e1; subst e1; simp [O.live] at e2
            · rw [upd_other _ _ e] at e1
              exact e (h.inj i id oi _ li l b e1 e2 e3 hmm' rfl hl e4 eb)
        have hkk : Keeps w (Bl A β σ.m) w (Bl A β (upd σ.m id (some .gone))) := by
          refine ⟨Nat.le_refl _, fun _ _ _ => rfl, fun b hb hB hB' => hB ?_⟩
          rcases hB' with hA | ⟨i, oi, li, e1, e2, e3, e4⟩
          · exact .inl hA
          · by_cases e : i = id
            · subst e; rw [upd_same] at e1; injection e1 with e1; subst e1; simp [O.live] at e2
            · rw [upd_other _ _ e] at e1
              exact .inr ⟨i, oi, li, e1, e2, e3, e4⟩
        have hrl : ∀ r ∈ chunk te.size ds n, r.length = te.size := by
          intro r hr
          obtain ⟨i, hi, rfl⟩ := List.mem_map.1 hr
          have hi' : i < n := List.mem_range.1 hi
          have : (i + 1) * te.size ≤ n * te.size := Nat.mul_le_mul_right _ hi'
          rw [Nat.succ_mul] at this
          rw [List.length_take, List.length_drop]
          omega
        have hfl : ∀ (j : Nat) (d : D), (chunk te.size ds n).flatten[j]? = some d → ds[j]? = some d := by
          intro j d hj
          obtain ⟨i, q, r, rfl, hq, hi, hrq⟩ := flat_inv' _ hrl j d hj
          unfold chunk at hi
          rw [List.getElem?_map, Option.map_eq_some_iff] at hi
          obtain ⟨i', hi', rfl⟩ := hi
          have : i' = i := by
            have := (List.getElem?_eq_some_iff.1 hi').2
            simpa using this.symm
          subst this
          rw [List.getElem?_take, if_pos hq, List.getElem?_drop] at hrq
          exact hrq
        have hrep : AvRep w (Bl A β (upd σ.m id (some .gone))) β (upd σ.m id (some .gone)) (.imm (.list (chunk te.size ds n))) (.slice (some ⟨l.b, 0, none⟩) n n) := by
          refine Rep.list ⟨l.b, 0, none⟩ n n (chunk te.size ds n) te.size (fun j => cs.getD j Go.undef) (by simp [chunk]) (Nat.le_refl _) hrl (h.new id _ l hmm' rfl hl l.b l.self).1 (hsub _ l.self) rfl ?_ ?_
          · intro j d hj
            have hjl := (List.getElem?_eq_some_iff.1 (hfl j d hj)).1
            rw [add_spot rfl]
            simp only [Nat.zero_add]
            exact ⟨by rw [cell_at hheap, getD_of (by omega)], thaw hheap⟩
          · intro j d hj
            have := hcs j _ (i2 j d (hfl j d hj))
            exact Rep.keep hkk this
        refine ⟨⟨_, [(id, .gone)]⟩, β, _, w, hk, .inl hrun, ?_⟩
        have hp := (h.kill hmm').put hd hrep
        unfold S.app
        revert hp
        cases o.dst <;> exact fun hp => hp
      · exact hk.elim
    · exact hk.elim
  · exact hk.elim

include hT h hd hm in
theorem good_len {t : TypeId} {x : Operand} (ho : o.op = .call { callee := .builtin .len, args := #[x], argTypes := #[t] }) (hk : opLen T m' t (σ.ev x) K) : Good P w0 A locs σ a w o K := by
  have hx := h.ev x
  have hrun : ∀ (v v' : Value), a.eval x = v → (Builtin.len_ #[t] o.type #[v]).run P w = .ok v' w → (execOp a.eval o).run P w = .ok (.value v') w := fun v v' hv hr => by
    simp only [execOp, ho, resolve, invoke, builtin, Sem.run_bind, Sem.run_pure, Result.andThen_ok, List.map_toArray, List.map_cons, List.map_nil, hv, hr]
  unfold opLen at hk
  split at hk
  · rename_i _ _ _ s ht e
    have hu := hT.str ht rfl
    exact h.val hd hk (hrun _ (.int .i64 s.size) (rep_str (h.imm e)) (by simp [Builtin.len_, run_underlying hu, goInt])) (.int _ _)
  · rename_i e _ _ _ rows ht e'
    have hu := hT.slice ht rfl
    obtain ⟨ad, n, c, hv, hn, _⟩ := rep_list (h.imm e')
    subst hn
    exact h.val hd hk (hrun _ (.int .i64 rows.length) hv (by simp [Builtin.len_, run_underlying hu, goInt])) (.int _ _)
  · rename_i e _ _ _ id off len ht e'
    have hu := hT.slice ht rfl
    rw [e'] at hx
    obtain ⟨hlive, hk⟩ := hk
    split at hlive
    · rename_i ty sz rows hmm
      have hmm' := hm _ _ hmm
      simp only [AvRep, AvRep0, hmm'] at hx
      obtain ⟨hle, hx⟩ := hx
      rcases hx with ⟨hβ, hv⟩ | ⟨lc, ad, hβ, hv, _⟩
      · have hob := h.ob id _ hmm'
        obtain ⟨_, _, hob⟩ := hob
        have hrn : rows = [] := by
          rcases hob with ⟨_, hrn⟩ | ⟨lc, cs, hβ', _⟩
          · exact hrn
          · rw [hβ] at hβ'; cases hβ'
        subst hrn
        have e0 : len = 0 := by simp at hle; omega
        subst e0
        exact h.val hd hk (hrun _ (.int .i64 0) hv (by simp [Builtin.len_, run_underlying hu, goInt])) (.int _ _)
      · exact h.val hd hk (hrun _ (.int .i64 len) hv (by simp [Builtin.len_, run_underlying hu, goInt])) (.int _ _)
    · rename_i sz rows hmm
      have hmm' := hm _ _ hmm
      simp only [AvRep, AvRep0, hmm'] at hx
      obtain ⟨hle, ad, c, hv, hc, _⟩ := hx
      exact h.val hd hk (hrun _ (.int .i64 len) hv (by simp [Builtin.len_, run_underlying hu, goInt])) (.int _ _)
    · exact hlive.elim
  · rename_i e _ _ _ id rows ht e'
    have hu := hT.slice ht rfl
    rw [e'] at hx
    obtain ⟨hlive, hk⟩ := hk
    split at hlive
    · rename_i c hmm
      have hmm' := hm _ _ hmm
      obtain ⟨w1, B1, hr1⟩ := (tv_rd hmm' hx).ex w
      obtain ⟨ad, n, c, hv, hn, _⟩ := rep_list hr1
      subst hn
      exact h.val hd hk (hrun _ (.int .i64 rows.length) hv (by simp [Builtin.len_, run_underlying hu, goInt])) (.int _ _)
    · exact hlive.elim
  · rename_i e _ _ _ ad n c ht e'
    have hu := hT.slice ht rfl
    have hv : a.eval x = .slice ad n c := by
      have h8 : Rep w _ (a.eval x) (.other (.slice ad n c)) := h.imm e'
      generalize hd0 : D.other (.slice ad n c) = d0 at h8
      generalize a.eval x = vv at h8 ⊢
      cases h8 <;> first | (injection hd0 with hd0; exact hd0.symm) | cases hd0
    exact h.val hd hk (hrun _ (.int .i64 n) hv (by simp [Builtin.len_, run_underlying hu, goInt])) (.int _ _)
  · rename_i _ n e _ _ _ ht
    have hu := hT.array ht rfl
    exact h.val hd hk (hrun (a.eval x) (.int .i64 n) rfl (by simp [Builtin.len_, run_underlying hu, goInt])) (.int _ _)
  · exact hk.elim

include h hd in
theorem good_max {t t' : TypeId} {x y : Operand} (ho : o.op = .call { callee := .builtin .max, args := #[x, y], argTypes := #[t, t'] }) (hk : opMinMax true (σ.ev x) (σ.ev y) K) : Good P w0 A locs σ a w o K := by
  unfold opMinMax at hk
  split at hk
  · rename_i k n k' n' e e'
    obtain ⟨rfl, hk⟩ := hk
    refine h.val hd hk (v := .int k (if n' > n then n' else n)) ?_ (.int _ _)
    simp [execOp, ho, resolve, invoke, builtin, rep_int (h.imm e), rep_int (h.imm e'), Builtin.max_, Builtin.max2]
  · exact hk.elim
include h hd in
theorem good_min {t t' : TypeId} {x y : Operand} (ho : o.op = .call { callee := .builtin .min, args := #[x, y], argTypes := #[t, t'] }) (hk : opMinMax false (σ.ev x) (σ.ev y) K) : Good P w0 A locs σ a w o K := by
  unfold opMinMax at hk
  split at hk
  · rename_i k n k' n' e e'
    obtain ⟨rfl, hk⟩ := hk
    refine h.val hd hk (v := .int k (if n' < n then n' else n)) ?_ (.int _ _)
    simp [execOp, ho, resolve, invoke, builtin, rep_int (h.imm e), rep_int (h.imm e'), Builtin.min_, Builtin.min2]
  · exact hk.elim

end
end Go.Am

/-! The abstract machine, part 7: operations that read, make or write memory. -/
namespace Go.Am
open Go

/-- A cell of a mixed value: plain data, or an array of this call's own. -/
def mixOk (m : Nat → Option O) : AV → Bool
  | .imm d => d.one
  | .own id _ _ => match m id with | some (.arr _ _ _) => true | _ => false
  | _ => false

/-- A value as the cells of a variable of this call's own. -/
def acells (m : Nat → Option O) : AV → Option (List AV)
  | .imm (.agg ds) => if ds.all D.one then some (ds.map .imm) else none
  | .imm d => if d.one then some [.imm d] else none
  | .own id off len => match m id with | some (.arr _ _ _) => some [.own id off len] | _ => none
  | .box id off => match m id with | some (.box _ _) => some [.box id off] | _ => none
  | .eptr id r off => match m id with | some (.arr _ _ _) => some [.eptr id r off] | _ => none
  | .clo f ids => some [.clo f ids]
  | .mix l => if l.all (mixOk m) then some l else none
  | .tv id (.agg ds) => match m id with | some (.reg _) => (if ds.all D.one then some (ds.map (tvAV id)) else none) | _ => none
  | .tv id d => match m id with | some (.reg _) => (if d.one then some [tvAV id d] else none) | _ => none
  | _ => none

/-- A value as plain data in a row; an array of this call's own is given up for it. -/
def dcells (m : Nat → Option O) : AV → Option (List D × List Nat)
  | .imm (.agg ds) => if ds.all D.one then some (ds, []) else none
  | .imm d => if d.one then some ([d], []) else none
  | .own id off len => match m id with | some (.arr _ _ rows) => some ([.list ((rows.drop off).take len)], [id]) | _ => none
  | _ => none

/-- Cells that are parts of one region's values. -/
def tvDs (id : Nat) : List AV → Option (List D)
  | [] => some []
  | .tv i d :: r => if i = id then (tvDs id r).map (d :: ·) else none
  | .imm (.int k n) :: r => (tvDs id r).map (.int k n :: ·)
  | .imm (.bool b) :: r => (tvDs id r).map (.bool b :: ·)
  | .imm (.str x) :: r => (tvDs id r).map (.str x :: ·)
  | _ :: _ => none

def tvId : List AV → Option Nat
  | .tv i _ :: _ => some i
  | _ => none

def tvAgg (l : List AV) : Option (Nat × List D) :=
  match tvId l with
  | some id => (tvDs id l).map fun ds => (id, ds)
  | none => none

def kills (ks : List Nat) : List (Nat × O) := ks.map fun i => (i, .gone)

def setAt {α : Type} (l : List α) (o : Nat) (vs : List α) : List α := l.take o ++ vs ++ l.drop (o + vs.length)

def opMove (T : TypeId → Option TI) (m : Nat → Option O) (ep : Nat) (o : Oper) (x : Operand) (av : AV) (K : Eff → Prop) : Prop :=
  match x with
  | .const (.slice none 0 0) =>
    match o.dst, T o.type with
    | some d, some ⟨.slice e, _, _, _⟩ =>
      match T e with
      | some te => 0 < te.size ∧ m (nid ep d) = none ∧ K ⟨.own (nid ep d) 0 0, [(nid ep d, .arr e te.size [])]⟩
      | none => False
    | _, _ => False
  | _ => K ⟨av, []⟩

def opAlloc (T : TypeId → Option TI) (m : Nat → Option O) (ep : Nat) (o : Oper) (t : TypeId) (K : Eff → Prop) : Prop :=
  match o.dst, T t with
  | some d, some ti => m (nid ep d) = none ∧ K ⟨.box (nid ep d) 0, [(nid ep d, .box t (ti.zero.map .imm))]⟩
  | _, _ => False

def opBox (m : Nat → Option O) (ep : Nat) (o : Oper) (t : TypeId) (x : AV) (K : Eff → Prop) : Prop :=
  match o.dst, acells m x with
  | some d, some cells => m (nid ep d) = none ∧ K ⟨.box (nid ep d) 0, [(nid ep d, .box t cells)]⟩
  | _, _ => False

def opLoad (T : TypeId → Option TI) (m : Nat → Option O) (t : TypeId) (x : AV) (K : Eff → Prop) : Prop :=
  match T t with
  | none => False
  | some ti =>
    match x with
    | .imm (.ptr ds) =>
      match ti.agg with
      | true => ti.size ≤ ds.length ∧ K ⟨.imm (.agg (ds.take ti.size)), []⟩
      | false => match ds with | d :: _ => K ⟨.imm d, []⟩ | [] => False
    | .box id off =>
      match m id with
      | some (.box _ cells) =>
        match ti.agg with
        | true => off + ti.size ≤ cells.length ∧ match imms ((cells.drop off).take ti.size) with | some ds => K ⟨.imm (.agg ds), []⟩ | none => (match tvAgg ((cells.drop off).take ti.size) with | some (id, ds) => K ⟨.tv id (.agg ds), []⟩ | none => K ⟨.mix ((cells.drop off).take ti.size), []⟩)
        | false => match cells[off]? with | some (.tup _) => False | some av => K ⟨av, []⟩ | none => False
      | _ => False
    | .eptr id row off =>
      match m id with
      | some (.arr _ _ rows) =>
        match rows[row]? with
        | some r =>
          match ti.agg with
          | true => off + ti.size ≤ r.length ∧ K ⟨.imm (.agg ((r.drop off).take ti.size)), []⟩
          | false => match r[off]? with | some d => K ⟨.imm d, []⟩ | none => False
        | none => False
      | some (.cel _ rows) =>
        match rows[row]? with
        | some r => ti.agg = false ∧ match r[off]? with | some d => K ⟨.imm d, []⟩ | none => False
        | none => False
      | _ => False
    | .tv id (.ptr ds) =>
      match m id with
      | some (.reg c) =>
        match ti.agg with
        | true => c = true ∧ ti.size ≤ ds.length ∧ K ⟨.tv id (.agg (ds.take ti.size)), []⟩
        | false => match ds with | d :: _ => (c || d.lst) = true ∧ K ⟨tvAV id d, []⟩ | [] => False
      | _ => False
    | _ => False

def opStore (T : TypeId → Option TI) (m : Nat → Option O) (t : TypeId) (x v : AV) (K : Eff → Prop) : Prop :=
  match T t with
  | none => False
  | some ti =>
    match x with
    | .box id off =>
      match m id, acells m v with
      | some (.box ty cells), some vs => vs.length = ti.size ∧ off + ti.size ≤ cells.length ∧ K ⟨.undef, [(id, .box ty (setAt cells off vs))]⟩
      | _, _ => False
    | .eptr id row off =>
      match m id, dcells m v with
      | some (.arr ty sz rows), some (vs, ks) =>
        match rows[row]? with
        | some r => vs.length = ti.size ∧ off + ti.size ≤ r.length ∧ id ∉ ks ∧ K ⟨.undef, kills ks ++ [(id, .arr ty sz (rows.set row (setAt r off vs)))]⟩
        | none => False
      | some (.cel sz rows), some ([d1], []) =>
        match rows[row]? with
        | some r => v = .imm d1 ∧ d1.one = true ∧ ti.size = 1 ∧ off < r.length ∧ K ⟨.undef, [(id, .cel sz (rows.set row (r.set off d1)))]⟩
        | none => False
      | _, _ => False
    | .tv id (.ptr (d0 :: _)) =>
      match m id, v with
      | some (.reg _), .imm d1 => ti.size = 1 ∧ likeD d0 d1 = true ∧ K ⟨.undef, [(id, .reg false)]⟩
      | _, _ => False
    | _ => False

def opMake (T : TypeId → Option TI) (m : Nat → Option O) (ep : Nat) (o : Oper) (t : TypeId) (len cap : AV) (K : Eff → Prop) : Prop :=
  match o.dst, T t, len, cap with
  | some d, some ⟨.slice e, _, _, _⟩, .imm (.int _ n), .imm (.int _ c) =>
    match T e with
    | some te => 0 ≤ n ∧ n ≤ c ∧ (te.bytes : Int) * c ≤ 281474976710656 ∧ c ≤ 4611686018427387904 ∧ 0 < te.size ∧ te.zero.length = te.size ∧ m (nid ep d) = none ∧
        K ⟨.own (nid ep d) 0 n.toNat, [(nid ep d, .arr e te.size (List.replicate n.toNat te.zero))]⟩
    | none => False
  | _, _, _, _ => False

section
variable {w : World} {B : Nat → Prop} {β : Nat → Option Loc} {m : Nat → Option O}

theorem cells_one {v : Value} (h : v.oneCell' = true) : v.cells = #[v] := by cases v <;> first | rfl | (simp [Value.oneCell'] at h)

/-- What the cells of a value are. -/
structure CellsAre (w : World) (B : Nat → Prop) (β : Nat → Option Loc) (m : Nat → Option O) (v : Value) (cells : List AV) : Prop where
  size : v.cells.size = cells.length
  one : ∀ u ∈ v.cells.toList, u.oneCell' = true
  rep : ∀ (j : Nat) (c : AV), cells[j]? = some c → AvRep0 w B β m c (v.cells.getD j Go.undef)

theorem CellsAre.mk1 {v : Value} {c : AV} (h1 : v.oneCell' = true) (hc : AvRep0 w B β m c v) : CellsAre w B β m v [c] := by
  have e := cells_one h1
  refine ⟨by rw [e]; rfl, fun u hu => ?_, fun j c' hj => ?_⟩
  · rw [e] at hu; simp at hu; subst hu; exact h1
  · rw [e]
    cases j with
    | zero => simp at hj; subst hj; exact hc
    | succ j => simp at hj

theorem CellsAre.agg {ds : List D} (hall : ds.all D.one = true) {v : Value} (hv : Rep w B v (.agg ds)) : CellsAre w B β m v (ds.map .imm) := by
  obtain ⟨vs, rfl, hs, hj⟩ := rep_agg hv
  refine ⟨by simpa [Value.cells] using hs, fun u hu => ?_, fun j c hcj => ?_⟩
  · obtain ⟨j, hj1, hj2⟩ := List.getElem_of_mem hu
    simp only [Value.cells, Array.length_toList] at hj1
    have hlt : j < ds.length := by omega
    have hr := hj j ds[j] (List.getElem?_eq_getElem hlt)
    have e1 : vs.getD j Go.undef = u := by simp only [Value.cells, Array.getElem_toList] at hj2; simp [Array.getD, hj1, hj2]
    rw [e1] at hr
    exact Rep.one hr (by simpa using (List.all_eq_true.1 hall) ds[j] (List.getElem_mem hlt))
  · simp only [List.getElem?_map, Option.map_eq_some_iff] at hcj
    obtain ⟨d, hd, rfl⟩ := hcj
    exact hj j d hd

omit w B β m in
theorem mixOk_sub {m₁ m₂ : Nat → Option O} (hsub : ∀ id ob, m₁ id = some ob → m₂ id = some ob) {av : AV} (h : mixOk m₁ av = true) : mixOk m₂ av = true := by
  unfold mixOk at h ⊢
  split
  · exact h
  · simp only at h
    split at h
    · rename_i hmm; rw [hsub _ _ hmm]
    · cases h
  · rename_i h1 h2
    cases av with
    | imm d => exact absurd rfl (h1 d)
    | own id off len => exact absurd rfl (h2 id off len)
    | _ => cases h
omit w B β m in
theorem acells_sub {m₁ m₂ : Nat → Option O} (hsub : ∀ id ob, m₁ id = some ob → m₂ id = some ob) {av : AV} {cells : List AV} (hc : acells m₁ av = some cells) : acells m₂ av = some cells := by
  unfold acells at hc ⊢
  split at hc
  all_goals try first
    | exact hc
    | (split at hc
       · rename_i hmm; rw [hsub _ _ hmm]; exact hc
       · cases hc)
  · split at hc
    · rename_i hall
      have : (List.all _ (mixOk m₂)) = true := List.all_eq_true.2 fun x hx => mixOk_sub hsub (List.all_eq_true.1 hall x hx)
      rw [if_pos this]; exact hc
    · cases hc
theorem acells_rep {av : AV} {cells : List AV} (hc : acells m av = some cells) {v : Value} (hv : AvRep w B β m av v) : CellsAre w B β m v cells := by
  unfold acells at hc
  split at hc
  · rename_i ds
    split at hc
    · rename_i hall
      injection hc with hc
      subst hc
      exact .agg hall hv
    · cases hc
  · rename_i d hnd
    split at hc
    · rename_i h1
      injection hc with hc
      subst hc
      exact .mk1 (Rep.one (show Rep w B v d from hv) h1) hv
    · cases hc
  · rename_i id off len
    split at hc
    · rename_i ty sz rows hm
      injection hc with hc
      subst hc
      refine .mk1 ?_ hv
      have hv' : AvRep0 w B β m (.own id off len) v := hv
      simp only [AvRep0, hm] at hv'
      rcases hv'.2 with ⟨_, rfl⟩ | ⟨l, ad, _, rfl, _⟩ <;> rfl
    · cases hc
  · rename_i id off
    split at hc
    · rename_i ty cells' hm
      injection hc with hc
      subst hc
      refine .mk1 ?_ hv
      have hv' : AvRep0 w B β m (.box id off) v := hv
      simp only [AvRep0, BoxAt, hm] at hv'
      obtain ⟨l, _, rfl⟩ := hv'
      rfl
    · cases hc
  · rename_i id r off
    split at hc
    · rename_i ty sz rows hm
      injection hc with hc
      subst hc
      refine .mk1 ?_ hv
      have hv' : AvRep0 w B β m (.eptr id r off) v := hv
      simp only [AvRep0, hm] at hv'
      obtain ⟨_, l, _, rfl⟩ := hv'
      rfl
    · cases hc
  · rename_i f ids
    injection hc with hc
    subst hc
    refine .mk1 ?_ hv
    have hv' : AvRep0 w B β m (.clo f ids) v := hv
    obtain ⟨vs, rfl, _⟩ := hv'
    rfl
  · rename_i l
    split at hc
    · rename_i hall
      injection hc with hc
      subst hc
      obtain ⟨vs, rfl, hs, hj⟩ := hv
      refine ⟨by simpa [Value.cells] using hs, fun u hu => ?_, fun j c hcj => hj j c hcj⟩
      obtain ⟨j, hj1, hj2⟩ := List.getElem_of_mem hu
      simp only [Value.cells, Array.length_toList] at hj1
      have hlt : j < l.length := by omega
      have hr := hj j l[j] (List.getElem?_eq_getElem hlt)
      have e1 : vs.getD j Go.undef = u := by simp only [Value.cells, Array.getElem_toList] at hj2; simp [Array.getD, hj1, hj2]
      rw [e1] at hr
      have hok := (List.all_eq_true.1 hall) l[j] (List.getElem_mem hlt)
      generalize l[j] = c at hr hok
      unfold mixOk at hok
      split at hok
      · exact Rep.one (show Rep w B u _ from hr) hok
      · split at hok
        · rename_i hmm
          simp only [AvRep0, hmm] at hr
          rcases hr.2 with ⟨_, rfl⟩ | ⟨l, ad, _, rfl, _⟩ <;> rfl
        · cases hok
      · cases hok
    · cases hc
  · rename_i id ds
    split at hc
    · rename_i c hm
      split at hc
      · rename_i hall
        injection hc with hc
        subst hc
        have hrd := tv_rd hm hv
        obtain ⟨w1, B1, hr1⟩ := hrd.ex w
        obtain ⟨vs, rfl, hs, hj⟩ := rep_agg hr1
        refine ⟨by simpa [Value.cells] using hs, fun u hu => ?_, fun j c hcj => ?_⟩
        · obtain ⟨j, hj1, hj2⟩ := List.getElem_of_mem hu
          simp only [Value.cells, Array.length_toList] at hj1
          have hlt : j < ds.length := by omega
          have hr := hj j ds[j] (List.getElem?_eq_getElem hlt)
          have e1 : vs.getD j Go.undef = u := by simp only [Value.cells, Array.getElem_toList] at hj2; simp [Array.getD, hj1, hj2]
          rw [e1] at hr
          exact Rep.one hr (by simpa using (List.all_eq_true.1 hall) ds[j] (List.getElem_mem hlt))
        · simp only [List.getElem?_map, Option.map_eq_some_iff] at hcj
          obtain ⟨d, hd, rfl⟩ := hcj
          have := tvAV_of (w := w) (B := B) hm (v := vs.getD j Go.undef) (hrd.map fun w2 B2 hr2 => by
            obtain ⟨vs', e', hs', hj'⟩ := rep_agg hr2
            injection e' with e'
            subst e'
            exact hj' j d hd)
          cases hd' : tvAV id d with
          | tup l => unfold tvAV at hd'; split at hd' <;> cases hd'
          | mix l => unfold tvAV at hd'; split at hd' <;> cases hd'
          | _ => rw [hd'] at this; exact this
      · cases hc
    · cases hc
  · rename_i id d _
    split at hc
    · rename_i c hm
      split at hc
      · rename_i h1
        injection hc with hc
        subst hc
        have hrd := tv_rd hm hv
        obtain ⟨w1, B1, hr1⟩ := hrd.ex w
        have := tvAV_of (w := w) (B := B) hm hrd
        refine .mk1 (Rep.one hr1 h1) ?_
        cases hd' : tvAV id d with
        | tup l => unfold tvAV at hd'; split at hd' <;> cases hd'
        | mix l => unfold tvAV at hd'; split at hd' <;> cases hd'
        | _ => rw [hd'] at this; exact this
      · cases hc
    · cases hc
  · cases hc

theorem RegRd.agg {ol : Option Loc} {vs : Array Value} {ds : List D} (hs : vs.size = ds.length) (h0 : 0 < ds.length) (h : ∀ (j : Nat) (d : D), ds[j]? = some d → RegRd ol (vs.getD j Go.undef) d) : RegRd ol (.agg vs) (.agg ds) := by
  cases ol with
  | none => exact fun w B => .agg _ _ hs fun j d hj => h j d hj w B
  | some l =>
    obtain ⟨r, hr, _⟩ := h 0 _ (List.getElem?_eq_getElem h0)
    refine ⟨r, hr, .agg _ _ hs fun j d hj => ?_⟩
    obtain ⟨r', hr', h1⟩ := h j d hj
    rw [hr] at hr'; injection hr' with hr'; subst hr'
    exact h1

def sc : D → Bool
  | .int _ _ => true
  | .bool _ => true
  | .str _ => true
  | _ => false
theorem Rep.sc {w w' : World} {B B' : Nat → Prop} {v : Value} {d : D} (hr : Rep w B v d) (h : sc d = true) : Rep w' B' v d := by
  cases hr <;> first | exact .int _ _ | exact .bool _ | exact .str _ | cases h
theorem tvDs_at {id : Nat} : ∀ {l : List AV} {ds : List D}, tvDs id l = some ds → l.length = ds.length ∧ ∀ (j : Nat) (d : D), ds[j]? = some d → l[j]? = some (.tv id d) ∨ (l[j]? = some (.imm d) ∧ sc d = true)
  | [], ds, h => by simp [tvDs] at h; subst h; exact ⟨rfl, fun j d hj => by simp at hj⟩
  | .tv i d0 :: r, ds, h => by
    simp only [tvDs] at h
    split at h
    · rename_i e
      subst e
      simp only [Option.map_eq_some_iff] at h
      obtain ⟨ds', h1, rfl⟩ := h
      obtain ⟨h2, h3⟩ := tvDs_at h1
      refine ⟨by simp [h2], fun j d hj => ?_⟩
      cases j with
      | zero => simp at hj; subst hj; exact .inl rfl
      | succ j => simpa using h3 j d (by simpa using hj)
    · cases h
  | .imm (.int k n) :: r, ds, h => by
    simp only [tvDs, Option.map_eq_some_iff] at h
    obtain ⟨ds', h1, rfl⟩ := h
    obtain ⟨h2, h3⟩ := tvDs_at h1
    refine ⟨by simp [h2], fun j d hj => ?_⟩
    cases j with
    | zero => simp at hj; subst hj; exact .inr ⟨rfl, rfl⟩
    | succ j => simpa using h3 j d (by simpa using hj)
  | .imm (.bool b) :: r, ds, h => by
    simp only [tvDs, Option.map_eq_some_iff] at h
    obtain ⟨ds', h1, rfl⟩ := h
    obtain ⟨h2, h3⟩ := tvDs_at h1
    refine ⟨by simp [h2], fun j d hj => ?_⟩
    cases j with
    | zero => simp at hj; subst hj; exact .inr ⟨rfl, rfl⟩
    | succ j => simpa using h3 j d (by simpa using hj)
  | .imm (.str x) :: r, ds, h => by
    simp only [tvDs, Option.map_eq_some_iff] at h
    obtain ⟨ds', h1, rfl⟩ := h
    obtain ⟨h2, h3⟩ := tvDs_at h1
    refine ⟨by simp [h2], fun j d hj => ?_⟩
    cases j with
    | zero => simp at hj; subst hj; exact .inr ⟨rfl, rfl⟩
    | succ j => simpa using h3 j d (by simpa using hj)
  | .imm (.agg _) :: _, _, h => by simp [tvDs] at h
  | .imm (.list _) :: _, _, h => by simp [tvDs] at h
  | .imm (.ptr _) :: _, _, h => by simp [tvDs] at h
  | .imm (.fn _ _) :: _, _, h => by simp [tvDs] at h
  | .imm (.other _) :: _, _, h => by simp [tvDs] at h
  | .dead :: _, _, h => by simp [tvDs] at h
  | .undef :: _, _, h => by simp [tvDs] at h
  | .own _ _ _ :: _, _, h => by simp [tvDs] at h
  | .box _ _ :: _, _, h => by simp [tvDs] at h
  | .eptr _ _ _ :: _, _, h => by simp [tvDs] at h
  | .clo _ _ :: _, _, h => by simp [tvDs] at h
  | .tup _ :: _, _, h => by simp [tvDs] at h
  | .mix _ :: _, _, h => by simp [tvDs] at h
theorem tvId_at {id : Nat} {l : List AV} (h : tvId l = some id) : ∃ d, l[0]? = some (.tv id d) := by
  cases l with
  | nil => cases h
  | cons x r =>
    cases x <;> first | (injection h with h; subst h; exact ⟨_, rfl⟩) | cases h
theorem RegRd.scal {ol : Option Loc} {v v0 : Value} {d d0 : D} {w : World} {B : Nat → Prop} (h0 : RegRd ol v0 d0) (h : Rep w B v d) (hg : sc d = true) : RegRd ol v d := by
  cases ol with
  | none => exact fun w B => h.sc hg
  | some l => obtain ⟨r, e, _⟩ := h0; exact ⟨r, e, h.sc hg⟩

end

section
variable {P : Program} {T : TypeId → Option TI} (hT : TOk P T) {w0 w : World} {A : Nat → Prop} {locs : List (Option Loc)} {β : Nat → Option Loc} {σ : S} {a : Act}
variable (h : Sim w0 A locs β σ a w) {o : Oper} (hd : ∀ d, o.dst = some d → d < σ.n) {K : Eff → Prop} {m' : Nat → Option O} (hm : ∀ id ob, m' id = some ob → σ.m id = some ob)
variable (hn : ∀ d, o.dst = some d → m' (nid σ.ep d) = none → σ.m (nid σ.ep d) = none)

theorem Sim.app {e : Eff} {v : Value} {w' : World} {β' : Nat → Option Loc} (hd : ∀ d, o.dst = some d → d < σ.n) (hs : Sim w0 A locs β' { σ with m := upm σ.m e.up } a w')
    (hv : AvRep w' (Bl A β' (upm σ.m e.up)) β' (upm σ.m e.up) e.v v) : Sim w0 A locs β' (σ.app o.dst e) (a.put o.dst v) w' := by
  have := hs.put (dst := o.dst) (v := v) (av := e.v) hd hv
  cases hdst : o.dst with
  | none => rw [hdst] at this; exact this
  | some d => rw [hdst] at this; exact this

include h hd hn in
theorem good_move {x : Operand} (ho : o.op = .move x ∨ o.op = .assign x) (hk : opMove T m' σ.ep o x (σ.ev x) K) : Good P w0 A locs σ a w o K := by
  have hrun : (execOp a.eval o).run P w = .ok (.value (a.eval x)) w := by
    rcases ho with ho | ho <;> simp [execOp, ho]
  unfold opMove at hk
  split at hk
  · split at hk
    · rename_i d e _ _ _ hdst ht
      split at hk
      · rename_i te hte
        obtain ⟨h1, h2, hK⟩ := hk
        have hs := h.newNil (id := nid σ.ep d) e te.size (hn d hdst h2) h1
        refine ⟨_, _, _, w, hK, .inl hrun, Sim.app hd hs ?_⟩
        simp only [upm, AvRep, AvRep0, upd_same, Act.eval]
        exact ⟨by simp, .inl ⟨trivial, trivial⟩⟩
      · exact hk.elim
    · exact hk.elim
  · exact h.val hd hk hrun (h.ev x)

include hT h hd hn in
theorem good_alloc {t : TypeId} (ho : o.op = .alloc t) (hk : opAlloc T m' σ.ep o t K) : Good P w0 A locs σ a w o K := by
  unfold opAlloc at hk
  split at hk
  · rename_i d ti hdst ht
    obtain ⟨h1, hK⟩ := hk
    obtain ⟨i, z, hi, hsz, hby, hz, hzall⟩ := hT.info ht
    have hs := h.new_ (id := nid σ.ep d) (o := .box t (ti.zero.map .imm)) (cs := z.cells) (ty := t) (l := ⟨w.heap.size, 0, 0, none⟩) (hn d hdst h1) rfl rfl
      (fun w' B' β' m'' k g h2 h3 h4 => ⟨_, _, h2, h4, by have := (zall_rep w' B' _ _ hzall).1; simpa using this, fun j av hj => by
        simp only [List.getElem?_map, Option.map_eq_some_iff] at hj
        obtain ⟨dd, hdd, rfl⟩ := hj
        obtain ⟨v, hv, hr⟩ := (zall_rep w' B' _ _ hzall).2 j dd hdd
        have e : z.cells.getD j Go.undef = v := by
          have : z.cells[j]? = some v := by simpa using hv
          simp [Array.getD_eq_getD_getElem?, this]
        rw [e]; exact hr⟩)
    refine ⟨_, _, .pointer (some ⟨w.heap.size, 0, none⟩), _, hK, .inl ?_, Sim.app hd hs ?_⟩
    · simp [execOp, ho, Instr.alloc, zeroValue, typeInfo, hi, hz, newVar, newRow]
    · simp only [upm, AvRep, AvRep0, BoxAt, upd_same]
      exact ⟨_, rfl, rfl⟩
  · exact hk.elim

include h hd hm hn in
theorem good_box {t : TypeId} {x : Operand} (ho : o.op = .box t x) (hk : opBox m' σ.ep o t (σ.ev x) K) : Good P w0 A locs σ a w o K := by
  unfold opBox at hk
  split at hk
  · rename_i d cells hdst hc
    obtain ⟨h1, hK⟩ := hk
    have hc' : acells σ.m (σ.ev x) = some cells := acells_sub hm hc
    have hca := acells_rep hc' (h.ev x)
    have hs := h.new_ (id := nid σ.ep d) (o := .box t cells) (cs := (a.eval x).cells) (ty := t) (l := ⟨w.heap.size, 0, 0, none⟩) (hn d hdst h1) rfl rfl
      (fun w' B' β' m'' k g h2 h3 h4 => ⟨_, _, h2, h4, hca.size, fun j av hj => (hca.rep j av hj).keep k g⟩)
    refine ⟨_, _, .pointer (some ⟨w.heap.size, 0, none⟩), _, hK, .inl ?_, Sim.app hd hs ?_⟩
    · simp [execOp, ho, Instr.box, newVar, newRow]
    · simp only [upm, AvRep, AvRep0, BoxAt, upd_same]
      exact ⟨_, rfl, rfl⟩
  · exact hk.elim

theorem imms_at : ∀ {l : List AV} {ds : List D}, imms l = some ds → l.length = ds.length ∧ ∀ (j : Nat) (d : D), ds[j]? = some d → l[j]? = some (.imm d)
  | [], ds, hi => by simp [imms] at hi; subst hi; exact ⟨rfl, fun j d hj => by simp at hj⟩
  | .imm d :: r, ds, hi => by
    simp only [imms, Option.map_eq_some_iff] at hi
    obtain ⟨ds', h1, rfl⟩ := hi
    obtain ⟨h2, h3⟩ := imms_at h1
    refine ⟨by simp [h2], fun j d' hj => ?_⟩
    cases j with
    | zero => simp at hj; subst hj; rfl
    | succ j => simpa using h3 j d' (by simpa using hj)
  | .dead :: _, _, hi => by simp [imms] at hi
  | .undef :: _, _, hi => by simp [imms] at hi
  | .own _ _ _ :: _, _, hi => by simp [imms] at hi
  | .box _ _ :: _, _, hi => by simp [imms] at hi
  | .eptr _ _ _ :: _, _, hi => by simp [imms] at hi
  | .clo _ _ :: _, _, hi => by simp [imms] at hi
  | .tup _ :: _, _, hi => by simp [imms] at hi
  | .mix _ :: _, _, hi => by simp [imms] at hi

theorem cell_lt {w : World} {b o : Nat} {cs : Array Value} {ty : TypeId} {fz : Nat × Nat} (h : w.heap[b]? = some (.cells cs ty fz)) {v : Value} (hc : w.cell? ⟨b, o, none⟩ = some v) : o < cs.size := by
  rw [cell_at h] at hc
  exact (Array.getElem?_eq_some_iff.1 hc).1

theorem cells_of_cell {w : World} {b o : Nat} {v : Value} (hc : w.cell? ⟨b, o, none⟩ = some v) : ∃ cs ty fz, w.heap[b]? = some (.cells cs ty fz) := by
  unfold World.cell? at hc
  split at hc <;> first
    | exact ⟨_, _, _, by assumption⟩
    | cases hc

/-- An address in a region. -/
theorem tv_ptr {w0 w : World} {A : Nat → Prop} {locs : List (Option Loc)} {β : Nat → Option Loc} {σ : S} {a : Act} (h : Sim w0 A locs β σ a w) {id : Nat} {c : Bool} {ds : List D} {v : Value} (hmm : σ.m id = some (.reg c)) (hr : RegRd (β id) v (.ptr ds)) :
    ∃ (l : Loc) (r : (Nat → Prop) × World) (ad : Addr) (g : Nat → Value), β id = some l ∧ l.rg = some r ∧ v = .pointer (some ad) ∧ r.1 ad.block ∧ ad.spot = none ∧
      (∀ (j : Nat) (d : D), ds[j]? = some d → r.2.cell? (ad.add j) = some (g j) ∧ r.2.frozen? (ad.add j) = false) ∧ (∀ (j : Nat) (d : D), ds[j]? = some d → Rep r.2 (fun b => ¬ r.1 b) (g j) d) ∧
      r.2.heap.size ≤ w.heap.size ∧ ∀ b, r.1 b → LikeO c r.2.heap[b]? w.heap[b]? := by
  cases hβ : β id with
  | none =>
    rw [hβ] at hr
    obtain ⟨_, _, _, _, hB, _⟩ := rep_ptr (hr w fun _ => True)
    exact absurd trivial hB
  | some l =>
    rw [hβ] at hr
    obtain ⟨r, hrg, hrep⟩ := hr
    obtain ⟨ad, g, hv, hb, hB, hs, hc, hr⟩ := rep_ptr hrep
    rcases h.ob id _ hmm with hn | ⟨l', r', h1, h2, h3, h4⟩
    · rw [hβ] at hn; cases hn
    · rw [hβ] at h1; injection h1 with h1; subst h1
      rw [hrg] at h2; injection h2 with h2; subst h2
      exact ⟨l, r, ad, g, rfl, hrg, hv, Classical.byContradiction hB, hs, hc, hr, h3, h4⟩

theorem LikeO.mono {c : Bool} {o o' : Option Obj} (h : LikeO c o o') : LikeO false o o' := by
  rcases h with h | ⟨_, h⟩
  · exact .inl h
  · exact .inr ⟨rfl, h⟩

/-- One cell is written. -/
theorem run_store1 {P : Program} {w : World} {T : TypeId → Option TI} (hT : TOk P T) {t : TypeId} {ti : TI} (ht : T t = some ti) (hsz : ti.size = 1) (b o : Nat) (v : Value) {ty : TypeId} {fz : Nat × Nat} {cs : Array Value}
    (h : w.heap[b]? = some (.cells cs ty fz)) (ho : o < cs.size) (hz : w.frozen? ⟨b, o, none⟩ = false) (h1 : v.oneCell' = true) :
    ∃ w', (Instr.storeAt t (.pointer (some ⟨b, o, none⟩)) v).run P w = .ok () w' ∧ w'.heap[b]? = some (.cells (cs.setIfInBounds o v) ty fz) ∧
      (∀ b', b' ≠ b → w'.heap[b']? = w.heap[b']?) ∧ w'.heap.size = w.heap.size ∧ w'.os = w.os ∧ w'.tape = w.tape ∧ w'.output = w.output ∧ w'.drawn = w.drawn := by
  have e0 : (Instr.sureAddr (.pointer (some (⟨b, o, none⟩ : Addr)))).run P w = .ok ⟨b, o, none⟩ w := rfl
  have e1 : (store ((⟨b, o, none⟩ : Addr).add 0) v).run P w = .ok () (w.setRow b (cs.setIfInBounds o v)) := by
    rw [Addr.add_zero', run_store P w _ v _ h1, run_load_at h ho]
    simp [hz, setCell_eq_setRow w b o cs ty fz v h]
  refine ⟨w.setRow b (cs.setIfInBounds o v), ?_, setRow_heap w b cs _ ty _ h, fun b' hb => setRow_other w b b' _ hb, by simp [World.setRow], rfl, rfl, rfl, rfl⟩
  simp only [Instr.storeAt, Sem.run_bind, e0, Result.andThen_ok, storeVar, hT.sizeOf ht]
  rw [if_neg (by rw [cells_one h1, hsz]; simp), cells_one h1]
  show (storeCells ⟨b, o, none⟩ [v]).run P w = _
  simp only [storeCells, Sem.run_bind, e1, Result.andThen_ok, Sem.run_pure]

theorem range_getD (n : Nat) (g : Nat → Value) (j : Nat) (hj : j < n) : ((List.range n).map g).toArray.getD j Go.undef = g j := by
  simp [Array.getD, hj]

include hT h hd hm in
theorem good_load {t : TypeId} {x : Operand} (ho : o.op = .load t x) (hk : opLoad T m' t (σ.ev x) K) : Good P w0 A locs σ a w o K := by
  unfold opLoad at hk
  split at hk
  · exact hk.elim
  · rename_i ti ht
    have hx := h.ev x
    have hrun : ∀ (ad : Addr) (g : Nat → Value), a.eval x = .pointer (some ad) → (∀ j, j < (if ti.agg then ti.size else 1) → w.cell? (ad.add j) = some (g j)) →
        (execOp a.eval o).run P w = .ok (.value (if ti.agg then .agg ((List.range ti.size).map g).toArray else g 0)) w := fun ad g hv hc => by
      have := run_loadAt hT ht ad g hc
      simp only [execOp, ho, hv, Sem.run_bind, this, Result.andThen_ok, Sem.run_pure]
    split at hk
    · rename_i ds e
      rw [e] at hx
      obtain ⟨ad, g, hv, hb, hB, hs, hc, hr⟩ := rep_ptr hx
      split at hk
      · rename_i hag
        have := hrun ad g hv (fun j hj => by
          simp only [hag, if_true] at hj
          have hlt : j < ds.length := by omega
          exact (hc j _ (List.getElem?_eq_getElem hlt)).1)
        simp only [hag, if_true] at this
        refine h.val hd hk.2 this (Rep.agg _ _ (by simp; omega) fun j d hj => ?_)
        rw [List.getElem?_take] at hj
        split at hj
        · rename_i hjs; rw [range_getD _ _ _ hjs]; exact hr j d hj
        · cases hj
      · rename_i hag
        split at hk
        · rename_i d ds'
          have := hrun ad g hv (fun j hj => by
            simp only [hag, Bool.false_eq_true, if_false] at hj
            have hj0 : j = 0 := by omega
            subst hj0
            exact (hc 0 d rfl).1)
          simp only [hag, Bool.false_eq_true, if_false] at this
          exact h.val hd hk this (hr 0 d rfl)
        · exact hk.elim
    · rename_i id off e
      rw [e] at hx
      split at hk
      · rename_i ty cells hmm
        have hmm' := hm _ _ hmm
        simp only [AvRep, AvRep0, BoxAt, hmm'] at hx
        obtain ⟨l, hl, hv⟩ := hx
        obtain ⟨l', cs, hl', hheap, hsz, hcs⟩ := h.ob id _ hmm'
        rw [hl] at hl'; injection hl' with hl'; subst hl'
        have hcell : ∀ j, off + j < cs.size → w.cell? ((⟨l.b, off, none⟩ : Addr).add j) = some (cs.getD (off + j) Go.undef) := fun j hj => by
          rw [add_spot rfl]; exact run_load_at hheap hj
        split at hk
        · rename_i hag
          obtain ⟨hle, hk⟩ := hk
          split at hk
          · rename_i ds hds
            obtain ⟨h1, h2⟩ := imms_at hds
            have := hrun _ (fun j => cs.getD (off + j) Go.undef) hv (fun j hj => hcell j (by simp only [hag, if_true] at hj; omega))
            simp only [hag, if_true] at this
            refine h.val hd hk this (Rep.agg _ _ (by rw [← h1]; simp; omega) fun j d hj => ?_)
            have h3 := h2 j d hj
            rw [List.getElem?_take] at h3
            split at h3
            · rename_i hjs
              rw [List.getElem?_drop] at h3
              rw [range_getD _ _ _ hjs]
              exact hcs _ _ h3
            · cases h3
          · split at hk
            · rename_i id2 ds hds
              unfold tvAgg at hds
              split at hds
              · rename_i id3 hid3
                simp only [Option.map_eq_some_iff, Prod.mk.injEq] at hds
                obtain ⟨ds', hds', rfl, rfl⟩ := hds
                obtain ⟨h1, h2⟩ := tvDs_at hds'
                have := hrun _ (fun j => cs.getD (off + j) Go.undef) hv (fun j hj => hcell j (by simp only [hag, if_true] at hj; omega))
                simp only [hag, if_true] at this
                have hlen : ds'.length = ti.size := by rw [← h1]; simp; omega
                have hpos : 0 < ds'.length := by
                  rw [← h1]
                  cases hl : (cells.drop off).take ti.size with
                  | nil => rw [hl] at hid3; cases hid3
                  | cons x r => simp
                have hat : ∀ (j : Nat) (d : D), ds'[j]? = some d → j < ti.size ∧ (AvRep0 w (Bl A β σ.m) β σ.m (.tv id3 d) (cs.getD (off + j) Go.undef) ∨ (Rep w (Bl A β σ.m) (cs.getD (off + j) Go.undef) d ∧ sc d = true)) := fun j d hj => by
                  have h3 := h2 j d hj
                  rw [List.getElem?_take] at h3
                  split at h3
                  · rename_i hjs
                    rw [List.getElem?_drop] at h3
                    rcases h3 with h3 | ⟨h3, hg⟩
                    · exact ⟨hjs, .inl (hcs _ _ h3)⟩
                    · exact ⟨hjs, .inr ⟨hcs _ _ h3, hg⟩⟩
                  · rcases h3 with h3 | ⟨h3, _⟩ <;> cases h3
                have h00 : ∃ d, AvRep0 w (Bl A β σ.m) β σ.m (.tv id3 d) (cs.getD (off + 0) Go.undef) := by
                  obtain ⟨d, h4⟩ := tvId_at hid3
                  rw [List.getElem?_take, if_pos (by omega), List.getElem?_drop] at h4
                  exact ⟨d, hcs _ _ h4⟩
                obtain ⟨_, h00⟩ := h00
                refine h.val hd hk this ?_
                cases hmm3 : σ.m id3 with
                | none => simp only [AvRep0, hmm3] at h00
                | some o3 =>
                  cases o3 with
                  | box _ _ => simp only [AvRep0, hmm3] at h00
                  | arr _ _ _ => simp only [AvRep0, hmm3] at h00
                  | cel _ _ => simp only [AvRep0, hmm3] at h00
                  | ext _ => simp only [AvRep0, hmm3] at h00
                  | gone => simp only [AvRep, AvRep0, hmm3]
                  | reg c =>
                    refine tv_mk hmm3 (RegRd.agg (by simp [hlen]) hpos fun j d hj => ?_)
                    obtain ⟨hjs, h4⟩ := hat j d hj
                    rw [range_getD _ _ _ hjs]
                    simp only [AvRep0, hmm3] at h00
                    rcases h4 with h4 | ⟨h4, hg⟩
                    · simpa only [AvRep0, hmm3] using h4
                    · exact h00.scal h4 hg
              · cases hds
            · have := hrun _ (fun j => cs.getD (off + j) Go.undef) hv (fun j hj => hcell j (by simp only [hag, if_true] at hj; omega))
              simp only [hag, if_true] at this
              refine h.val hd hk this ⟨_, rfl, by simp; omega, fun j c hj => ?_⟩
              rw [List.getElem?_take] at hj
              split at hj
              · rename_i hjs
                rw [List.getElem?_drop] at hj
                rw [range_getD _ _ _ hjs]
                exact hcs _ _ hj
              · cases hj
        · rename_i hag
          split at hk
          · exact hk.elim
          · rename_i av _ hav
            have hlt : off < cs.size := by rw [hsz]; exact (List.getElem?_eq_some_iff.1 hav).1
            have := hrun _ (fun j => cs.getD (off + j) Go.undef) hv (fun j hj => hcell j (by simp only [hag, Bool.false_eq_true, if_false] at hj; omega))
            simp only [hag, Bool.false_eq_true, if_false, Nat.add_zero] at this
            have h3 := hcs off av hav
            refine h.val hd hk this ?_
            cases av with
            | tup l => exact h3.elim
            | mix l => exact h3.elim
            | _ => exact h3
          · exact hk.elim
      · exact hk.elim
    · rename_i id row off e
      rw [e] at hx
      split at hk
      · rename_i ty sz rows hmm
        have hmm' := hm _ _ hmm
        simp only [AvRep, AvRep0, hmm'] at hx
        obtain ⟨hlt, l, hl, hv⟩ := hx
        obtain ⟨hrows, hpos, hob⟩ := h.ob id _ hmm'
        rcases hob with ⟨hβ', _⟩ | ⟨l', cs, hl', hheap, hsz, hrt, _, hcs⟩
        · rw [hl] at hβ'; cases hβ'
        · rw [hl] at hl'; injection hl' with hl'; subst hl'
          split at hk
          · rename_i r hr
            have hrs : r.length = sz := hrows r (List.mem_of_getElem? hr)
            have hfl : ∀ (j : Nat) (d : D), r[j]? = some d → Rep w (Bl A β σ.m) (cs.getD (l.base + row * sz + j) Go.undef) d := fun j d hj => by
              have := hcs _ d (flat_at rows hrows row r hr j d hj)
              rwa [← Nat.add_assoc] at this
            have hsz' : l.base + row * sz + sz ≤ cs.size := by
              have : (row + 1) * sz ≤ l.tot * sz := Nat.mul_le_mul_right _ (by omega)
              rw [Nat.succ_mul] at this
              omega
            have hcell : ∀ j, off + j < sz → w.cell? ((⟨l.b, l.base + row * sz + off, none⟩ : Addr).add j) = some (cs.getD (l.base + row * sz + (off + j)) Go.undef) := fun j hj => by
              rw [add_spot rfl, ← Nat.add_assoc]; exact run_load_at hheap (by show l.base + row * sz + off + j < _; omega)
            split at hk
            · rename_i hag
              have := hrun _ (fun j => cs.getD (l.base + row * sz + (off + j)) Go.undef) hv (fun j hj => hcell j (by simp only [hag, if_true] at hj; omega))
              simp only [hag, if_true] at this
              refine h.val hd hk.2 this (Rep.agg _ _ (by simp; omega) fun j d hj => ?_)
              rw [List.getElem?_take] at hj
              split at hj
              · rename_i hjs
                rw [List.getElem?_drop] at hj
                rw [range_getD _ _ _ hjs]
                exact hfl _ _ hj
              · cases hj
            · rename_i hag
              split at hk
              · rename_i d hd'
                have hlt' : off < r.length := (List.getElem?_eq_some_iff.1 hd').1
                have := hrun _ (fun j => cs.getD (l.base + row * sz + (off + j)) Go.undef) hv (fun j hj => hcell j (by simp only [hag, Bool.false_eq_true, if_false] at hj; omega))
                simp only [hag, Bool.false_eq_true, if_false, Nat.add_zero] at this
                exact h.val hd hk this (hfl _ _ hd')
              · exact hk.elim
          · exact hk.elim
      · rename_i sz rows hmm
        have hmm' := hm _ _ hmm
        simp only [AvRep, AvRep0, hmm'] at hx
        obtain ⟨hlt, l, hl, hv⟩ := hx
        obtain ⟨hrows, hpos, hob⟩ := h.ob id _ hmm'
        rcases hob with ⟨hβ', _⟩ | ⟨l', g, hl', hcs⟩
        · rw [hl] at hβ'; cases hβ'
        · rw [hl] at hl'; injection hl' with hl'; subst hl'
          split at hk
          · rename_i r hr
            obtain ⟨hag, hk⟩ := hk
            split at hk
            · rename_i d hd'
              obtain ⟨⟨c1, _⟩, c2⟩ := hcs _ d (flat_at rows hrows row r hr off d hd')
              have := hrun _ (fun _ => g (row * sz + off)) hv (fun j hj => by
                simp only [hag, Bool.false_eq_true, if_false] at hj
                have hj0 : j = 0 := by omega
                subst hj0
                rw [add_spot rfl, Nat.add_zero, Nat.add_assoc]
                exact c1)
              simp only [hag, Bool.false_eq_true, if_false] at this
              exact h.val hd hk this c2
            · exact hk.elim
          · exact hk.elim
      · exact hk.elim
    · rename_i id ds e
      rw [e] at hx
      split at hk
      · rename_i c hmm
        have hmm' := hm _ _ hmm
        obtain ⟨l, r, ad, g, hβ, hrg, hv, hin, hs, hc, hr, hle, hlike⟩ := tv_ptr h hmm' (tv_rd hmm' hx)
        split at hk
        · rename_i hag
          obtain ⟨hc1, h1, hk⟩ := hk
          have hsame : w.heap[ad.block]? = r.2.heap[ad.block]? := by
            rcases hlike _ hin with e1 | ⟨e1, _⟩
            · exact e1
            · rw [hc1] at e1; cases e1
          have := hrun ad g hv (fun j hj => by
            simp only [hag, if_true] at hj
            have hlt : j < ds.length := by omega
            exact (World.cell?_of_block (by rw [block_add]; exact hsame)).trans (hc j _ (List.getElem?_eq_getElem hlt)).1)
          simp only [hag, if_true] at this
          refine h.val hd hk this (tv_mk hmm' ?_)
          rw [hβ]
          refine ⟨r, hrg, Rep.agg _ _ (by simp; omega) fun j d hj => ?_⟩
          rw [List.getElem?_take] at hj
          split at hj
          · rename_i hjs; rw [range_getD _ _ _ hjs]; exact hr j d hj
          · cases hj
        · rename_i hag
          split at hk
          · rename_i d ds'
            obtain ⟨hc1, hk⟩ := hk
            obtain ⟨hcell, _⟩ := hc 0 d rfl
            have hval : w.cell? (ad.add 0) = some (g 0) := by
              rcases hlike _ hin with e1 | ⟨e1, cs, cs', ty, fz, h1, h2, h3, h4⟩
              · exact (World.cell?_of_block (by rw [block_add]; exact e1)).trans hcell
              · simp only [e1, Bool.false_or] at hc1
                cases d with
                | list rows =>
                  obtain ⟨ad2, n2, c2, e2, _⟩ := rep_list (hr 0 _ rfl)
                  have e3 := h4 ad.off
                  simp only [Addr.add_zero'] at hcell ⊢
                  obtain ⟨b0, o0, sp0⟩ := ad
                  simp only at hs h1 h2 e3
                  subst hs
                  have hlt := cell_lt h1 hcell
                  rw [run_load_at h1 hlt] at hcell
                  rw [run_load_at h2 (by omega)]
                  injection hcell with hcell
                  rw [hcell, e2] at e3
                  rw [e2]
                  rcases e3 with e3 | ⟨k, n, n', e3, _⟩ | ⟨s, s', e3, _⟩
                  · rw [e3]
                  · cases e3
                  · cases e3
                | _ => simp [D.lst] at hc1
            have := hrun ad g hv (fun j hj => by
              simp only [hag, Bool.false_eq_true, if_false] at hj
              have hj0 : j = 0 := by omega
              subst hj0
              exact hval)
            simp only [hag, Bool.false_eq_true, if_false] at this
            exact h.val hd hk this (tvAV_of (w := w) (B := Bl A β σ.m) (β := β) hmm' (v := g 0) (by rw [hβ]; exact ⟨r, hrg, hr 0 d rfl⟩))
          · exact hk.elim
      · exact hk.elim
    · exact hk.elim

end
end Go.Am

/-! The abstract machine, part 8: stores, make. -/
namespace Go.Am
open Go

theorem setAt_length {α : Type} (l : List α) (o : Nat) (vs : List α) (h : o + vs.length ≤ l.length) : (setAt l o vs).length = l.length := by
  simp [setAt]; omega

theorem setAt_get {α : Type} (l : List α) (o : Nat) (vs : List α) (h : o + vs.length ≤ l.length) (j : Nat) : (setAt l o vs)[j]? = if o ≤ j ∧ j < o + vs.length then vs[j - o]? else l[j]? := by
  unfold setAt
  rw [List.append_assoc, List.getElem?_append, List.length_take]
  by_cases hjo : j < o
  · rw [if_pos (by omega), if_neg (by omega), List.getElem?_take, if_pos hjo]
  · rw [if_neg (by omega), List.getElem?_append]
    have e1 : j - min o l.length = j - o := by omega
    rw [e1]
    by_cases hj2 : j - o < vs.length
    · rw [if_pos hj2, if_pos (by omega)]
    · rw [if_neg hj2, if_neg (by omega), List.getElem?_drop]
      congr 1; omega

theorem cell_block {w : World} {b o : Nat} {v : Value} (h : w.cell? ⟨b, o, none⟩ = some v) : ∃ cs ty fz, w.heap[b]? = some (.cells cs ty fz) ∧ o < cs.size := by
  unfold World.cell? at h
  cases hh : w.heap[b]? with
  | none => simp [hh] at h
  | some ob =>
    cases ob with
    | cells cs ty fz =>
      simp [hh] at h
      exact ⟨cs, ty, fz, rfl, by rcases Nat.lt_or_ge o cs.size with h1 | h1; exact h1; rw [Array.getElem?_eq_none h1] at h; cases h⟩
    | _ => simp [hh] at h

theorem flat_inv {α : Type} {sz : Nat} : ∀ (rows : List (List α)), (∀ r ∈ rows, r.length = sz) → ∀ (j : Nat) (x : α), rows.flatten[j]? = some x → ∃ i q r, j = i * sz + q ∧ q < sz ∧ rows[i]? = some r ∧ r[q]? = some x
  | [], _, j, x, hj => by simp at hj
  | r0 :: rows, hsz, j, x, hj => by
    have h0 : r0.length = sz := hsz r0 (by simp)
    rw [List.flatten_cons, List.getElem?_append] at hj
    split at hj
    · exact ⟨0, j, r0, by omega, by omega, rfl, hj⟩
    · obtain ⟨i, q, r, h1, h2, h3, h4⟩ := flat_inv rows (fun r hr => hsz r (by simp [hr])) _ x hj
      exact ⟨i + 1, q, r, by rw [Nat.succ_mul]; omega, h2, by simpa using h3, h4⟩

theorem upm_append (m : Nat → Option O) : ∀ (l l' : List (Nat × O)), upm m (l ++ l') = upm (upm m l) l'
  | [], _ => rfl
  | (i, o) :: l, l' => upm_append (upd m i (some o)) l l'

section
variable {P : Program} {T : TypeId → Option TI} (hT : TOk P T) {w0 w : World} {A : Nat → Prop} {locs : List (Option Loc)} {β : Nat → Option Loc} {σ : S} {a : Act}

/-- An array of this call's own, read as plain data where its block is no bar. -/
theorem own_view (h : Sim w0 A locs β σ a w) {id off len : Nat} {ty sz : Nat} {rows : List (List D)} (hm : σ.m id = some (.arr ty sz rows)) {v : Value} (hv : AvRep0 w (Bl A β σ.m) β σ.m (.own id off len) v)
    {B' : Nat → Prop} (hB : ∀ b, b < w.heap.size → ¬ Bl A β σ.m b → ¬ B' b) (hid : ∀ l, β id = some l → ¬ B' l.b) : Rep w B' v (.list ((rows.drop off).take len)) := by
  have k : Keeps w (Bl A β σ.m) w B' := ⟨Nat.le_refl _, fun _ _ _ => rfl, hB⟩
  simp only [AvRep0, hm] at hv
  obtain ⟨hle, hv⟩ := hv
  obtain ⟨hrows, hpos, hob⟩ := h.ob id _ hm
  rcases hv with ⟨hβ, rfl⟩ | ⟨l, ad, hβ, rfl, hot, had⟩
  · rcases hob with ⟨_, rfl⟩ | ⟨l, cs, hβ', _⟩
    · simp; exact .nil _ _
    · rw [hβ] at hβ'; cases hβ'
  · rcases hob with ⟨hβ', _⟩ | ⟨l', cs, hβ', hheap, hsz, hrt, _, hcs⟩
    · rw [hβ] at hβ'; cases hβ'
    · rw [hβ] at hβ'; injection hβ' with hβ'; subst hβ'
      by_cases h0 : len = 0
      · subst h0; simp; exact .nil _ _
      · have had := had (by omega)
        subst had
        have hfl : ∀ (j : Nat) (d : D), ((rows.drop off).take len).flatten[j]? = some d → rows.flatten[off * sz + j]? = some d := by
          intro j d hj
          rw [flat_take (sz := sz) _ (fun r hr => hrows r (List.mem_of_mem_drop hr)), flat_drop rows hrows] at hj
          rw [List.getElem?_take] at hj
          split at hj
          · rwa [List.getElem?_drop] at hj
          · cases hj
        have hfll : rows.flatten.length = rows.length * sz := flat_len rows hrows
        have hjl : ∀ (j : Nat) (d : D), ((rows.drop off).take len).flatten[j]? = some d → l.base + off * sz + j < cs.size := fun j d hj => by
          have h1 := (List.getElem?_eq_some_iff.1 (hfl j d hj)).1
          have h2 : rows.length * sz ≤ l.tot * sz := Nat.mul_le_mul_right _ hrt
          omega
        refine .list _ _ _ _ sz (fun j => cs.getD (l.base + off * sz + j) Go.undef) ?_ (by omega) (fun r hr => hrows r (List.mem_of_mem_drop (List.mem_of_mem_take hr))) (h.new id _ l hm rfl hβ _ l.self).1 (hid l hβ) rfl ?_ ?_
        · rw [List.length_take, List.length_drop]; omega
        · intro j d hj
          rw [add_spot rfl]
          exact ⟨run_load_at hheap (hjl j d hj), thaw hheap⟩
        · intro j d hj
          have := hcs _ d (hfl j d hj)
          rw [← Nat.add_assoc] at this
          exact this.keep k

/-- Cells of this call's own, read as plain data where their block is no bar. -/
theorem cel_view (h : Sim w0 A locs β σ a w) {id off len : Nat} {sz : Nat} {rows : List (List D)} (hm : σ.m id = some (.cel sz rows)) {v : Value} (hv : AvRep0 w (Bl A β σ.m) β σ.m (.own id off len) v)
    {B' : Nat → Prop} (hB : ∀ b, b < w.heap.size → ¬ Bl A β σ.m b → ¬ B' b) (hid : ∀ l, β id = some l → ¬ B' l.b) : Rep w B' v (.list ((rows.drop off).take len)) := by
  have k : Keeps w (Bl A β σ.m) w B' := ⟨Nat.le_refl _, fun _ _ _ => rfl, hB⟩
  simp only [AvRep0, hm] at hv
  obtain ⟨hle, ad, c, rfl, hc, had⟩ := hv
  obtain ⟨hrows, hpos, hob⟩ := h.ob id _ hm
  by_cases h0 : len = 0
  · subst h0; simp; exact .nil _ _
  · obtain ⟨l, hβ, rfl⟩ := had (by omega)
    rcases hob with ⟨hβ', _⟩ | ⟨l', g, hβ', hcs⟩
    · rw [hβ] at hβ'; cases hβ'
    · rw [hβ] at hβ'; injection hβ' with hβ'; subst hβ'
      have hfl : ∀ (j : Nat) (d : D), ((rows.drop off).take len).flatten[j]? = some d → rows.flatten[off * sz + j]? = some d := by
        intro j d hj
        rw [flat_take (sz := sz) _ (fun r hr => hrows r (List.mem_of_mem_drop hr)), flat_drop rows hrows] at hj
        rw [List.getElem?_take] at hj
        split at hj
        · rwa [List.getElem?_drop] at hj
        · cases hj
      refine .list _ _ _ _ sz (fun j => g (off * sz + j)) ?_ hc (fun r hr => hrows r (List.mem_of_mem_drop (List.mem_of_mem_take hr))) (h.new id _ l hm rfl hβ _ l.self).1 (hid l hβ) rfl ?_ ?_
      · rw [List.length_take, List.length_drop]; omega
      · intro j d hj
        rw [add_spot rfl]
        have := (hcs _ d (hfl j d hj)).1
        rwa [← Nat.add_assoc] at this
      · intro j d hj
        exact (hcs _ d (hfl j d hj)).2.keep k

variable (h : Sim w0 A locs β σ a w) {o : Oper} (hd : ∀ d, o.dst = some d → d < σ.n) {K : Eff → Prop} {m' : Nat → Option O} (hm : ∀ id ob, m' id = some ob → σ.m id = some ob)
variable (hn : ∀ d, o.dst = some d → m' (nid σ.ep d) = none → σ.m (nid σ.ep d) = none)

include h hm in
/-- Plain cells out of a value: behind what is given up for it the cells read as the data. -/
theorem dcells_sim {av : AV} {ds : List D} {ks : List Nat} (hc : dcells m' av = some (ds, ks)) {v : Value} (hv : AvRep w (Bl A β σ.m) β σ.m av v) :
    ∃ σ', σ' = { σ with m := upm σ.m (kills ks) } ∧ Sim w0 A locs β σ' a w ∧ v.cells.size = ds.length ∧ (∀ u ∈ v.cells.toList, u.oneCell' = true) ∧
      (∀ (j : Nat) (d : D), ds[j]? = some d → Rep w (Bl A β σ'.m) (v.cells.getD j Go.undef) d) ∧ (∀ i, i ∉ ks → σ'.m i = σ.m i) := by
  refine ⟨_, rfl, ?_⟩
  unfold dcells at hc
  split at hc
  · rename_i ds'
    split at hc
    · rename_i hall
      injection hc with hc
      simp only [Prod.mk.injEq] at hc
      obtain ⟨rfl, rfl⟩ := hc
      have hca : CellsAre w (Bl A β σ.m) β σ.m v (ds'.map .imm) := .agg hall hv
      refine ⟨h, by simpa using hca.size, hca.one, fun j d hj => ?_, fun _ _ => rfl⟩
      exact hca.rep j (.imm d) (by simp [hj])
    · cases hc
  · rename_i d hnd
    split at hc
    · rename_i h1
      injection hc with hc
      simp only [Prod.mk.injEq] at hc
      obtain ⟨rfl, rfl⟩ := hc
      have hca : CellsAre w (Bl A β σ.m) β σ.m v [.imm d] := .mk1 (Rep.one (show Rep w _ v d from hv) h1) hv
      refine ⟨h, by simpa using hca.size, hca.one, fun j d' hj => ?_, fun _ _ => rfl⟩
      cases j with
      | zero => simp at hj; subst hj; exact hca.rep 0 (.imm d) rfl
      | succ j => simp at hj
    · cases hc
  · rename_i id off len
    split at hc
    · rename_i ty sz rows hmm
      injection hc with hc
      simp only [Prod.mk.injEq] at hc
      obtain ⟨rfl, rfl⟩ := hc
      have hmm' := hm _ _ hmm
      have hk := h.kill hmm'
      have hv' : AvRep0 w (Bl A β σ.m) β σ.m (.own id off len) v := hv
      have h1 : v.oneCell' = true := by
        simp only [AvRep0, hmm'] at hv'
        rcases hv'.2 with ⟨_, rfl⟩ | ⟨l, ad, _, rfl, _⟩ <;> rfl
      have hsub : ∀ b, Bl A β (upd σ.m id (some .gone)) b → Bl A β σ.m b ∧ ∀ l, β id = some l → ¬ l.has b := by
        rintro b (hA | ⟨i, oi, li, e1, e2, e3, e4⟩)
        · exact ⟨.inl hA, fun l hl e => (h.new id _ l hmm' rfl hl b e).2.1 hA⟩
        · by_cases e : i = id
          · subst e; rw [upd_same] at e1; injection e1 with e1; subst e1; simp [O.live] at e2
          · rw [upd_other _ _ e] at e1
            exact ⟨.inr ⟨i, oi, li, e1, e2, e3, e4⟩, fun l hl eb => e (h.inj i id oi _ li l b e1 e2 e3 hmm' rfl hl e4 eb)⟩
      have hr := own_view h hmm' hv' (B' := Bl A β (upd σ.m id (some .gone))) (fun b _ hB hB' => hB (hsub b hB').1) (fun l hl hB' => (hsub _ hB').2 l hl l.self)
      have ecell := cells_one h1
      refine ⟨hk, by rw [ecell]; rfl, fun u hu => by rw [ecell] at hu; simp at hu; subst hu; exact h1, fun j d hj => ?_, fun i hi => upd_other _ _ (by simpa using hi)⟩
      cases j with
      | zero => simp at hj; subst hj; rw [ecell]; exact hr
      | succ j => simp at hj
    · cases hc
  · cases hc

include hT h hd hm in
theorem good_store {t : TypeId} {x y : Operand} (ho : o.op = .store t x y) (hk : opStore T m' t (σ.ev x) (σ.ev y) K) : Good P w0 A locs σ a w o K := by
  have hrun : ∀ {w' : World}, (Instr.storeAt t (a.eval x) (a.eval y)).run P w = .ok () w' → (execOp a.eval o).run P w = .ok .skip w' := fun hr => by
    simp only [execOp, ho, Sem.run_bind, hr, Result.andThen_ok, Sem.run_pure]
  unfold opStore at hk
  split at hk
  · exact hk.elim
  · rename_i ti ht
    have hx := h.ev x
    split at hk
    · rename_i id off e
      rw [e] at hx
      split at hk
      · rename_i ty cells vs hmm hc
        have hmm' := hm _ _ hmm
        have hc' : acells σ.m (σ.ev y) = some vs := acells_sub hm hc
        obtain ⟨h1, h2, hK⟩ := hk
        have hca := acells_rep hc' (h.ev y)
        simp only [AvRep, AvRep0, BoxAt, hmm'] at hx
        obtain ⟨l, hl, hv⟩ := hx
        obtain ⟨l', cs, hl', hheap, hsz, hcs⟩ := h.ob id _ hmm'
        rw [hl] at hl'; injection hl' with hl'; subst hl'
        obtain ⟨w', cs', hr, hh, hsz', hcs', hoth, hws, hos, htp, hout, hdr⟩ := run_storeAt (P := P) (w := w) hT ht l.b off (a.eval y) ty cs (by rw [hca.size, h1]) hheap (by omega) hca.one
        rw [← hv] at hr
        have hs := h.write (o' := .box ty (setAt cells off vs)) hmm' rfl rfl (.inr ⟨_, _, rfl⟩) hl (fun b hb => hoth b (fun e => hb (.inl e.symm))) hws hos htp hout (Nat.le_of_eq hdr.symm) (fun k g => ⟨l, cs', hl, hh, by rw [hsz', hsz, setAt_length _ _ _ (by omega)], fun j av hj => by
          rw [setAt_get _ _ _ (by omega)] at hj
          rw [hcs' j]
          by_cases hin : off ≤ j ∧ j < off + vs.length
          · rw [if_pos hin] at hj
            rw [if_pos (by omega)]
            exact (hca.rep _ av hj).keep k g
          · rw [if_neg hin] at hj
            rw [if_neg (by omega)]
            exact (hcs j av hj).keep k g⟩)
        exact ⟨_, _, _, w', hK, .inr ⟨hrun hr, rfl⟩, Sim.app hd hs rfl⟩
      · exact hk.elim
    · rename_i id row off e
      rw [e] at hx
      split at hk
      · rename_i ty sz rows vs ks hmm hc
        have hmm' := hm _ _ hmm
        split at hk
        · rename_i r hr
          obtain ⟨h1, h2, h3, hK⟩ := hk
          obtain ⟨σ1, hσ1, hs1, hvs, hone, hvr, hkeep⟩ := dcells_sim h hm hc (h.ev y)
          have hmm1 : σ1.m id = some (.arr ty sz rows) := by rw [hkeep id h3]; exact hmm'
          simp only [AvRep, AvRep0, hmm'] at hx
          obtain ⟨hlt, l, hl, hv⟩ := hx
          obtain ⟨hrows, hpos, hob⟩ := hs1.ob id _ hmm1
          rcases hob with ⟨hβ', _⟩ | ⟨l', cs, hl', hheap, hsz, hrt, htm, hcs⟩
          · rw [hl] at hβ'; cases hβ'
          · rw [hl] at hl'; injection hl' with hl'; subst hl'
            have hrs : r.length = sz := hrows r (List.mem_of_getElem? hr)
            have hfit : l.base + row * sz + off + ti.size ≤ cs.size := by
              have : (row + 1) * sz ≤ l.tot * sz := Nat.mul_le_mul_right _ (by omega)
              rw [Nat.succ_mul] at this
              omega
            obtain ⟨w', cs', hr', hh, hsz', hcs', hoth, hws, hos, htp, hout, hdr⟩ := run_storeAt (P := P) (w := w) hT ht l.b (l.base + row * sz + off) (a.eval y) ty cs (by rw [hvs, h1]) hheap hfit hone
            rw [← hv] at hr'
            have hrows' : ∀ r' ∈ rows.set row (setAt r off vs), r'.length = sz := by
              intro r' hr''
              rcases List.mem_or_eq_of_mem_set hr'' with h5 | h5
              · exact hrows r' h5
              · rw [h5, setAt_length _ _ _ (by omega), hrs]
            have hs := hs1.write (o' := .arr ty sz (rows.set row (setAt r off vs))) hmm1 rfl rfl (.inr ⟨_, _, rfl, by simp⟩) hl (fun b hb => hoth b (fun e => hb (.inl e.symm))) hws hos htp hout (Nat.le_of_eq hdr.symm) (fun k g => ⟨hrows', hpos, .inr ⟨l, cs', hl, hh, by rw [hsz', hsz], by simpa using hrt, htm, fun j d hj => by
              obtain ⟨i, q, r', hj', hq, hi, hrq⟩ := flat_inv _ hrows' j d hj
              subst hj'
              rw [hcs', ← Nat.add_assoc]
              by_cases hir : i = row
              · subst hir
                rw [List.getElem?_set_self (by omega)] at hi
                injection hi with hi
                subst hi
                rw [setAt_get _ _ _ (by omega)] at hrq
                by_cases hin : off ≤ q ∧ q < off + vs.length
                · rw [if_pos hin] at hrq
                  rw [if_pos (by omega)]
                  have e5 : l.base + i * sz + q - (l.base + i * sz + off) = q - off := by omega
                  rw [e5]
                  exact (hvr _ d hrq).keep k
                · rw [if_neg hin] at hrq
                  rw [if_neg (by omega)]
                  have := hcs _ d (flat_at rows hrows i r hr q d hrq)
                  rw [← Nat.add_assoc] at this
                  exact this.keep k
              · rw [List.getElem?_set_ne (Ne.symm hir)] at hi
                have hno : ¬ (l.base + row * sz + off ≤ l.base + i * sz + q ∧ l.base + i * sz + q < l.base + row * sz + off + ti.size) := by
                  rcases Nat.lt_or_gt_of_ne hir with h6 | h6
                  · have : (i + 1) * sz ≤ row * sz := Nat.mul_le_mul_right _ (by omega)
                    rw [Nat.succ_mul] at this
                    omega
                  · have : (row + 1) * sz ≤ i * sz := Nat.mul_le_mul_right _ (by omega)
                    rw [Nat.succ_mul] at this
                    omega
                rw [if_neg hno]
                have := hcs _ d (flat_at rows hrows i r' hi q d hrq)
                rw [← Nat.add_assoc] at this
                exact this.keep k⟩⟩)
            have hs' : Sim w0 A locs β { σ with m := upm σ.m (kills ks ++ [(id, .arr ty sz (rows.set row (setAt r off vs)))]) } a w' := by
              rw [upm_append]
              subst hσ1
              exact hs
            exact ⟨_, _, _, w', hK, .inr ⟨hrun hr', rfl⟩, Sim.app hd hs' rfl⟩
        · exact hk.elim
      · rename_i sz rows d1 hmm _
        have hmm' := hm _ _ hmm
        split at hk
        · rename_i r hr
          obtain ⟨hv1, hd1, h1, h2, hK⟩ := hk
          have hyr : Rep w (Bl A β σ.m) (a.eval y) d1 := h.imm hv1
          have hyo : (a.eval y).oneCell' = true := Rep.one hyr hd1
          simp only [AvRep, AvRep0, hmm'] at hx
          obtain ⟨hlt, l, hl, hv⟩ := hx
          obtain ⟨hrows, hpos, hob⟩ := h.ob id _ hmm'
          rcases hob with ⟨hβ', _⟩ | ⟨l', g, hl', hcs⟩
          · rw [hl] at hβ'; cases hβ'
          · rw [hl] at hl'; injection hl' with hl'; subst hl'
            obtain ⟨⟨c1, c2⟩, _⟩ := hcs _ _ (flat_at rows hrows row r hr off _ (List.getElem?_eq_getElem h2))
            rw [← Nat.add_assoc] at c1 c2
            obtain ⟨cs, ty, fz, q1, q2⟩ := cell_block c1
            obtain ⟨w', hr', hh, hoth, hws, hos, htp, hout, hdr⟩ := run_store1 (P := P) (w := w) hT ht h1 l.b (l.base + row * sz + off) (a.eval y) q1 q2 c2 hyo
            rw [← hv] at hr'
            have hrows' : ∀ r' ∈ rows.set row (r.set off d1), r'.length = sz := by
              intro r' hr''
              rcases List.mem_or_eq_of_mem_set hr'' with h5 | h5
              · exact hrows r' h5
              · rw [h5, List.length_set, hrows r (List.mem_of_getElem? hr)]
            have hs := h.write (o' := .cel sz (rows.set row (r.set off d1))) hmm' rfl rfl (.inr ⟨_, rfl, by simp⟩) hl (fun b hb => hoth b (fun e => hb (.inl e.symm))) hws hos htp hout (Nat.le_of_eq hdr.symm) (fun k g' => ⟨hrows', hpos, .inr ⟨l, upd g (row * sz + off) (a.eval y), hl, fun j d hj => by
              obtain ⟨i, q, r', hj', hq, hi, hrq⟩ := flat_inv _ hrows' j d hj
              subst hj'
              have hfz : w'.frozen? ⟨l.b, l.base + (i * sz + q), none⟩ = w.frozen? ⟨l.b, l.base + (i * sz + q), none⟩ := by simp [World.frozen?, hh, q1]
              by_cases hir : i = row ∧ q = off
              · obtain ⟨rfl, rfl⟩ := hir
                rw [List.getElem?_set_self (by omega)] at hi
                injection hi with hi
                subst hi
                rw [List.getElem?_set_self h2] at hrq
                injection hrq with hrq
                subst hrq
                rw [upd_same]
                refine ⟨⟨?_, ?_⟩, hyr.keep k⟩
                · rw [cell_at hh, ← Nat.add_assoc]
                  simp [q2]
                · rw [hfz, ← Nat.add_assoc]; exact c2
              · have hne : i * sz + q ≠ row * sz + off := fun e => by
                  have hoq : off < sz := by rw [← hrows r (List.mem_of_getElem? hr)]; exact h2
                  have h6 : i = row := by
                    have e1 : (i * sz + q) / sz = i := by rw [Nat.add_comm, Nat.add_mul_div_right _ _ (by omega), Nat.div_eq_of_lt hq]; omega
                    have e2 : (row * sz + off) / sz = row := by rw [Nat.add_comm, Nat.add_mul_div_right _ _ (by omega), Nat.div_eq_of_lt hoq]; omega
                    rw [← e1, ← e2, e]
                  exact hir ⟨h6, by subst h6; omega⟩
                have hold : rows.flatten[i * sz + q]? = some d := by
                  by_cases h7 : i = row
                  · subst h7
                    rw [List.getElem?_set_self (by omega)] at hi
                    injection hi with hi
                    subst hi
                    rw [List.getElem?_set_ne (fun e => hir ⟨rfl, e.symm⟩)] at hrq
                    exact flat_at rows hrows i r hr q d hrq
                  · rw [List.getElem?_set_ne (Ne.symm h7)] at hi
                    exact flat_at rows hrows i r' hi q d hrq
                obtain ⟨⟨d1', d2'⟩, d3'⟩ := hcs _ d hold
                rw [upd_other _ _ hne]
                refine ⟨⟨?_, by rw [hfz]; exact d2'⟩, d3'.keep k⟩
                rw [cell_at q1] at d1'
                rw [cell_at hh, Array.getElem?_setIfInBounds, if_neg (by omega)]
                exact d1'⟩⟩)
            exact ⟨_, _, _, w', hK, .inr ⟨hrun hr', rfl⟩, Sim.app hd hs rfl⟩
        · exact hk.elim
      · exact hk.elim
    · rename_i id d0 ds e
      rw [e] at hx
      split at hk
      · rename_i c d1 hmm e1
        have hmm' := hm _ _ hmm
        obtain ⟨h1, h2, hK⟩ := hk
        obtain ⟨l, r, ad, g, hβ, hrg, hv, hin, hs, hc, hr, hle, hlike⟩ := tv_ptr h hmm' (tv_rd hmm' hx)
        obtain ⟨hcell, hfz⟩ := hc 0 d0 rfl
        have hy := h.imm e1
        have hone : (a.eval y).oneCell' = true := Rep.one hy (by cases d0 <;> cases d1 <;> first | rfl | (simp [likeD] at h2))
        simp only [Addr.add_zero'] at hcell hfz
        obtain ⟨b0, o0, sp0⟩ := ad
        simp only at hs hin
        subst hs
        obtain ⟨cs, cs', ty, fz, q1, q2, q3, q4⟩ : ∃ (cs cs' : Array Value) (ty : TypeId) (fz : Nat × Nat), r.2.heap[b0]? = some (.cells cs ty fz) ∧ w.heap[b0]? = some (.cells cs' ty fz) ∧ cs'.size = cs.size ∧ ∀ j, LikeV (cs.getD j Go.undef) (cs'.getD j Go.undef) := by
          rcases hlike _ hin with e2 | ⟨_, cs, cs', ty, fz, r1, r2, r3, r4⟩
          · obtain ⟨cs, ty, fz, e3⟩ := cells_of_cell hcell
            exact ⟨cs, cs, ty, fz, e3, e2.trans e3, rfl, fun _ => .inl rfl⟩
          · exact ⟨cs, cs', ty, fz, r1, r2, r3, r4⟩
        have hlt := cell_lt q1 hcell
        have hz : w.frozen? ⟨b0, o0, none⟩ = false := by
          simp only [World.frozen?, q1] at hfz
          simp only [World.frozen?, q2]
          exact hfz
        obtain ⟨w', hr', hh, hoth, hws, hos, htp, hout, hdr⟩ := run_store1 (P := P) (w := w) hT ht h1 b0 o0 (a.eval y) q2 (by omega) hz hone
        rw [← hv] at hr'
        have hs := h.write (o' := .reg false) hmm' rfl rfl (.inr ⟨_, rfl⟩) hβ (fun b hb => hoth b (fun e => hb (.inr ⟨r, hrg, by rw [e]; exact hin⟩))) hws hos htp hout (Nat.le_of_eq hdr.symm) (fun k g => .inr ⟨l, r, hβ, hrg, by rw [hws]; exact hle, fun b hb => by
          by_cases hbb : b = b0
          · subst hbb
            refine .inr ⟨rfl, cs, _, ty, fz, q1, hh, by simp [q3], fun j => ?_⟩
            by_cases hj : j = o0
            · subst hj
              rw [show (cs'.setIfInBounds j (a.eval y)).getD j Go.undef = a.eval y by simp [q3, hlt]]
              rw [run_load_at q1 hlt] at hcell
              injection hcell with hcell
              have h00 := hr 0 d0 rfl
              rw [hcell]
              cases d0 <;> cases d1 <;> first
                | (simp [likeD] at h2; done)
                | (simp only [likeD, decide_eq_true_eq] at h2; subst h2; rw [rep_int h00, rep_int hy]; exact .inr (.inl ⟨_, _, _, rfl, rfl⟩))
                | (rw [rep_str h00, rep_str hy]; exact .inr (.inr ⟨_, _, rfl, rfl⟩))
            · rw [show (cs'.setIfInBounds o0 (a.eval y)).getD j Go.undef = cs'.getD j Go.undef by simp [Ne.symm hj]]
              exact q4 j
          · rw [hoth b hbb]
            exact (hlike b hb).mono⟩)
        exact ⟨_, _, _, w', hK, .inr ⟨hrun hr', rfl⟩, Sim.app hd hs rfl⟩
      · exact hk.elim
    · exact hk.elim

theorem madeCells_at (z : Array Value) (n sz : Nat) (hz : z.size = sz) (i q : Nat) (hi : i < n) (hq : q < sz) : (madeCells z (n * sz)).getD (i * sz + q) Go.undef = z.getD q Go.undef := by
  have hlt : i * sz + q < n * sz := by
    have : (i + 1) * sz ≤ n * sz := Nat.mul_le_mul_right _ (by omega)
    rw [Nat.succ_mul] at this
    omega
  have e1 : (i * sz + q) % sz = q := by rw [Nat.mul_comm, Nat.mul_add_mod, Nat.mod_eq_of_lt hq]
  have hqz : q < z.size := by omega
  simp only [madeCells, Array.getD_eq_getD_getElem?, Array.getElem?_map, Array.getElem?_range, hlt, if_true, Option.map_some, Option.getD_some, hz, e1]
  simp [hqz]

include hT h hd hn in
theorem good_make {t : TypeId} {x y : Operand} (ho : o.op = .makeSlice t x y) (hk : opMake T m' σ.ep o t (σ.ev x) (σ.ev y) K) : Good P w0 A locs σ a w o K := by
  unfold opMake at hk
  split at hk
  · rename_i d e _ _ _ kn n kc c hdst ht e1 e2
    have hu := hT.slice ht rfl
    split at hk
    · rename_i te hte
      obtain ⟨h0, h1, h2, h3, hpos, hzl, hid, hK⟩ := hk
      obtain ⟨i, z, hi, hsz, hby, hz, hzall⟩ := hT.info hte
      have hr := run_make (P := P) w t e i z hu hi hz kn kc n c h0 h1 (by rw [hby]; exact h2) (by omega)
      have hzs : z.cells.size = te.size := by have := (zall_rep w (fun _ => False) _ _ hzall).1; simpa [hzl] using this
      have hs := h.new_ (id := nid σ.ep d) (o := .arr e te.size (List.replicate n.toNat te.zero)) (cs := madeCells z.cells (c.toNat * i.size)) (ty := e) (l := ⟨w.heap.size, 0, c.toNat, none⟩) (hn d hdst hid) rfl rfl
        (fun w' B' β' m'' k g h5 h6 h7 => ⟨fun r hr' => by rw [List.eq_of_mem_replicate hr', hzl], hpos, .inr ⟨_, _, h5, h7, by rw [size_madeCells, hsz]; simp, by simp; omega, by show c.toNat ≤ maxLen; unfold maxLen; omega, fun j dd hj => by
          obtain ⟨ii, q, r, hj', hq, hii, hrq⟩ := flat_inv (sz := te.size) _ (fun r hr' => by rw [List.eq_of_mem_replicate hr', hzl]) j dd hj
          subst hj'
          rw [List.getElem?_replicate] at hii
          split at hii
          · rename_i hlt
            injection hii with hii
            subst hii
            obtain ⟨v, hv, hrep⟩ := (zall_rep w' B' _ _ hzall).2 q dd hrq
            have e5 : z.cells.getD q Go.undef = v := by
              have : z.cells[q]? = some v := by simpa using hv
              simp [Array.getD_eq_getD_getElem?, this]
            simp only [Nat.zero_add]
            rw [hsz, madeCells_at z.cells c.toNat te.size hzs ii q (by omega) hq, e5]
            exact hrep
          · cases hii⟩⟩)
      refine ⟨_, _, .slice (some ⟨w.heap.size, 0, none⟩) n.toNat c.toNat, _, hK, .inl ?_, Sim.app hd hs ?_⟩
      · simp only [execOp, ho, rep_int (h.imm e1), rep_int (h.imm e2), Sem.run_bind, hr, Result.andThen_ok, Sem.run_pure]
      · simp only [upm, AvRep, AvRep0, upd_same]
        exact ⟨by simp, .inr ⟨⟨w.heap.size, 0, c.toNat, none⟩, ⟨w.heap.size, 0, none⟩, rfl, by simp, Nat.zero_le _, fun _ => by simp⟩⟩
    · exact hk.elim
  · exact hk.elim

end
end Go.Am

/-! The abstract machine, part 9: literals, append, function values. -/
namespace Go.Am
open Go

/-- A slice literal's parts, laid into rows. -/
def putRows (m : Nat → Option O) (sz : Nat) : List (Nat × AV) → List (List D) → List Nat → Option (List (List D) × List Nat)
  | [], rows, ks => some (rows, ks)
  | (i, av) :: r, rows, ks =>
    match dcells m av with
    | some (ds, ks') => if ds.length = sz ∧ i < rows.length ∧ (∀ k ∈ ks', k ∉ ks) then putRows m sz r (rows.set i ds) (ks ++ ks') else none
    | none => none

/-- A struct's parts, laid into its cells. -/
def putFields (m : Nat → Option O) (fs : List (Nat × Nat × Bool)) : List (Nat × AV) → List D → List Nat → Option (List D × List Nat)
  | [], cells, ks => some (cells, ks)
  | (i, av) :: r, cells, ks =>
    match fs[i]?, dcells m av with
    | some (o, n, _), some (ds, ks') => if ds.length = n ∧ o + n ≤ cells.length ∧ (∀ k ∈ ks', k ∉ ks) then putFields m fs r (setAt cells o ds) (ks ++ ks') else none
    | _, _ => none

def opBuildSlice (T : TypeId → Option TI) (m : Nat → Option O) (ep : Nat) (o : Oper) (t : TypeId) (len : Nat) (parts : List (Nat × AV)) (K : Eff → Prop) : Prop :=
  match o.dst, T t with
  | some d, some ⟨.slice e, _, _, _⟩ =>
    match T e with
    | some te => len * te.size ≤ 16777216 ∧ 0 < te.size ∧ te.zero.length = te.size ∧ m (nid ep d) = none ∧
      match putRows m te.size parts (List.replicate len te.zero) [] with
      | some (rows, ks) => K ⟨.own (nid ep d) 0 len, kills ks ++ [(nid ep d, .arr e te.size rows)]⟩
      | none => False
    | none => False
  | _, _ => False

/-- A zero cell; a nil slice as the very value. -/
def zcellAV : D → AV
  | .list [] => .imm (.other (.slice none 0 0))
  | d => .imm d

theorem zcellAV_rep (w : World) (B : Nat → Prop) {v : Value} {d : D} (h : zcell v d = true) : ∃ d', zcellAV d = .imm d' ∧ Rep w B v d' := by
  unfold zcellAV
  split
  · refine ⟨_, rfl, ?_⟩
    unfold zcell at h
    split at h <;> first | exact .other _ | (rename_i e; cases e) | (rename_i e _; cases e) | cases h
  · exact ⟨_, rfl, zcell_rep w B h⟩

theorem zallAV_rep (w : World) (B : Nat → Prop) (β : Nat → Option Loc) (m : Nat → Option O) : ∀ (vs : List Value) (ds : List D), zall vs ds = true → ∀ (j : Nat) (c : AV), (ds.map zcellAV)[j]? = some c → ∃ v, vs[j]? = some v ∧ AvRep0 w B β m c v
  | [], [], _, j, c, h => by simp at h
  | [], _ :: _, h, _, _, _ => by simp [zall] at h
  | _ :: _, [], h, _, _, _ => by simp [zall] at h
  | v :: vs, d :: ds, h, j, c, hj => by
    simp only [zall, Bool.and_eq_true] at h
    cases j with
    | zero =>
      simp at hj
      subst hj
      obtain ⟨d', e, hr⟩ := zcellAV_rep w B h.1
      refine ⟨v, rfl, ?_⟩
      rw [e]
      exact hr
    | succ j => simpa using zallAV_rep w B β m vs ds h.2 j c (by simpa using hj)

/-- A struct's parts, laid into its cells; arrays of this call's own stay what they are. -/
def putFieldsA (m : Nat → Option O) (fs : List (Nat × Nat × Bool)) : List (Nat × AV) → List AV → Option (List AV)
  | [], cells => some cells
  | (i, av) :: r, cells =>
    match fs[i]?, acells m av with
    | some (o, n, _), some vs => if vs.length = n ∧ o + n ≤ cells.length then putFieldsA m fs r (setAt cells o vs) else none
    | _, _ => none

def opBuild (T : TypeId → Option TI) (m : Nat → Option O) (t : TypeId) (parts : List (Nat × AV)) (K : Eff → Prop) : Prop :=
  match T t with
  | some ⟨.struct fs, _, _, zero⟩ =>
    (match putFields m fs parts zero [] with
    | some (ds, ks) => K ⟨.imm (.agg ds), kills ks⟩
    | none => False) ∨ match putFieldsA m fs parts (zero.map zcellAV) with | some cells => K ⟨.mix cells, []⟩ | none => False
  | some ⟨.array n e, _, _, zero⟩ =>
    match T e with
    | some te =>
      match putFields m ((List.range n).map fun i => (i * te.size, te.size, true)) parts zero [] with
      | some (ds, ks) => K ⟨.imm (.agg ds), kills ks⟩
      | none => False
    | none => False
  | _ => False

def opAppend (T : TypeId → Option TI) (m : Nat → Option O) (ep : Nat) (o : Oper) (t : TypeId) (x y : AV) (K : Eff → Prop) : Prop :=
  match o.dst, T t, x with
  | some d, some ⟨.slice e, _, _, _⟩, .own id off len =>
    match T e, m id with
    | some te, some (.arr ty sz rows) =>
      ty = e ∧ sz = te.size ∧ off + len = rows.length ∧ m (nid ep d) = none ∧
      match y with
      | .imm (.list rows') => (∀ r ∈ rows', r.length = te.size ∧ r.all D.one = true) ∧ (len + rows'.length) * te.bytes ≤ 140737488355328 ∧ len + rows'.length ≤ 4611686018427387904 ∧
          K ⟨.own (nid ep d) 0 (len + rows'.length), [(id, .gone), (nid ep d, .arr e te.size (rows.drop off ++ rows'))]⟩
      | .own id2 off2 len2 =>
        match m id2 with
        | some (.arr _ sz2 rows2) => sz2 = te.size ∧ off2 + len2 ≤ rows2.length ∧ id2 ≠ id ∧ (∀ r ∈ (rows2.drop off2).take len2, r.all D.one = true) ∧ (len + len2) * te.bytes ≤ 140737488355328 ∧ len + len2 ≤ 4611686018427387904 ∧
            K ⟨.own (nid ep d) 0 (len + len2), [(id, .gone), (nid ep d, .arr e te.size (rows.drop off ++ (rows2.drop off2).take len2))]⟩
        | _ => False
      | _ => False
    | _, _ => False
  | _, _, _ => False

/-- Boxes alone. -/
def boxIds : List AV → Option (List Nat)
  | [] => some []
  | .box id 0 :: r => (boxIds r).map (id :: ·)
  | _ :: _ => none

def opFunc (fn : Fn) (first captured : List AV) (K : Eff → Prop) : Prop :=
  match fn, first with
  | .func f, [] =>
    match captured with
    | [] => K ⟨.imm (.fn f []), []⟩
    | _ => match boxIds captured with | some ids => K ⟨.clo f ids, []⟩ | none => False
  | _, _ => False

section
variable {P : Program} {T : TypeId → Option TI} (hT : TOk P T) {w0 w : World} {A : Nat → Prop} {locs : List (Option Loc)} {β : Nat → Option Loc} {σ : S} {a : Act}
variable (h : Sim w0 A locs β σ a w) {o : Oper} (hd : ∀ d, o.dst = some d → d < σ.n) {K : Eff → Prop} {m' : Nat → Option O} (hm : ∀ id ob, m' id = some ob → σ.m id = some ob)
variable (hn : ∀ d, o.dst = some d → m' (nid σ.ep d) = none → σ.m (nid σ.ep d) = none)

theorem boxIds_at : ∀ {l : List AV} {ids : List Nat}, boxIds l = some ids → l.length = ids.length ∧ ∀ (j id : Nat), ids[j]? = some id → l[j]? = some (.box id 0)
  | [], ids, hi => by simp [boxIds] at hi; subst hi; exact ⟨rfl, fun j d hj => by simp at hj⟩
  | .box id 0 :: r, ids, hi => by
    simp only [boxIds, Option.map_eq_some_iff] at hi
    obtain ⟨ids', h1, rfl⟩ := hi
    obtain ⟨h2, h3⟩ := boxIds_at h1
    refine ⟨by simp [h2], fun j d' hj => ?_⟩
    cases j with
    | zero => simp at hj; subst hj; rfl
    | succ j => simpa using h3 j d' (by simpa using hj)
  | .box id (n + 1) :: _, _, hi => by simp [boxIds] at hi
  | .dead :: _, _, hi => by simp [boxIds] at hi
  | .undef :: _, _, hi => by simp [boxIds] at hi
  | .imm _ :: _, _, hi => by simp [boxIds] at hi
  | .own _ _ _ :: _, _, hi => by simp [boxIds] at hi
  | .eptr _ _ _ :: _, _, hi => by simp [boxIds] at hi
  | .clo _ _ :: _, _, hi => by simp [boxIds] at hi
  | .tup _ :: _, _, hi => by simp [boxIds] at hi
  | .mix _ :: _, _, hi => by simp [boxIds] at hi

include h hd in
theorem good_func {fn : Fn} {first captured : Array Operand} (ho : o.op = .makeFunc fn first captured) (hk : opFunc fn (first.toList.map σ.ev) (captured.toList.map σ.ev) K) : Good P w0 A locs σ a w o K := by
  unfold opFunc at hk
  split at hk
  · rename_i f hf
    have hf' : first = #[] := by
      cases first with
      | mk l => cases l with
        | nil => rfl
        | cons x l => simp at hf
    subst hf'
    split at hk
    · rename_i hc
      have hc' : captured = #[] := by
        cases captured with
        | mk l => cases l with
          | nil => rfl
          | cons x l => simp at hc
      subst hc'
      refine h.val hd hk (v := .func (.func f) #[] #[]) (by simp [execOp, ho, Instr.makeFunc]) (Rep.fn f #[] [] rfl fun j d hj => by simp at hj)
    · split at hk
      · rename_i ids hids
        obtain ⟨h1, h2⟩ := boxIds_at hids
        refine h.val hd hk (v := .func (.func f) #[] (captured.map a.eval)) (by simp [execOp, ho, Instr.makeFunc]) ?_
        refine ⟨captured.map a.eval, rfl, by simpa using h1, fun i id hi => ?_⟩
        have h3 := h2 i id hi
        simp only [List.getElem?_map, Option.map_eq_some_iff] at h3
        obtain ⟨x, hx, he⟩ := h3
        have hv := h.ev x
        rw [he] at hv
        have e1 : (captured.map a.eval).getD i Go.undef = a.eval x := by
          have : captured[i]? = some x := by simpa using hx
          simp [Array.getD_eq_getD_getElem?, this]
        rw [e1]; exact hv
      · exact hk.elim
  · exact hk.elim

theorem upm_kills_other (m : Nat → Option O) : ∀ (ks : List Nat) (i : Nat), i ∉ ks → upm m (kills ks) i = m i
  | [], _, _ => rfl
  | k :: ks, i, hi => by
    show upm (upd m k (some .gone)) (kills ks) i = m i
    rw [upm_kills_other _ ks i (by simp at hi; exact hi.2), upd_other _ _ (by simp at hi; exact hi.1)]

/-- The concrete filling of an array's cells by one part. -/
def fill1 (cells : Array Value) (off : Nat) (v : Value) : Array Value := v.cells.zipIdx.foldl (fun cs (x : Value × Nat) => cs.setIfInBounds (off + x.2) x.1) cells

theorem fold_set : ∀ (l : List Value) (k : Nat) (cs : Array Value) (off : Nat),
    ((l.zipIdx k).foldl (fun cs (x : Value × Nat) => cs.setIfInBounds (off + x.2) x.1) cs).size = cs.size ∧
    ∀ j, off + k + l.length ≤ cs.size → ((l.zipIdx k).foldl (fun cs (x : Value × Nat) => cs.setIfInBounds (off + x.2) x.1) cs).getD j Go.undef = if off + k ≤ j ∧ j < off + k + l.length then l.getD (j - (off + k)) Go.undef else cs.getD j Go.undef
  | [], k, cs, off => ⟨rfl, fun j _ => by simp; intro h1 h2; omega⟩
  | v :: l, k, cs, off => by
    obtain ⟨h1, h2⟩ := fold_set l (k + 1) (cs.setIfInBounds (off + k) v) off
    simp only [List.zipIdx_cons, List.foldl_cons]
    refine ⟨by rw [h1]; simp, fun j hj => ?_⟩
    simp only [List.length_cons] at hj
    rw [h2 j (by simp; omega)]
    by_cases h3 : j = off + k
    · subst h3
      rw [if_neg (by omega), if_pos (by simp)]
      rw [getD_put _ _ _ _ (by omega), if_pos rfl]
      simp
    · by_cases h4 : off + k ≤ j ∧ j < off + k + (l.length + 1)
      · rw [if_pos (by omega), if_pos (by simpa using h4)]
        have e1 : j - (off + k) = (j - (off + (k + 1))) + 1 := by omega
        rw [e1]; simp
      · rw [if_neg (by omega), if_neg (by simpa using h4), getD_put _ _ _ _ (by omega), if_neg h3]

theorem fill1_at (cells : Array Value) (off : Nat) (v : Value) (hl : off + v.cells.size ≤ cells.size) : (fill1 cells off v).size = cells.size ∧
    ∀ j, (fill1 cells off v).getD j Go.undef = if off ≤ j ∧ j < off + v.cells.size then v.cells.getD (j - off) Go.undef else cells.getD j Go.undef := by
  have h := fold_set v.cells.toList 0 cells off
  have e : fill1 cells off v = ((v.cells.toList.zipIdx 0).foldl (fun cs (x : Value × Nat) => cs.setIfInBounds (off + x.2) x.1) cells) := by
    unfold fill1
    rw [← Array.foldl_toList, Array.toList_zipIdx]
  rw [e]
  refine ⟨h.1, fun j => ?_⟩
  have := h.2 j (by simpa using hl)
  simp only [Nat.add_zero, Array.length_toList] at this
  rw [this]
  simp [Array.getD_eq_getD_getElem?, List.getD_eq_getElem?_getD]

theorem fill_cons (place : Nat → Option (Nat × Nat)) (cells : Array Value) (i : Nat) (v : Value) (rest : List (Nat × Value)) (off n : Nat) (hp : place i = some (off, n)) (hs : v.cells.size = n) (hl : off + n ≤ cells.size) :
    Instr.fill place cells ((i, v) :: rest) = Instr.fill place (fill1 cells off v) rest := by
  simp only [Instr.fill, hp]
  rw [if_neg (by simp [hs]; omega)]
  rfl

/-- The state behind some arrays given up, in which what was read as data is data. -/
theorem dcells_sub {m₁ m₂ : Nat → Option O} (hsub : ∀ id ob, m₁ id = some ob → m₂ id = some ob) {av : AV} {r : List D × List Nat} (hc : dcells m₁ av = some r) : dcells m₂ av = some r := by
  unfold dcells at hc ⊢
  split at hc <;> first
    | exact hc
    | (split at hc
       · rename_i hmm; rw [hsub _ _ hmm]; exact hc
       · cases hc)

theorem dcells_after {m : Nat → Option O} {ks : List Nat} {av : AV} {ds : List D} {ks' : List Nat} (hc : dcells m av = some (ds, ks')) (hks : ∀ k ∈ ks', k ∉ ks) : dcells (upm m (kills ks)) av = some (ds, ks') := by
  unfold dcells at hc ⊢
  split at hc
  · exact hc
  · exact hc
  · rename_i id off len
    split at hc
    · rename_i ty sz rows hmm
      have : ks' = [id] := by injection hc with hc; simp only [Prod.mk.injEq] at hc; exact hc.2.symm
      subst this
      rw [upm_kills_other _ _ _ (hks id (by simp)), hmm]
      exact hc
    · cases hc
  · cases hc

theorem kills_append (a b : List Nat) : kills (a ++ b) = kills a ++ kills b := by simp [kills]

include hm in
/-- A slice literal's cells. -/
theorem putRows_sim (sz : Nat) (len : Nat) (ρ : Operand → AV) (hρ : ρ = σ.ev) : ∀ (parts : List (Nat × Operand)) (rows : List (List D)) (ks : List Nat) (rows' : List (List D)) (ks' : List Nat) (cells : Array Value),
    putRows m' sz (parts.map fun x => (x.1, ρ x.2)) rows ks = some (rows', ks') →
    Sim w0 A locs β { σ with m := upm σ.m (kills ks) } a w → rows.length = len → (∀ r ∈ rows, r.length = sz) → cells.size = len * sz →
    (∀ (i q : Nat) (r : List D) (d : D), rows[i]? = some r → r[q]? = some d → Rep w (Bl A β (upm σ.m (kills ks))) (cells.getD (i * sz + q) Go.undef) d) →
    ∃ cells', Instr.fill (fun i => some (i * sz, sz)) cells (parts.map fun x => (x.1, a.eval x.2)) = some cells' ∧ Sim w0 A locs β { σ with m := upm σ.m (kills ks') } a w ∧ rows'.length = len ∧
      (∀ r ∈ rows', r.length = sz) ∧ cells'.size = len * sz ∧ (∀ (i q : Nat) (r : List D) (d : D), rows'[i]? = some r → r[q]? = some d → Rep w (Bl A β (upm σ.m (kills ks'))) (cells'.getD (i * sz + q) Go.undef) d) := by
  subst hρ
  intro parts
  induction parts with
  | nil =>
    intro rows ks rows' ks' cells hp hs hl hr hc hrep
    simp only [List.map_nil, putRows, Option.some.injEq, Prod.mk.injEq] at hp
    obtain ⟨rfl, rfl⟩ := hp
    exact ⟨cells, rfl, hs, hl, hr, hc, hrep⟩
  | cons x parts ih =>
    intro rows ks rows' ks' cells hp hs hl hr hc hrep
    obtain ⟨i, x⟩ := x
    simp only [List.map_cons, putRows] at hp
    split at hp
    · rename_i ds ks1 hdc
      split at hp
      · rename_i hcond
        obtain ⟨h1, h2, h3⟩ := hcond
        have hdc' : dcells (upm σ.m (kills ks)) (σ.ev x) = some (ds, ks1) := dcells_after (dcells_sub hm hdc) h3
        obtain ⟨σ2, hσ2, hs2, hvs, _, hvr, hkeep⟩ := dcells_sim hs (fun _ _ h => h) hdc' (hs.ev x)
        have hm2 : σ2.m = upm σ.m (kills (ks ++ ks1)) := by rw [hσ2, kills_append, upm_append]
        have hs2' : Sim w0 A locs β { σ with m := upm σ.m (kills (ks ++ ks1)) } a w := by rw [← hm2]; subst hσ2; exact hs2
        have kk : Keeps w (Bl A β (upm σ.m (kills ks))) w (Bl A β (upm σ.m (kills (ks ++ ks1)))) := by
          refine ⟨Nat.le_refl _, fun _ _ _ => rfl, fun b _ hB hB' => hB ?_⟩
          rcases hB' with hA | ⟨j, oj, lj, e1, e2, e3, e4⟩
          · exact .inl hA
          · refine .inr ⟨j, oj, lj, ?_, e2, e3, e4⟩
            rw [kills_append, upm_append] at e1
            by_cases hj : j ∈ ks1
            · exfalso
              have : ∀ (m : Nat → Option O) (ks : List Nat), j ∈ ks → upm m (kills ks) j = some .gone := by
                intro m ks
                induction ks generalizing m with
                | nil => intro hj; cases hj
                | cons k ks ihk =>
                  intro hj
                  by_cases hjk : j ∈ ks
                  · exact ihk _ hjk
                  · have : j = k := by simp at hj; exact hj.resolve_right hjk
                    subst this
                    show upm (upd m j (some .gone)) (kills ks) j = _
                    rw [upm_kills_other _ _ _ hjk, upd_same]
              rw [this _ _ hj] at e1
              injection e1 with e1; subst e1; simp [O.live] at e2
            · rw [upm_kills_other _ _ _ hj] at e1; exact e1
        have hi : i * sz + sz ≤ cells.size := by
          have : (i + 1) * sz ≤ len * sz := Nat.mul_le_mul_right _ (by omega)
          rw [Nat.succ_mul] at this
          omega
        obtain ⟨hf1, hf2⟩ := fill1_at cells (i * sz) (a.eval x) (by rw [hvs, h1]; exact hi)
        obtain ⟨cells', hfill, r⟩ := ih (rows.set i ds) (ks ++ ks1) rows' ks' (fill1 cells (i * sz) (a.eval x)) hp hs2' (by simpa using hl)
          (fun r' hr' => by
            rcases List.mem_or_eq_of_mem_set hr' with h5 | h5
            · exact hr r' h5
            · rw [h5, h1]) (by rw [hf1, hc]) (fun i' q r' d hi' hq => by
            have hqs : q < sz := by
              have : r'.length = sz := by
                rcases List.mem_or_eq_of_mem_set (List.mem_of_getElem? hi') with h5 | h5
                · exact hr r' h5
                · rw [h5, h1]
              have := (List.getElem?_eq_some_iff.1 hq).1
              omega
            rw [hf2, hvs, h1]
            by_cases hii : i' = i
            · subst hii
              rw [List.getElem?_set_self (by omega)] at hi'
              injection hi' with hi'
              subst hi'
              rw [if_pos (by omega), Nat.add_sub_cancel_left]
              have := hvr q d hq
              rw [hm2] at this
              exact this
            · rw [List.getElem?_set_ne (Ne.symm hii)] at hi'
              have hno : ¬ (i * sz ≤ i' * sz + q ∧ i' * sz + q < i * sz + sz) := by
                rcases Nat.lt_or_gt_of_ne hii with h6 | h6
                · have : (i' + 1) * sz ≤ i * sz := Nat.mul_le_mul_right _ (by omega)
                  rw [Nat.succ_mul] at this
                  omega
                · have : (i + 1) * sz ≤ i' * sz := Nat.mul_le_mul_right _ (by omega)
                  rw [Nat.succ_mul] at this
                  omega
              rw [if_neg hno]
              exact (hrep i' q r' d hi' hq).keep kk)
        exact ⟨cells', by rw [List.map_cons, fill_cons _ _ _ _ _ (i * sz) sz rfl (by rw [hvs, h1]) hi]; exact hfill, r⟩
      · cases hp
    · cases hp

end
end Go.Am

/-! The abstract machine, part 10: literals and append stand for the model's. -/
namespace Go.Am
open Go

theorem fieldsB_places (P : Program) : ∀ (fl : List Field) (fs : List (Nat × Nat × Bool)), fieldsB P fl fs = true →
    fl.mapM (fun f => (P.info? f.type).map fun i => (f.offset, i.size)) = some (fs.map fun x => (x.1, x.2.1))
  | [], [], _ => by simp
  | [], _ :: _, h => by simp [fieldsB] at h
  | _ :: _, [], h => by simp [fieldsB] at h
  | f :: fl, x :: fs, h => by
    simp only [fieldsB, Bool.and_eq_true, decide_eq_true_eq] at h
    obtain ⟨⟨⟨⟨h1, h2⟩, _⟩, _⟩, h5⟩ := h
    cases hi : P.info? f.type with
    | none => simp [hi] at h2
    | some i =>
      simp [hi] at h2
      simp [List.mapM_cons, hi, fieldsB_places P fl fs h5, h1, h2]

section
variable {P : Program} {T : TypeId → Option TI} (hT : TOk P T) {w0 w : World} {A : Nat → Prop} {locs : List (Option Loc)} {β : Nat → Option Loc} {σ : S} {a : Act}
variable (h : Sim w0 A locs β σ a w) {o : Oper} (hd : ∀ d, o.dst = some d → d < σ.n) {K : Eff → Prop} {m' : Nat → Option O} (hm : ∀ id ob, m' id = some ob → σ.m id = some ob)
variable (hn : ∀ d, o.dst = some d → m' (nid σ.ep d) = none → σ.m (nid σ.ep d) = none)

theorem upm_kills_none (m : Nat → Option O) (i : Nat) : ∀ (ks : List Nat), (∀ k ∈ ks, m k ≠ none) → m i = none → upm m (kills ks) i = none := by
  intro ks hks hi
  rw [upm_kills_other _ _ _ (fun hmem => hks i hmem hi), hi]

theorem dcells_live {m : Nat → Option O} {av : AV} {ds : List D} {ks : List Nat} (hc : dcells m av = some (ds, ks)) : ∀ k ∈ ks, m k ≠ none := by
  unfold dcells at hc
  split at hc
  · split at hc
    · injection hc with hc; simp only [Prod.mk.injEq] at hc; obtain ⟨_, rfl⟩ := hc; intro k hk; cases hk
    · cases hc
  · split at hc
    · injection hc with hc; simp only [Prod.mk.injEq] at hc; obtain ⟨_, rfl⟩ := hc; intro k hk; cases hk
    · cases hc
  · split at hc
    · rename_i hmm
      injection hc with hc; simp only [Prod.mk.injEq] at hc; obtain ⟨_, rfl⟩ := hc
      intro k hk; simp at hk; subst hk; rw [hmm]; simp
    · cases hc
  · cases hc

theorem putRows_live {m : Nat → Option O} {sz : Nat} : ∀ (parts : List (Nat × AV)) (rows : List (List D)) (ks : List Nat) (rows' : List (List D)) (ks' : List Nat), putRows m sz parts rows ks = some (rows', ks') → (∀ k ∈ ks, m k ≠ none) → ∀ k ∈ ks', m k ≠ none
  | [], rows, ks, rows', ks', hp, hks => by
    simp only [putRows, Option.some.injEq, Prod.mk.injEq] at hp
    obtain ⟨_, rfl⟩ := hp; exact hks
  | (i, av) :: r, rows, ks, rows', ks', hp, hks => by
    simp only [putRows] at hp
    split at hp
    · rename_i ds ks1 hdc
      split at hp
      · refine putRows_live r _ _ _ _ hp fun k hk => ?_
        rcases List.mem_append.1 hk with h1 | h1
        · exact hks k h1
        · exact dcells_live hdc k h1
      · cases hp
    · cases hp

theorem putFields_live {m : Nat → Option O} {fs : List (Nat × Nat × Bool)} : ∀ (parts : List (Nat × AV)) (cells : List D) (ks : List Nat) (cells' : List D) (ks' : List Nat), putFields m fs parts cells ks = some (cells', ks') → (∀ k ∈ ks, m k ≠ none) → ∀ k ∈ ks', m k ≠ none
  | [], cells, ks, cells', ks', hp, hks => by
    simp only [putFields, Option.some.injEq, Prod.mk.injEq] at hp
    obtain ⟨_, rfl⟩ := hp; exact hks
  | (i, av) :: r, cells, ks, cells', ks', hp, hks => by
    simp only [putFields] at hp
    split at hp
    · rename_i o n b ds ks1 hf hdc
      split at hp
      · refine putFields_live r _ _ _ _ hp fun k hk => ?_
        rcases List.mem_append.1 hk with h1 | h1
        · exact hks k h1
        · exact dcells_live hdc k h1
      · cases hp
    · cases hp

include hT h hd hm hn in
theorem good_buildSlice {t : TypeId} {len : Nat} {parts : Array (Nat × Operand)} (ho : o.op = .buildSlice t len parts) (hk : opBuildSlice T m' σ.ep o t len (parts.toList.map fun x => (x.1, σ.ev x.2)) K) :
    Good P w0 A locs σ a w o K := by
  unfold opBuildSlice at hk
  split at hk
  · rename_i d e _ _ _ hdst ht
    have hu := hT.slice ht rfl
    split at hk
    · rename_i te hte
      obtain ⟨hlim, hpos, hzl, hid, hk⟩ := hk
      split at hk
      · rename_i rows ks hpr
        obtain ⟨i, z, hi, hsz, hby, hz, hzall⟩ := hT.info hte
        have hzs : z.cells.size = te.size := by have := (zall_rep w (fun _ => False) _ _ hzall).1; simpa [hzl] using this
        obtain ⟨z', hz0, hz1⟩ : ∃ z' : Array Value, (len * te.size = 0 → z' = #[]) ∧ (¬ len * te.size = 0 → z' = z.cells) := by
          by_cases h0 : len * te.size = 0
          · exact ⟨#[], fun _ => rfl, fun h1 => absurd h0 h1⟩
          · exact ⟨z.cells, fun h1 => absurd h1 h0, fun _ => rfl⟩
        have hz'' : len * te.size = 0 ∨ z' = z.cells := by
          by_cases h0 : len * te.size = 0
          · exact .inl h0
          · exact .inr (hz1 h0)
        have hcz : (madeCells z' (len * te.size)).size = len * te.size := size_madeCells _ _
        obtain ⟨cells', hfill, hs1, hl1, hr1, hc1, hrep1⟩ := putRows_sim hm te.size len σ.ev rfl parts.toList (List.replicate len te.zero) [] rows ks (madeCells z' (len * te.size)) hpr h (by simp)
          (fun r hr => by rw [List.eq_of_mem_replicate hr, hzl]) hcz (fun ii q r dd hii hq => by
            rw [List.getElem?_replicate] at hii
            split at hii
            · rename_i hlt
              injection hii with hii
              subst hii
              have hqs : q < te.size := by have := (List.getElem?_eq_some_iff.1 hq).1; omega
              have hz3 : z' = z.cells := hz''.resolve_left (fun e0 => by
                have : 0 < len * te.size := Nat.mul_pos (by omega) hpos
                omega)
              obtain ⟨v, hv, hrep⟩ := (zall_rep w (Bl A β (upm σ.m (kills []))) _ _ hzall).2 q dd hq
              have e5 : z.cells.getD q Go.undef = v := by
                have : z.cells[q]? = some v := by simpa using hv
                simp [Array.getD_eq_getD_getElem?, this]
              rw [hz3, madeCells_at z.cells len te.size hzs ii q hlt hqs, e5]
              exact hrep
            · cases hii)
        have hid' : upm σ.m (kills ks) (nid σ.ep d) = none := by
          refine upm_kills_none _ _ _ (fun k hk0 => ?_) (hn d hdst hid)
          have := putRows_live _ _ _ _ _ hpr (fun k hk => by cases hk) k hk0
          intro hno
          cases hmk : m' k with
          | none => exact this hmk
          | some ob => rw [hm _ _ hmk] at hno; cases hno
        have hs := hs1.new_ (id := nid σ.ep d) (o := .arr e te.size rows) (cs := cells') (ty := e) (l := ⟨w.heap.size, 0, len, none⟩) hid' rfl rfl
          (fun w' B' β' m'' k g h5 h6 h7 => ⟨hr1, hpos, .inr ⟨_, _, h5, h7, by simpa using hc1, by simp [hl1], by
              show len ≤ maxLen
              have : len ≤ len * te.size := Nat.le_mul_of_pos_right _ hpos
              unfold maxLen; omega, fun j dd hj => by
            obtain ⟨ii, q, r, hj', hq, hii, hrq⟩ := flat_inv rows hr1 j dd hj
            subst hj'
            simp only [Nat.zero_add]
            exact (hrep1 ii q r dd hii hrq).keep k⟩⟩)
        refine ⟨_, _, .slice (some ⟨w.heap.size, 0, none⟩) len len, _, hk, .inl ?_, Sim.app hd (by rw [upm_append]; exact hs) ?_⟩
        · have e1 : (parts.map fun x => (x.1, a.eval x.2)).toList = parts.toList.map fun x => (x.1, a.eval x.2) := by simp
          have hlim' : ¬ (len * te.size > 2 ^ 24) := by omega
          have hsz' : ∀ w : World, (sizeOf e).run P w = .ok te.size w := fun w => hT.sizeOf hte w
          have hrun : (Instr.buildSlice t len (parts.map fun x => (x.1, a.eval x.2))).run P w = .ok (.slice (some ⟨w.heap.size, 0, none⟩) len len) (w.alloc (.cells cells' e)) := by
            unfold Instr.buildSlice
            simp only [Sem.run_bind, run_underlying hu, Result.andThen_ok, hsz', if_neg hlim', e1]
            have hf2 : Instr.fill (fun i => some (i * te.size, te.size)) ((Array.range (len * te.size)).map (z'[· % z'.size]!)) (parts.toList.map fun x => (x.1, a.eval x.2)) = some cells' := hfill
            by_cases h0 : len * te.size = 0
            · have e5 := hz0 h0
              subst e5
              rw [if_pos h0]
              simp only [Sem.run_bind, Sem.run_pure, Result.andThen_ok, hf2, newRow, run_newObj]
              rfl
            · have e5 := hz1 h0
              subst e5
              have e6 : (zeroValue e).run P w = .ok z w := by simp [zeroValue, typeInfo, hi, hz]
              rw [if_neg h0]
              simp only [Sem.run_bind, Sem.run_pure, Result.andThen_ok, e6, hf2, newRow, run_newObj]
              rfl
          simp only [execOp, ho, Sem.run_bind]
          rw [hrun]
          rfl
        · simp only [upm_append, upm, AvRep, AvRep0, upd_same]
          exact ⟨by omega, .inr ⟨⟨w.heap.size, 0, len, none⟩, ⟨w.heap.size, 0, none⟩, rfl, by simp, Nat.zero_le _, fun _ => by simp⟩⟩
      · exact hk.elim
    · exact hk.elim
  · exact hk.elim

include hm in
/-- A struct literal's cells. -/
theorem putFields_sim (fs : List (Nat × Nat × Bool)) (N : Nat) (ρ : Operand → AV) (hρ : ρ = σ.ev) : ∀ (parts : List (Nat × Operand)) (ds : List D) (ks : List Nat) (ds' : List D) (ks' : List Nat) (cells : Array Value),
    putFields m' fs (parts.map fun x => (x.1, ρ x.2)) ds ks = some (ds', ks') →
    Sim w0 A locs β { σ with m := upm σ.m (kills ks) } a w → ds.length = N → cells.size = N →
    (∀ (j : Nat) (d : D), ds[j]? = some d → Rep w (Bl A β (upm σ.m (kills ks))) (cells.getD j Go.undef) d) →
    ∃ cells', Instr.fill ((fs.map fun x => (x.1, x.2.1)).toArray[·]?) cells (parts.map fun x => (x.1, a.eval x.2)) = some cells' ∧ Sim w0 A locs β { σ with m := upm σ.m (kills ks') } a w ∧ ds'.length = N ∧
      cells'.size = N ∧ (∀ (j : Nat) (d : D), ds'[j]? = some d → Rep w (Bl A β (upm σ.m (kills ks'))) (cells'.getD j Go.undef) d) := by
  subst hρ
  intro parts
  induction parts with
  | nil =>
    intro ds ks ds' ks' cells hp hs hl hc hrep
    simp only [List.map_nil, putFields, Option.some.injEq, Prod.mk.injEq] at hp
    obtain ⟨rfl, rfl⟩ := hp
    exact ⟨cells, rfl, hs, hl, hc, hrep⟩
  | cons x parts ih =>
    intro ds ks ds' ks' cells hp hs hl hc hrep
    obtain ⟨i, x⟩ := x
    simp only [List.map_cons, putFields] at hp
    split at hp
    · rename_i off n b vs ks1 hfi hdc
      split at hp
      · rename_i hcond
        obtain ⟨h1, h2, h3⟩ := hcond
        have hdc' : dcells (upm σ.m (kills ks)) (σ.ev x) = some (vs, ks1) := dcells_after (dcells_sub hm hdc) h3
        obtain ⟨σ2, hσ2, hs2, hvs, _, hvr, hkeep⟩ := dcells_sim hs (fun _ _ h => h) hdc' (hs.ev x)
        have hm2 : σ2.m = upm σ.m (kills (ks ++ ks1)) := by rw [hσ2, kills_append, upm_append]
        have hs2' : Sim w0 A locs β { σ with m := upm σ.m (kills (ks ++ ks1)) } a w := by rw [← hm2]; subst hσ2; exact hs2
        have kk : Keeps w (Bl A β (upm σ.m (kills ks))) w (Bl A β (upm σ.m (kills (ks ++ ks1)))) := by
          refine ⟨Nat.le_refl _, fun _ _ _ => rfl, fun b _ hB hB' => hB ?_⟩
          rcases hB' with hA | ⟨j, oj, lj, e1, e2, e3, e4⟩
          · exact .inl hA
          · refine .inr ⟨j, oj, lj, ?_, e2, e3, e4⟩
            rw [kills_append, upm_append] at e1
            by_cases hj : j ∈ ks1
            · exfalso
              have : ∀ (m : Nat → Option O) (ks : List Nat), j ∈ ks → upm m (kills ks) j = some .gone := by
                intro m ks
                induction ks generalizing m with
                | nil => intro hj; cases hj
                | cons k ks ihk =>
                  intro hj
                  by_cases hjk : j ∈ ks
                  · exact ihk _ hjk
                  · have : j = k := by simp at hj; exact hj.resolve_right hjk
                    subst this
                    show upm (upd m j (some .gone)) (kills ks) j = _
                    rw [upm_kills_other _ _ _ hjk, upd_same]
              rw [this _ _ hj] at e1
              injection e1 with e1; subst e1; simp [O.live] at e2
            · rw [upm_kills_other _ _ _ hj] at e1; exact e1
        obtain ⟨hf1, hf2⟩ := fill1_at cells off (a.eval x) (by rw [hvs, h1]; omega)
        obtain ⟨cells', hfill, r⟩ := ih (setAt ds off vs) (ks ++ ks1) ds' ks' (fill1 cells off (a.eval x)) hp hs2' (by rw [setAt_length _ _ _ (by omega), hl]) (by rw [hf1, hc]) (fun j d hj => by
            rw [setAt_get _ _ _ (by omega)] at hj
            rw [hf2, hvs]
            by_cases hin : off ≤ j ∧ j < off + vs.length
            · rw [if_pos hin] at hj
              rw [if_pos hin]
              have := hvr _ d hj
              rw [hm2] at this
              exact this
            · rw [if_neg hin] at hj
              rw [if_neg hin]
              exact (hrep j d hj).keep kk)
        exact ⟨cells', by rw [List.map_cons, fill_cons _ _ _ _ _ off n (by simp [hfi]) (by rw [hvs, h1]) (by omega)]; exact hfill, r⟩
      · cases hp
    · cases hp

theorem fill_le {p q : Nat → Option (Nat × Nat)} (h : ∀ i x, p i = some x → q i = some x) : ∀ (parts : List (Nat × Value)) (cells r : Array Value), Instr.fill p cells parts = some r → Instr.fill q cells parts = some r
  | [], _, _, hh => hh
  | (i, v) :: rest, cells, r, hh => by
    unfold Instr.fill at hh ⊢
    cases hp : p i with
    | none => rw [hp] at hh; cases hh
    | some x =>
      rw [hp] at hh
      rw [h i x hp]
      obtain ⟨off, size⟩ := x
      simp only at hh ⊢
      split at hh
      · cases hh
      · rename_i hc
        rw [if_neg hc]
        exact fill_le h rest _ _ hh

include h hm in
theorem putFieldsA_sim (fs : List (Nat × Nat × Bool)) : ∀ (parts : List (Nat × Operand)) (l l' : List AV) (cells : Array Value), putFieldsA m' fs (parts.map fun x => (x.1, σ.ev x.2)) l = some l' → cells.size = l.length →
    (∀ (j : Nat) (c : AV), l[j]? = some c → AvRep0 w (Bl A β σ.m) β σ.m c (cells.getD j Go.undef)) →
    ∃ cells', Instr.fill ((fs.map fun x => (x.1, x.2.1)).toArray[·]?) cells (parts.map fun x => (x.1, a.eval x.2)) = some cells' ∧ cells'.size = l'.length ∧ ∀ (j : Nat) (c : AV), l'[j]? = some c → AvRep0 w (Bl A β σ.m) β σ.m c (cells'.getD j Go.undef) := by
  intro parts
  induction parts with
  | nil =>
    intro l l' cells hp hl hrep
    simp only [List.map_nil, putFieldsA, Option.some.injEq] at hp
    subst hp
    exact ⟨cells, rfl, hl, hrep⟩
  | cons x parts ih =>
    intro l l' cells hp hl hrep
    obtain ⟨i, x⟩ := x
    simp only [List.map_cons, putFieldsA] at hp
    split at hp
    · rename_i off n b vs hfi hac
      split at hp
      · rename_i hcond
        obtain ⟨h1, h2⟩ := hcond
        have hca := acells_rep (acells_sub hm hac) (h.ev x)
        obtain ⟨hf1, hf2⟩ := fill1_at cells off (a.eval x) (by rw [hca.size, h1]; omega)
        obtain ⟨cells', hfill, r⟩ := ih (setAt l off vs) l' (fill1 cells off (a.eval x)) hp (by rw [setAt_length _ _ _ (by omega), hf1, hl]) (fun j c hj => by
            rw [setAt_get _ _ _ (by omega)] at hj
            rw [hf2, hca.size]
            by_cases hin : off ≤ j ∧ j < off + vs.length
            · rw [if_pos hin] at hj
              rw [if_pos hin]
              exact hca.rep _ c hj
            · rw [if_neg hin] at hj
              rw [if_neg hin]
              exact hrep j c hj)
        exact ⟨cells', by rw [List.map_cons, fill_cons _ _ _ _ _ off n (by simp [hfi]) (by rw [hca.size, h1]) (by omega)]; exact hfill, r⟩
      · cases hp
    · cases hp

include hT h hd hm in
theorem good_build {t : TypeId} {parts : Array (Nat × Operand)} (ho : o.op = .build t parts) (hk : opBuild T m' t (parts.toList.map fun x => (x.1, σ.ev x.2)) K) : Good P w0 A locs σ a w o K := by
  unfold opBuild at hk
  split at hk
  · rename_i fs sz by_ zero ht
    rcases hk with hk | hk
    case inr =>
      split at hk
      · rename_i cells hpf
        obtain ⟨i, z, hi, hsz, hby, hz, hzall⟩ := hT.info ht
        have hzr := zall_rep w (Bl A β σ.m) _ _ hzall
        obtain ⟨cells', hfill, hs1, hrep1⟩ := putFieldsA_sim hm fs (h := h) parts.toList (zero.map zcellAV) cells z.cells hpf (by simpa using hzr.1) (fun j c hj => by
          obtain ⟨v, hv, hr⟩ := zallAV_rep w (Bl A β σ.m) β σ.m _ _ hzall j c hj
          have : z.cells[j]? = some v := by simpa using hv
          simp only [Array.getD_eq_getD_getElem?, this, Option.getD_some]
          exact hr)
        have hdsc := hT.desc ht
        obtain ⟨fields, hu, _⟩ := hT.struct ht rfl
        have hfb : fieldsB P fields.toList fs = true := by
          unfold chkD at hdsc
          simpa [hu] using hdsc
        have hb : P.built t (parts.map fun x => (x.1, a.eval x.2)).toList = some cells' := by
          unfold Program.built
          simp only [hi, hu, hz, fieldsB_places P _ _ hfb]
          simpa using hfill
        refine ⟨_, _, .agg cells', w, hk, .inl ?_, Sim.app hd h ?_⟩
        · simp only [execOp, ho, Sem.run_bind]
          rw [run_build w t _ cells' hb]
          rfl
        · exact ⟨cells', rfl, hs1, hrep1⟩
      · exact hk.elim
    split at hk
    · rename_i ds ks hpf
      obtain ⟨i, z, hi, hsz, hby, hz, hzall⟩ := hT.info ht
      have hzr := zall_rep w (Bl A β (upm σ.m (kills []))) _ _ hzall
      obtain ⟨cells', hfill, hs1, hl1, hc1, hrep1⟩ := putFields_sim hm fs zero.length σ.ev rfl parts.toList zero [] ds ks z.cells hpf h rfl (by simpa using hzr.1) (fun j d hj => by
        obtain ⟨v, hv, hr⟩ := hzr.2 j d hj
        have : z.cells[j]? = some v := by simpa using hv
        simp only [Array.getD_eq_getD_getElem?, this, Option.getD_some]
        exact hr)
      have hdsc := hT.desc ht
      obtain ⟨fields, hu, _⟩ := hT.struct ht rfl
      have hfb : fieldsB P fields.toList fs = true := by
        unfold chkD at hdsc
        simpa [hu] using hdsc
      have hb : P.built t (parts.map fun x => (x.1, a.eval x.2)).toList = some cells' := by
        unfold Program.built
        simp only [hi, hu, hz, fieldsB_places P _ _ hfb]
        simpa using hfill
      refine ⟨_, _, .agg cells', w, hk, .inl ?_, Sim.app hd hs1 ?_⟩
      · simp only [execOp, ho, Sem.run_bind]
        rw [run_build w t _ cells' hb]
        rfl
      · exact (show Rep w _ (.agg cells') (.agg ds) from .agg _ _ (by omega) hrep1)
    · exact hk.elim
  · rename_i n e sz by_ zero ht
    split at hk
    · rename_i te hte
      split at hk
      · rename_i ds ks hpf
        obtain ⟨i, z, hi, hsz, hby, hz, hzall⟩ := hT.info ht
        obtain ⟨ie, ze, hie, hesz, _, _, _⟩ := hT.info hte
        have hzr := zall_rep w (Bl A β (upm σ.m (kills []))) _ _ hzall
        obtain ⟨cells', hfill, hs1, hl1, hc1, hrep1⟩ := putFields_sim hm _ zero.length σ.ev rfl parts.toList zero [] ds ks z.cells hpf h rfl (by simpa using hzr.1) (fun j d hj => by
          obtain ⟨v, hv, hr⟩ := hzr.2 j d hj
          have : z.cells[j]? = some v := by simpa using hv
          simp only [Array.getD_eq_getD_getElem?, this, Option.getD_some]
          exact hr)
        have hu := hT.array ht rfl
        have hfill2 := fill_le (q := fun i => some (i * ie.size, ie.size)) (fun j x hx => by
          simp only [List.map_map, List.getElem?_toArray, List.getElem?_map, Option.map_eq_some_iff] at hx
          obtain ⟨y, hy, rfl⟩ := hx
          have hy2 := (List.getElem?_eq_some_iff.1 hy).2
          simp at hy2
          subst hy2
          simp [hesz]) _ _ _ hfill
        have hb : P.built t (parts.map fun x => (x.1, a.eval x.2)).toList = some cells' := by
          unfold Program.built
          simp only [hi, hu, hz, hie]
          simpa using hfill2
        refine ⟨_, _, .agg cells', w, hk, .inl ?_, Sim.app hd hs1 ?_⟩
        · simp only [execOp, ho, Sem.run_bind]
          rw [run_build w t _ cells' hb]
          rfl
        · exact (show Rep w _ (.agg cells') (.agg ds) from .agg _ _ (by omega) hrep1)
      · exact hk.elim
    · exact hk.elim
  · exact hk.elim

end
end Go.Am

/-! The abstract machine, part 11: append stands for the model's. -/
namespace Go.Am
open Go

section
variable {P : Program} {T : TypeId → Option TI} (hT : TOk P T) {w0 w : World} {A : Nat → Prop} {locs : List (Option Loc)} {β : Nat → Option Loc} {σ : S} {a : Act}

/-- The block of an object that was given up is taken by a new one. -/
theorem Sim.retake (h : Sim w0 A locs β σ a w) {id id' : Nat} {o o' : O} {l l' : Loc} (hm : σ.m id = some o) (hlive : o.live = true) (hlive' : o'.live = true) (hl : β id = some l) (hb : ∀ b, l'.has b ↔ l.has b) (hid' : σ.m id' = none)
    (ho : ∀ (B' : Nat → Prop) (β' : Nat → Option Loc) (m' : Nat → Option O), Keeps w (Bl A β σ.m) w B' → Goes β σ.m β' m' → β' id' = some l' → m' id' = some o' → ObRep w B' β' m' id' o') :
    Sim w0 A locs (upd β id' (some l')) { σ with m := upd (upd σ.m id (some .gone)) id' (some o') } a w := by
  have hne : id' ≠ id := fun e => by subst e; rw [hid'] at hm; cases hm
  have hβ : ∀ i, i ≠ id' → upd β id' (some l') i = β i := fun i hi => upd_other _ _ hi
  have hold : ∀ i oi, upd (upd σ.m id (some .gone)) id' (some o') i = some oi → oi.live = true → (i = id' ∧ oi = o') ∨ (i ≠ id' ∧ i ≠ id ∧ σ.m i = some oi) := fun i oi hi hl' => by
    by_cases e : i = id'
    · subst e; rw [upd_same] at hi; injection hi with hi; exact .inl ⟨rfl, hi.symm⟩
    · rw [upd_other _ _ e] at hi
      by_cases e2 : i = id
      · subst e2; rw [upd_same] at hi; injection hi with hi; subst hi; simp [O.live] at hl'
      · rw [upd_other _ _ e2] at hi; exact .inr ⟨e, e2, hi⟩
  have g : Goes β σ.m (upd β id' (some l')) (upd (upd σ.m id (some .gone)) id' (some o')) := by
    intro i oi hi
    have hi' : i ≠ id' := fun e => by subst e; rw [hid'] at hi; cases hi
    by_cases e2 : i = id
    · subst e2
      exact ⟨.gone, by rw [upd_other _ _ hi', upd_same], oi.sub_gone, fun _ => hβ i hi'⟩
    · exact ⟨oi, by rw [upd_other _ _ hi', upd_other _ _ e2]; exact hi, oi.sub_refl, fun _ => hβ i hi'⟩
  have hBl : Bl A (upd β id' (some l')) (upd (upd σ.m id (some .gone)) id' (some o')) = Bl A β σ.m := by
    funext b
    apply propext
    constructor
    · rintro (hA | ⟨i, oi, li, h1, h2, h3, h4⟩)
      · exact .inl hA
      · rcases hold i oi h1 h2 with ⟨rfl, rfl⟩ | ⟨e1, e2, e3⟩
        · rw [upd_same] at h3; injection h3 with h3; subst h3
          exact .inr ⟨id, o, l, hm, hlive, hl, (hb b).1 h4⟩
        · rw [hβ i e1] at h3
          exact .inr ⟨i, oi, li, e3, h2, h3, h4⟩
    · rintro (hA | ⟨i, oi, li, h1, h2, h3, h4⟩)
      · exact .inl hA
      · by_cases e2 : i = id
        · subst e2
          rw [hl] at h3; injection h3 with h3; subst h3
          exact .inr ⟨id', o', l', upd_same _ _ _, hlive', upd_same _ _ _, (hb b).2 h4⟩
        · have hi' : i ≠ id' := fun e => by subst e; rw [hid'] at h1; cases h1
          exact .inr ⟨i, oi, li, by rw [upd_other _ _ hi', upd_other _ _ e2]; exact h1, h2, by rw [hβ i hi']; exact h3, h4⟩
  have k : Keeps w (Bl A β σ.m) w (Bl A (upd β id' (some l')) (upd (upd σ.m id (some .gone)) id' (some o'))) := by rw [hBl]; exact Keeps.refl _ _
  refine h.move k g (fun i oi hi => hβ i (fun e => by subst e; rw [hid'] at hi; cases hi)) ?_ ?_ ?_ h.fr
  · intro i oi hi hl'
    rcases hold i oi hi hl' with ⟨rfl, rfl⟩ | ⟨e1, e2, e3⟩
    · exact .inr (ho _ _ _ k g (upd_same _ _ _) (upd_same _ _ _))
    · exact .inl ⟨e3, fun _ _ _ _ => rfl⟩
  · intro i j oi oj li lj b h1 h2 h3 h4 h5 h6 h7 h8
    rcases hold i oi h1 h2 with ⟨rfl, rfl⟩ | ⟨e1, e2, e3⟩ <;> rcases hold j oj h4 h5 with ⟨rfl, rfl⟩ | ⟨f1, f2, f3⟩
    · rfl
    · exfalso
      rw [upd_same] at h3; injection h3 with h3; subst h3
      rw [hβ j f1] at h6
      exact f2 (h.inj j id oj o lj l b f3 h5 h6 hm hlive hl h8 ((hb b).1 h7))
    · exfalso
      rw [upd_same] at h6; injection h6 with h6; subst h6
      rw [hβ i e1] at h3
      exact e2 (h.inj i id oi o li l b e3 h2 h3 hm hlive hl h7 ((hb b).1 h8))
    · rw [hβ i e1] at h3
      rw [hβ j f1] at h6
      exact h.inj i j oi oj li lj b e3 h2 h3 f3 h5 h6 h7 h8
  · intro i oi li h1 h2 h3 b hbb
    rcases hold i oi h1 h2 with ⟨rfl, rfl⟩ | ⟨e1, e2, e3⟩
    · rw [upd_same] at h3; injection h3 with h3; subst h3
      exact h.new id o l hm hlive hl b ((hb b).1 hbb)
    · rw [hβ i e1] at h3
      exact h.new i oi li e3 h2 h3 b hbb

variable (h : Sim w0 A locs β σ a w) {o : Oper} (hd : ∀ d, o.dst = some d → d < σ.n) {K : Eff → Prop} {m' : Nat → Option O} (hm : ∀ id ob, m' id = some ob → σ.m id = some ob)
variable (hn : ∀ d, o.dst = some d → m' (nid σ.ep d) = none → σ.m (nid σ.ep d) = none)

include hT h in
/-- append onto an array of this call's own that did not come in, from cells that are read. -/
theorem append_sim {t e ty' id off len : Nat} {te : TI} {rows rows' : List (List D)} {nd : Nat} (hu : P.underlying t = some (.slice e)) (hte : T e = some te) (hmm : σ.m id = some (.arr e te.size rows)) (hfull : off + len = rows.length)
    (hnd : σ.m nd = none) {vx : Value} (hvx : AvRep0 w (Bl A β σ.m) β σ.m (.own id off len) vx)
    {ad : Option Addr} {n c : Nat} (hnl : n = rows'.length) (hsz : ∀ r ∈ rows', r.length = te.size) (hone : ∀ r ∈ rows', r.all D.one = true)
    (g : Nat → Value) (hsrc : 0 < n → ∃ b : Addr, ad = some b ∧ ∀ (j : Nat) (d : D), rows'.flatten[j]? = some d → w.cell? (b.add j) = some (g j))
    (hrep : ∀ (j : Nat) (d : D), rows'.flatten[j]? = some d → Rep w (Bl A β σ.m) (g j) d)
    (hbytes : (len + n) * te.bytes ≤ 140737488355328) (hmax : len + n ≤ 4611686018427387904) :
    ∃ v' w' β', (Builtin.append_ #[t, t] ty' #[vx, .slice ad n c]).run P w = .ok v' w' ∧
      Sim w0 A locs β' { σ with m := upd (upd σ.m id (some .gone)) nd (some (.arr e te.size (rows.drop off ++ rows'))) } a w' ∧
      AvRep0 w' (Bl A β' (upd (upd σ.m id (some .gone)) nd (some (.arr e te.size (rows.drop off ++ rows'))))) β' (upd (upd σ.m id (some .gone)) nd (some (.arr e te.size (rows.drop off ++ rows')))) (.own nd 0 (len + n)) v' := by
  obtain ⟨i, z, hi, hisz, hby, hz, hzall⟩ := hT.info hte
  obtain ⟨hrows, hpos, hob⟩ := h.ob id _ hmm
  have hzs : True := trivial
  have hlen' : rows'.flatten.length = n * te.size := by rw [flat_len rows' hsz, hnl]
  have hnews : ∀ r ∈ rows.drop off ++ rows', r.length = te.size := fun r hr => by
    rcases List.mem_append.1 hr with h1 | h1
    · exact hrows r (List.mem_of_mem_drop h1)
    · exact hsz r h1
  have hdl : (rows.drop off).length = len := by rw [List.length_drop]; omega
  have hlen : (rows.drop off ++ rows').length = len + n := by rw [List.length_append, hdl, hnl]
  -- the new cells as values
  have hnv : ((List.range rows'.flatten.length).map g).length = n * i.size := by rw [List.length_map, List.length_range, hlen', hisz]
  have hg1 : ∀ u ∈ (List.range rows'.flatten.length).map g, u.oneCell' = true := fun u hu => by
    simp only [List.mem_map, List.mem_range] at hu
    obtain ⟨j, hj, rfl⟩ := hu
    have hd := List.getElem?_eq_getElem hj
    refine Rep.one (hrep j _ hd) ?_
    obtain ⟨r, hr, hdr⟩ := List.mem_flatten.1 (List.getElem_mem hj)
    exact (List.all_eq_true.1 (hone r hr)) _ hdr
  have hgat : ∀ (j : Nat) (u : Value), ((List.range rows'.flatten.length).map g)[j]? = some u → j < rows'.flatten.length ∧ u = g j := fun j u hu => by
    simp only [List.getElem?_map, Option.map_eq_some_iff] at hu
    obtain ⟨k, hk, rfl⟩ := hu
    obtain ⟨h1, h2⟩ := List.getElem?_eq_some_iff.1 hk
    simp at h1 h2
    subst h2
    exact ⟨by simpa using h1, rfl⟩
  have hcells : 0 < n → ∃ b : Addr, ad = some b ∧ ∀ (j : Nat) (u : Value), ((List.range rows'.flatten.length).map g)[j]? = some u → w.cell? (b.add j) = some u := fun hn0 => by
    obtain ⟨b, hb, hc⟩ := hsrc hn0
    refine ⟨b, hb, fun j u hu => ?_⟩
    obtain ⟨h1, rfl⟩ := hgat j u hu
    exact hc j _ (List.getElem?_eq_getElem h1)
  have hgetg : ∀ (q : Nat), q < rows'.flatten.length → ((List.range rows'.flatten.length).map g).getD q Go.undef = g q := fun q hq => by
    simp only [List.getD_eq_getElem?_getD, List.getElem?_map, List.getElem?_range hq, Option.map_some, Option.getD_some]
  -- what a new block with the old and the new cells comes to
  have fresh : ∀ (olds : List Value) (w1 : World) (rest : Array Value) (tot : Nat), w1.heap = w.heap → w1.os = w.os → w1.tape = w.tape → w1.output = w.output → w.drawn ≤ w1.drawn → olds.length = len * te.size →
      (∀ (j : Nat) (d : D), (rows.drop off).flatten[j]? = some d → Rep w (Bl A β σ.m) (olds.getD j Go.undef) d) → len + n ≤ tot → tot ≤ maxLen → rest.size = (tot - (len + n)) * te.size →
      Sim w0 A locs (upd β nd (some ⟨w.heap.size, 0, tot, none⟩)) { σ with m := upd (upd σ.m id (some .gone)) nd (some (.arr e te.size (rows.drop off ++ rows'))) } a
        (w1.alloc (.cells (olds.toArray ++ ((List.range rows'.flatten.length).map g).toArray ++ rest) e)) := by
    intro olds w1 rest tot hh hos htp hout hdr hol hor htot htm hrest
    have h1 := (h.world (w' := w1) hh hos htp hout hdr)
    have hk := h1.kill hmm
    have hnd' : upd σ.m id (some .gone) nd = none := by rw [upd_other _ _ (fun e => by subst e; rw [hnd] at hmm; cases hmm)]; exact hnd
    have kk : Keeps w (Bl A β σ.m) w1 (Bl A β (upd σ.m id (some .gone))) := by
      refine ⟨by rw [hh]; exact Nat.le_refl _, fun _ _ _ => by rw [hh], fun b _ hB hB' => hB ?_⟩
      rcases hB' with hA | ⟨ii, oi, li, e1, e2, e3, e4⟩
      · exact .inl hA
      · by_cases e : ii = id
        · subst e; rw [upd_same] at e1; injection e1 with e1; subst e1; simp [O.live] at e2
        · rw [upd_other _ _ e] at e1; exact .inr ⟨ii, oi, li, e1, e2, e3, e4⟩
    refine hk.new_ (o := .arr e te.size (rows.drop off ++ rows')) (l := ⟨w.heap.size, 0, tot, none⟩) hnd' (by rw [hh]) rfl (fun w' B' β' m'' k gg h5 h6 h7 => ⟨hnews, hpos, .inr ⟨_, _, h5, h7, ?_, by rw [hlen]; exact htot, htm, fun j d hj => ?_⟩⟩)
    · simp only [Array.size_append, List.size_toArray, hol, hnv, hisz, hrest, Nat.zero_add, ← Nat.add_mul]
      congr 1; omega
    · simp only [Nat.zero_add]
      rw [List.flatten_append, List.getElem?_append] at hj
      have hfl : (rows.drop off).flatten.length = len * te.size := by rw [flat_len (sz := te.size) _ (fun r hr => hrows r (List.mem_of_mem_drop hr)), hdl]
      rw [hfl] at hj
      have eget : ∀ q, (olds.toArray ++ ((List.range rows'.flatten.length).map g).toArray ++ rest).getD q Go.undef = if q < len * te.size then olds.getD q Go.undef else if q < len * te.size + n * te.size then ((List.range rows'.flatten.length).map g).getD (q - len * te.size) Go.undef else rest.getD (q - (len * te.size + n * te.size)) Go.undef := fun q => by
        simp only [Array.getD_eq_getD_getElem?, List.getD_eq_getElem?_getD, Array.getElem?_append, Array.size_append, List.size_toArray, hol, hnv, hisz]
        by_cases q1 : q < len * te.size
        · rw [if_pos (by omega), if_pos q1, if_pos q1]; simp
        · by_cases q2 : q < len * te.size + n * te.size
          · rw [if_pos q2, if_neg q1, if_neg q1, if_pos q2]; simp
          · rw [if_neg q2, if_neg q1, if_neg q2]
      rw [eget]
      split at hj
      · rename_i hjl
        rw [if_pos hjl]
        exact ((hor j d hj).keep kk).keep k
      · rename_i hjl
        have hjr := (List.getElem?_eq_some_iff.1 hj).1
        rw [if_neg hjl, if_pos (by omega), hgetg _ hjr]
        exact ((hrep _ d hj).keep kk).keep k
  have hfresh_av : ∀ (β1 : Nat → Option Loc) (B1 : Nat → Prop) (m1 : Nat → Option O) (w1 : World) (tot : Nat), β1 nd = some ⟨w.heap.size, 0, tot, none⟩ → m1 nd = some (.arr e te.size (rows.drop off ++ rows')) → AvRep0 w1 B1 β1 m1 (.own nd 0 (len + n)) (.slice (some ⟨w.heap.size, 0, none⟩) (len + n) tot) := by
    intro β1 B1 m1 w1 tot e1 e2
    simp only [AvRep0, e2]
    exact ⟨by omega, .inr ⟨_, ⟨w.heap.size, 0, none⟩, e1, by simp, Nat.zero_le _, fun _ => by simp⟩⟩
  simp only [AvRep0, hmm] at hvx
  obtain ⟨hle, hvx⟩ := hvx
  have h63 : len + n ≤ maxLen := by unfold maxLen; omega
  have hne : nd ≠ id := fun e => by subst e; rw [hnd] at hmm; cases hmm
  have hnd' : upd σ.m id (some .gone) nd = none := by rw [upd_other _ _ hne]; exact hnd
  have hzc : z.cells.size = te.zero.length := by have := (zall_rep w (fun _ => False) _ _ hzall).1; simpa using this
  have hfirst : ∀ w : World, n = 0 → (Builtin.firstCells i.size 0 (.slice ad 0 c)).run P w = .ok #[] w := fun w _ => by
    cases ad <;> simp [Builtin.firstCells, loadCells, loadCellsFrom]
  rcases hvx with ⟨hβ, rfl⟩ | ⟨l, ad0, hβ, rfl, hot, had⟩
  · have hrn : rows = [] := by
      rcases hob with ⟨_, hrn⟩ | ⟨l, cs, hβ', _⟩
      · exact hrn
      · rw [hβ] at hβ'; cases hβ'
    subst hrn
    have e0 : off = 0 := by simp at hfull; omega
    have e1 : len = 0 := by simp at hfull; omega
    subst e0 e1
    by_cases hn0 : n = 0
    · subst hn0
      have hr0 : rows' = [] := List.eq_nil_of_length_eq_zero hnl.symm
      subst hr0
      have hk := (h.kill hmm).newNil e te.size (id := nd) hnd' hpos
      refine ⟨.slice none 0 0, w, _, ?_, hk, ?_⟩
      · simp [Builtin.append_, run_underlying hu, sizeOf, typeInfo, hi, Builtin.lenOf, hfirst w rfl]
      · simp only [AvRep0, upd_same]
        exact ⟨by simp, .inl ⟨trivial, trivial⟩⟩
    · obtain ⟨b, rfl, hcb⟩ := hcells (by omega)
      have hr := run_append_nil (P := P) w t ty' e i z hu hi hz b n c _ hnv hcb (by omega) (by omega) (by rw [hby]; simp at hbytes; omega)
      have hge := grownCap_ge w n 0 e
      have hcm : grownCap w n 0 e ≤ maxLen := grownCap_le_maxLen w n 0 e (by unfold maxLen; omega)
      have hs := fresh [] w.drew (Builtin.zeroCells z.cells (grownCap w n 0 e - n)) (grownCap w n 0 e) rfl rfl rfl rfl (Nat.le_succ _) (by simp) (fun j d hj => by simp at hj) (by omega) hcm (by rw [size_zeroCells, hzc, hT.zlen hte]; simp only [Nat.zero_add])
      refine ⟨_, _, upd β nd (some ⟨w.heap.size, 0, grownCap w n 0 e, none⟩), hr, ?_, ?_⟩
      · simpa using hs
      · have := hfresh_av (upd β nd (some ⟨w.heap.size, 0, grownCap w n 0 e, none⟩)) (Bl A (upd β nd (some ⟨w.heap.size, 0, grownCap w n 0 e, none⟩)) (upd (upd σ.m id (some .gone)) nd (some (.arr e te.size (List.drop 0 [] ++ rows'))))) (upd (upd σ.m id (some .gone)) nd (some (.arr e te.size (List.drop 0 [] ++ rows'))))
          (w.drew.alloc (.cells (((List.range rows'.flatten.length).map g).toArray ++ Builtin.zeroCells z.cells (grownCap w n 0 e - n)) e)) _ (upd_same β nd (some ⟨w.heap.size, 0, grownCap w n 0 e, none⟩)) (upd_same _ _ _)
        simpa only [Nat.zero_add] using this
  · rcases hob with ⟨hβ', _⟩ | ⟨l', cs, hβ', hheap, hcsz, hrt, htm, hcs⟩
    · rw [hβ] at hβ'; cases hβ'
    · rw [hβ] at hβ'; injection hβ' with hβ'; subst hβ'
      have hfl : (rows.drop off).flatten = rows.flatten.drop (off * te.size) := flat_drop rows hrows off
      have hoffle : off * te.size + (l.tot - off) * te.size = l.tot * te.size := by rw [← Nat.add_mul]; congr 1; omega
      have hob2 : ∀ (w2 : World) (B0 : Nat → Prop) (cs2 : Array Value) (rows2 : List (List D)), (∀ r ∈ rows2, r.length = te.size) → w2.heap[l.b]? = some (.cells cs2 e (0, 0)) → cs2.size = l.base + l.tot * te.size → rows2.length ≤ l.tot - off →
          (∀ (j : Nat) (d : D), rows2.flatten[j]? = some d → Rep w2 B0 (cs2.getD (l.base + off * te.size + j) Go.undef) d) →
          ∀ (B' : Nat → Prop) (β' : Nat → Option Loc) (m'' : Nat → Option O), Keeps w2 B0 w2 B' → β' nd = some ⟨l.b, l.base + off * te.size, l.tot - off, l.rg⟩ →
            ObRep w2 B' β' m'' nd (.arr e te.size rows2) := by
        intro w2 B0 cs2 rows2 hr2 hh2 hs2 hl2 hrep2 B' β' m'' k e1
        refine ⟨hr2, hpos, .inr ⟨_, cs2, e1, hh2, ?_, hl2, by show l.tot - off ≤ maxLen; omega, fun j d hj => (hrep2 j d hj).keep k⟩⟩
        show cs2.size = l.base + off * te.size + (l.tot - off) * te.size
        rw [hs2]; omega
      have hav2 : ∀ (w2 : World) (B' : Nat → Prop) (β' : Nat → Option Loc) (m'' : Nat → Option O), β' nd = some ⟨l.b, l.base + off * te.size, l.tot - off, l.rg⟩ → m'' nd = some (.arr e te.size (rows.drop off ++ rows')) → AvRep0 w2 B' β' m'' (.own nd 0 (len + n)) (.slice (some ad0) (len + n) (l.tot - off)) := by
        intro w2 B' β' m'' e1 e2
        simp only [AvRep0, e2]
        refine ⟨by omega, .inr ⟨_, ad0, e1, rfl, Nat.zero_le _, fun hp => ?_⟩⟩
        have hp' : 0 < l.tot - off := hp
        rw [had (by omega)]
        simp
      have hupd : ∀ (x : O), upd (upd (upd σ.m id (some x)) id (some .gone)) nd (some (.arr e te.size (rows.drop off ++ rows'))) = upd (upd σ.m id (some .gone)) nd (some (.arr e te.size (rows.drop off ++ rows'))) := fun x => by
        funext q
        simp only [upd]
        split
        · rfl
        · split <;> rfl
      have holdrep : ∀ (j : Nat) (d : D), (rows.drop off).flatten[j]? = some d → Rep w (Bl A β σ.m) (cs.getD (l.base + off * te.size + j) Go.undef) d := fun j d hj => by
        rw [hfl, List.getElem?_drop] at hj
        have := hcs _ d hj
        rwa [← Nat.add_assoc] at this
      have hdropl : (rows.drop off).flatten.length = len * te.size := by rw [flat_len (sz := te.size) _ (fun r hr => hrows r (List.mem_of_mem_drop hr)), hdl]
      by_cases hn0 : n = 0
      · subst hn0
        have hr0 : rows' = [] := List.eq_nil_of_length_eq_zero hnl.symm
        subst hr0
        have hs := h.retake (o' := .arr e te.size (rows.drop off ++ [])) (l' := ⟨l.b, l.base + off * te.size, l.tot - off, l.rg⟩) hmm rfl rfl hβ (fun _ => Iff.rfl) hnd
          (fun B' β' m'' k _ e1 _ => hob2 w _ cs _ hnews hheap hcsz (by omega) (fun j d hj => holdrep j d (by simpa using hj)) B' β' m'' k e1)
        refine ⟨.slice (some ad0) len (l.tot - off), w, _, ?_, hs, hav2 _ _ _ _ (upd_same _ _ _) (upd_same _ _ _)⟩
        have hle2 : len ≤ l.tot - off := by omega
        simp [Builtin.append_, run_underlying hu, sizeOf, typeInfo, hi, Builtin.lenOf, hfirst w rfl, hle2, storeCells]
      · obtain ⟨b, rfl, hcb⟩ := hcells (by omega)
        by_cases hroom : len + n ≤ l.tot - off
        · have had' := had (by omega)
          subst had'
          have hmul : (len + n) * te.size ≤ (l.tot - off) * te.size := Nat.mul_le_mul_right _ hroom
          have hmul2 : (len + n) * te.size = len * te.size + n * te.size := Nat.add_mul _ _ _
          have hoffn : off * te.size + len * te.size = rows.length * te.size := by rw [← Nat.add_mul, hfull]
          obtain ⟨w', cs', hr, hh, hsz', hcs', hoth, hws, hos, htp, hout, hdr⟩ := run_append_room' (P := P) (w := w) t ty' e i hu hi l.b (l.base + off * te.size) len (l.tot - off) cs hheap b n c _ hnv hcb hg1 hroom (by rw [hnv, hisz]; omega)
          rw [hnv, hisz] at hcs'
          have hallrows : ∀ r ∈ rows ++ rows', r.length = te.size := fun r hr => by
            rcases List.mem_append.1 hr with h1 | h1
            · exact hrows r h1
            · exact hsz r h1
          have hrfl : rows.flatten.length = rows.length * te.size := flat_len rows hrows
          have hcell : ∀ (k : Keeps w (Bl A β σ.m) w' (Bl A β σ.m)) (j : Nat) (d : D), (rows ++ rows').flatten[j]? = some d → Rep w' (Bl A β σ.m) (cs'.getD (l.base + j) Go.undef) d := by
            intro k j d hj
            rw [List.flatten_append, List.getElem?_append, hrfl] at hj
            rw [hcs']
            split at hj
            · rename_i hjl
              rw [if_neg (by omega)]
              exact (hcs j d hj).keep k
            · rename_i hjl
              have hjr := (List.getElem?_eq_some_iff.1 hj).1
              rw [if_pos (by omega)]
              have e7 : l.base + j - (l.base + off * te.size + len * te.size) = j - rows.length * te.size := by omega
              rw [e7, hgetg _ hjr]
              exact (hrep _ d hj).keep k
          have hs1 := h.write (o' := .arr e te.size (rows ++ rows')) hmm rfl rfl (.inr ⟨_, _, rfl, by simp⟩) hβ (fun b hb => hoth b (fun e => hb (.inl e.symm))) hws hos htp hout (Nat.le_of_eq hdr.symm) (fun k g => ⟨hallrows, hpos, .inr ⟨l, cs', hβ, hh, by rw [hsz', hcsz], by rw [List.length_append]; omega, htm, hcell k⟩⟩)
          have kw : Keeps w (Bl A β σ.m) w' (Bl A β σ.m) := ⟨by omega, fun b' _ hB => hoth b' (fun e => hB (.inr ⟨id, _, l, hmm, rfl, hβ, .inl e.symm⟩)), fun _ _ h => h⟩
          have hs2 := hs1.retake (id := id) (o' := .arr e te.size (rows.drop off ++ rows')) (l' := ⟨l.b, l.base + off * te.size, l.tot - off, l.rg⟩) (upd_same _ _ _) rfl rfl hβ (fun _ => Iff.rfl) (by show upd σ.m id _ nd = none; rw [upd_other _ _ hne]; exact hnd)
            (fun B' β' m'' k _ e1 _ => by
              have hBl : ∀ x, Bl A β (upd σ.m id (some (.arr e te.size (rows ++ rows')))) x → Bl A β σ.m x := by
                rintro x (hA | ⟨ii, oi, li, f1, f2, f3, f4⟩)
                · exact .inl hA
                · by_cases e' : ii = id
                  · subst e'; exact .inr ⟨ii, _, li, hmm, rfl, f3, f4⟩
                  · rw [upd_other _ _ e'] at f1; exact .inr ⟨ii, oi, li, f1, f2, f3, f4⟩
              refine hob2 w' (Bl A β (upd σ.m id (some (.arr e te.size (rows ++ rows'))))) cs' _ hnews hh (by rw [hsz', hcsz]) (by omega) (fun j d hj => ?_) B' β' m'' k e1
              have h9 : (rows ++ rows').flatten[off * te.size + j]? = some d := by
                rw [← List.getElem?_drop, ← flat_drop _ hallrows, List.drop_append_of_le_length (by omega)]
                exact hj
              have h10 := hcell kw _ d h9
              rw [← Nat.add_assoc] at h10
              exact h10.keep ⟨Nat.le_refl _, fun _ _ _ => rfl, fun x _ hx hx' => hx (hBl x hx')⟩)
          refine ⟨_, w', upd β nd (some ⟨l.b, l.base + off * te.size, l.tot - off, l.rg⟩), hr, ?_, ?_⟩
          · have := hs2
            simp only [hupd] at this
            exact this
          · have := hav2 w' (Bl A (upd β nd (some ⟨l.b, l.base + off * te.size, l.tot - off, l.rg⟩)) (upd (upd σ.m id (some .gone)) nd (some (.arr e te.size (rows.drop off ++ rows'))))) _ _ (upd_same β nd (some ⟨l.b, l.base + off * te.size, l.tot - off, l.rg⟩)) (upd_same (upd σ.m id (some .gone)) nd (some (.arr e te.size (rows.drop off ++ rows'))))
            exact this
        · have hbytes' : (len + n) * i.bytes ≤ 140737488355328 := by rw [hby]; exact hbytes
          have hol : ((List.range (len * te.size)).map fun j => cs.getD (l.base + off * te.size + j) Go.undef).length = len * i.size := by rw [List.length_map, List.length_range, hisz]
          have hoat : ∀ q, q < len * te.size → ((List.range (len * te.size)).map fun j => cs.getD (l.base + off * te.size + j) Go.undef).getD q Go.undef = cs.getD (l.base + off * te.size + q) Go.undef := fun q hq => by
            simp only [List.getD_eq_getElem?_getD, List.getElem?_map, List.getElem?_range hq, Option.map_some, Option.getD_some]
          have hoffn : off * te.size + len * te.size = rows.length * te.size := by rw [← Nat.add_mul, hfull]
          have hrtm : rows.length * te.size ≤ l.tot * te.size := Nat.mul_le_mul_right _ hrt
          have hocell : ∀ (j : Nat) (v : Value), ((List.range (len * te.size)).map fun j => cs.getD (l.base + off * te.size + j) Go.undef)[j]? = some v → w.cell? (ad0.add j) = some v := fun j v hj => by
            simp only [List.getElem?_map, Option.map_eq_some_iff] at hj
            obtain ⟨k, hk, rfl⟩ := hj
            obtain ⟨h1, h2⟩ := List.getElem?_eq_some_iff.1 hk
            simp at h1 h2
            subst h2
            have hlpos : 0 < len := by
              rcases Nat.eq_zero_or_pos len with h0 | h0
              · subst h0; simp at h1
              · exact h0
            rw [had (by omega), add_spot rfl]
            exact run_load_at hheap (by show l.base + off * te.size + j < _; omega)
          have hr := run_append_grow (P := P) w t ty' e i z hu hi hz ad0 len (l.tot - off) _ hol hocell b n c _ hnv hcb (by omega) (by omega) (growslice_fits (by omega) hbytes')
          have hge := grownCap_ge w (len + n) (l.tot - off) e
          have hcm : grownCap w (len + n) (l.tot - off) e ≤ maxLen := grownCap_le_maxLen w _ _ e h63
          have hs := fresh _ w.drew (Builtin.zeroCells z.cells (grownCap w (len + n) (l.tot - off) e - (len + n))) (grownCap w (len + n) (l.tot - off) e) rfl rfl rfl rfl (Nat.le_succ _) (by rw [hol, hisz]) (fun j d hj => by
            have hjl := (List.getElem?_eq_some_iff.1 hj).1
            rw [hoat j (by omega)]
            exact holdrep j d hj) hge hcm (by rw [size_zeroCells, hzc, hT.zlen hte])
          exact ⟨_, _, _, hr, hs, hfresh_av _ _ _ _ _ (upd_same _ _ _) (upd_same _ _ _)⟩

include hT h hd hm hn in
theorem good_append {t : TypeId} {x y : Operand} (ho : o.op = .call { callee := .builtin .append, args := #[x, y], argTypes := #[t, t] }) (hk : opAppend T m' σ.ep o t (σ.ev x) (σ.ev y) K) : Good P w0 A locs σ a w o K := by
  have hrun : ∀ (v' : Value) (w' : World), (Builtin.append_ #[t, t] o.type #[a.eval x, a.eval y]).run P w = .ok v' w' → (execOp a.eval o).run P w = .ok (.value v') w' := fun v' w' hr => by
    simp only [execOp, ho, resolve, invoke, builtin, Sem.run_bind, Sem.run_pure, Result.andThen_ok, List.map_toArray, List.map_cons, List.map_nil, hr]
  have hx := h.ev x
  have hy := h.ev y
  unfold opAppend at hk
  split at hk
  · rename_i d e _ _ _ id off len hdst ht ex
    have hu := hT.slice ht rfl
    rw [ex] at hx
    split at hk
    · rename_i te ty sz rows hte hmm
      have hmm' := hm _ _ hmm
      obtain ⟨rfl, rfl, hfull, hnd, hk⟩ := hk
      split at hk
      · rename_i rows' ey
        rw [ey] at hy
        obtain ⟨hrr, hbytes, hmax, hK⟩ := hk
        obtain ⟨ad, n, c, hv, hnl, hrest⟩ := rep_list hy
        subst hnl
        have hg : ∃ g : Nat → Value, (0 < rows'.length → ∃ b : Addr, ad = some b ∧ ∀ (j : Nat) (dd : D), rows'.flatten[j]? = some dd → w.cell? (b.add j) = some (g j)) ∧ (∀ (j : Nat) (dd : D), rows'.flatten[j]? = some dd → Rep w (Bl A β σ.m) (g j) dd) := by
          by_cases h0 : 0 < rows'.length
          · obtain ⟨b, _, g, hb, _, _, _, _, _, hc, hr⟩ := hrest h0
            exact ⟨g, fun _ => ⟨b, hb, fun j dd hj => (hc j dd hj).1⟩, hr⟩
          · have : rows' = [] := List.eq_nil_of_length_eq_zero (by omega)
            subst this
            exact ⟨fun _ => Go.undef, fun h1 => absurd h1 h0, fun j dd hj => by simp at hj⟩
        obtain ⟨g, hsrc, hrep⟩ := hg
        obtain ⟨v', w', β', hr, hs, hav⟩ := append_sim (ty' := o.type) (c := c) hT h hu hte hmm' hfull (hn d hdst hnd) hx rfl (fun r hr => (hrr r hr).1) (fun r hr => (hrr r hr).2) g hsrc hrep hbytes hmax
        exact ⟨_, β', v', w', hK, .inl (hrun v' w' (by rw [hv]; exact hr)), Sim.app hd hs hav⟩
      · rename_i id2 off2 len2 ey
        rw [ey] at hy
        split at hk
        · rename_i ty2 sz2 rows2 hmm2
          have hmm2' := hm _ _ hmm2
          obtain ⟨rfl, hle2, hne2, hone, hbytes, hmax, hK⟩ := hk
          have hview := own_view h hmm2' hy (B' := fun b => Bl A β σ.m b ∧ ∀ l, β id2 = some l → l.b ≠ b) (fun b _ hB hB' => hB hB'.1) (fun l hl hB' => hB'.2 l hl rfl)
          obtain ⟨ad, n, c, hv, hnl, hrest⟩ := rep_list hview
          have hll : ((rows2.drop off2).take len2).length = len2 := by rw [List.length_take, List.length_drop]; omega
          rw [hll] at hnl
          subst hnl
          have hob2 := h.ob id2 _ hmm2'
          have hg : ∃ g : Nat → Value, (0 < n → ∃ b : Addr, ad = some b ∧ ∀ (j : Nat) (dd : D), ((rows2.drop off2).take n).flatten[j]? = some dd → w.cell? (b.add j) = some (g j)) ∧ (∀ (j : Nat) (dd : D), ((rows2.drop off2).take n).flatten[j]? = some dd → Rep w (Bl A β σ.m) (g j) dd) := by
            by_cases h0 : 0 < n
            · obtain ⟨b, sz3, g, hb, _, hrows3, hblt, hB3, hsp, hc, hr⟩ := hrest h0
              refine ⟨g, fun _ => ⟨b, hb, fun j dd hj => (hc j dd hj).1⟩, fun j dd hj => ?_⟩
              obtain ⟨hrows2, hpos2, hob2⟩ := hob2
              have hcg := hc j dd hj
              simp only [AvRep, AvRep0, hmm2'] at hy
              obtain ⟨_, hy⟩ := hy
              rcases hy with ⟨hβ2, hv2⟩ | ⟨l2, ad2, hβ2, hv2, hot2, had2⟩
              · rw [hv2] at hv; cases hv; omega
              · rcases hob2 with ⟨hβ3, _⟩ | ⟨l3, cs3, hβ3, hheap3, hsz3, hrt3, _, hcs3⟩
                · rw [hβ2] at hβ3; cases hβ3
                · rw [hβ2] at hβ3; injection hβ3 with hβ3; subst hβ3
                  rw [hv2] at hv
                  injection hv with hv1 hv2' hv3
                  rw [hb] at hv1; injection hv1 with hv1; subst hv1
                  have had2 := had2 (by omega)
                  subst had2
                  have hj2 : rows2.flatten[off2 * te.size + j]? = some dd := by
                    rw [flat_take (sz := te.size) _ (fun r hr => hrows2 r (List.mem_of_mem_drop hr)), flat_drop rows2 hrows2] at hj
                    rw [List.getElem?_take] at hj
                    split at hj
                    · rwa [List.getElem?_drop] at hj
                    · cases hj
                  have hlt3 : off2 * te.size + j < rows2.length * te.size := by rw [← flat_len rows2 hrows2]; exact (List.getElem?_eq_some_iff.1 hj2).1
                  have hm3 : rows2.length * te.size ≤ l2.tot * te.size := Nat.mul_le_mul_right _ hrt3
                  rw [add_spot rfl, run_load_at hheap3 (by show l2.base + off2 * te.size + j < _; omega)] at hcg
                  have hcg := hcg.1
                  injection hcg with hcg
                  have := hcs3 _ dd hj2
                  rw [← Nat.add_assoc, hcg] at this
                  exact this
            · have h00 : n = 0 := by omega
              subst h00
              exact ⟨fun _ => Go.undef, fun h1 => absurd h1 h0, fun j dd hj => by simp at hj⟩
          obtain ⟨g, hsrc, hrep⟩ := hg
          have hsz3 : ∀ r ∈ (rows2.drop off2).take n, r.length = te.size := fun r hr => hob2.1 r (List.mem_of_mem_drop (List.mem_of_mem_take hr))
          obtain ⟨v', w', β', hr, hs, hav⟩ := append_sim (ty' := o.type) (c := c) hT h hu hte hmm' hfull (hn d hdst hnd) hx hll.symm hsz3 hone g hsrc hrep hbytes hmax
          exact ⟨_, β', v', w', hK, .inl (hrun v' w' (by rw [hv]; exact hr)), Sim.app hd hs hav⟩
        · exact hk.elim
      · exact hk.elim
    · exact hk.elim
  · exact hk.elim

end
end Go.Am

/-! The abstract machine, part 12: what a call asks and gives, and how a caller goes on behind it. -/
namespace Go.Am
open Go

/-- What is handed to a call: plain data; an array or a variable that the callee alone holds meanwhile. -/
inductive In where
  | imm (d : D)
  | arr (ty : TypeId) (sz : Nat) (rows : List (List D))
  | box (ty : TypeId) (cells : List D)
  | reg (c : Bool) (d : D)

/-- A result: plain data, or an array, or a region, that nobody else holds. -/
inductive R0 where
  | imm (d : D)
  | arr (ty : TypeId) (sz : Nat) (rows : List (List D))
  | reg (d : D)

/-- What comes back: the results; the objects that were lent, parameter by parameter; 'sep': no result looks into memory that was there before. -/
structure Out where
  res : List R0
  muts : List O := []
  sep : Bool := true
  agg : Bool := false

def inT (ins : List In) (i : Nat) : AV :=
  match ins[i]? with
  | some (.imm d) => .imm d
  | some (.arr _ _ rows) => .own i 0 rows.length
  | some (.box _ _) => .box i 0
  | some (.reg _ d) => .tv i d
  | none => .undef

def inM (ins : List In) (i : Nat) : Option O :=
  match ins[i]? with
  | some (.arr ty sz rows) => some (.arr ty sz rows)
  | some (.box ty cells) => some (.box ty (cells.map .imm))
  | some (.reg c _) => some (.reg c)
  | _ => none

def In.isMut : In → Bool
  | .imm _ => false
  | _ => true

def mutIdx (ins : List In) : List Nat := (List.range ins.length).filter fun i => (ins[i]?).any In.isMut

def inS (ins : List In) (n : Nat) : S := { t := inT ins, m := inM ins, ep := 0, n := n, pm := mutIdx ins }

def outT (out : Out) (j : Nat) : AV :=
  match out.res[j]? with
  | some (.imm d) => .imm d
  | some (.arr _ _ rows) => .own (1000 + j) 0 rows.length
  | some (.reg d) => .tv (1000 + j) d
  | none => .undef

def outM (ins : List In) (out : Out) (id : Nat) : Option O :=
  if id < 1000 then (match ins[id]? with
    | some (.arr _ _ _) | some (.box _ _) | some (.reg _ _) => some (out.muts.getD id .gone)
    | _ => none)
  else match out.res[id - 1000]? with
    | some (.arr ty sz rows) => some (.arr ty sz rows)
    | some (.reg _) => some (.reg true)
    | _ => none

def outS (ins : List In) (out : Out) : S := { t := outT out, m := outM ins out, ep := 0, n := out.res.length, pm := mutIdx ins }

def packR (vals : Array Value) : Value := if vals.size = 1 then vals.getD 0 Go.undef else .tuple vals
/-- The results as one value; 'agg': they are the cells of one struct. -/
def packO (agg : Bool) (vals : Array Value) : Value := match agg with | true => .agg vals | false => packR vals

/-- The blocks that a result looks through no more. -/
def sepA (w : World) (A : Nat → Prop) (locs : List (Option Loc)) (sep : Bool) : Nat → Prop := fun b => A b ∨ (sep = true ∧ b < w.heap.size ∧ ∀ l, some l ∈ locs → ¬ l.has b)

/-- The function has a body that is entered. -/
def Enters (P : Program) (f : FuncId) : Prop := ∃ fn, P.funcs[f]? = some fn ∧ (fn.name == "runtime.NumGoroutine") = false ∧ fn.body.isSome = true

/-- What was lent comes back of its make. -/
def MutOk (ins : List In) (out : Out) : Prop :=
  ∀ i o, inM ins i = some o → o.sub (out.muts.getD i .gone) ∧ ((∃ ty sz rows, out.muts.getD i .gone = .arr ty sz rows) ∨ (∃ (ty : TypeId) (ds : List D), out.muts.getD i .gone = .box ty (ds.map .imm)) ∨ out.muts.getD i .gone = .gone ∨ ∃ c, out.muts.getD i .gone = .reg c)

/-- A call of function f, handed 'ins', comes back with 'out'. -/
def CallOk (P : Program) (f : FuncId) (ins : List In) (out : Out) : Prop :=
  Enters P f ∧ ins.length ≤ 1000 ∧ MutOk ins out ∧ ∀ (w : World) (A : Nat → Prop) (locs : List (Option Loc)) (β : Nat → Option Loc) (vs : Array Value), Sim w A locs β (inS ins vs.size) ⟨vs, []⟩ w → vs.size = ins.length →
    Calls P f vs w fun e w' => ∃ vals β', e = .returned (packO out.agg vals) ∧ Sim w (sepA w A locs out.sep) locs β' (outS ins out) ⟨vals, []⟩ w'

section
variable {P : Program} {w0 w : World} {A : Nat → Prop} {locs : List (Option Loc)} {β : Nat → Option Loc} {σ : S} {a : Act}

/-- The caller's state behind a call: some objects are the callee's, the others as they were. -/
theorem Sim.glue (h : Sim w0 A locs β σ a w) {w' : World} {AC : Nat → Prop} {locsC : List (Option Loc)} {βC : Nat → Option Loc} {σC : S} {aC : Act} (hc : Sim w AC locsC βC σC aC w')
    (m'' : Nat → Option O) (β'' : Nat → Option Loc) (src : Nat → Option Nat)
    (sa : ∀ id c, src id = some c → m'' id = σC.m c ∧ β'' id = βC c ∧ ∃ o, σC.m c = some o)
    (sb : ∀ id, src id = none → m'' id = σ.m id ∧ β'' id = β id)
    (sc : ∀ id id' c, src id = some c → src id' = some c → id = id')
    (sd : ∀ id c, src id = some c → σ.m id = none ∨ ∃ o o', σ.m id = some o ∧ o.live = true ∧ β id = βC c ∧ σC.m c = some o' ∧ o.sub o' ∧ ∀ l, β id = some l → some l ∈ locsC)
    (se : ∀ l, some l ∈ locsC → ∃ id c o, src id = some c ∧ β id = some l ∧ σ.m id = some o ∧ o.live = true)
    (imm : ∀ c o, σC.m c = some o → (∃ ty sz rows, o = .arr ty sz rows) ∨ (∃ (ty : TypeId) (ds : List D), o = .box ty (ds.map .imm)) ∨ o = .gone ∨ ∃ c, o = .reg c)
    (hA : ∀ b, Bl A β'' m'' b → Bl AC βC σC.m b) :
    Sim w0 A locs β'' { σ with m := m'' } a w' ∧ ∀ (v : Value) (d : D), Rep w' (Bl AC βC σC.m) v d → Rep w' (Bl A β'' m'') v d := by
  have kc : Keeps w' (Bl AC βC σC.m) w' (Bl A β'' m'') := ⟨Nat.le_refl _, fun _ _ _ => rfl, fun b _ hB hB' => hB (hA b hB')⟩
  have hlocs : ∀ l, some l ∈ locsC → ∀ b, l.has b → Bl A β σ.m b := fun l hl b hb => by
    obtain ⟨id, c, o, _, h2, h3, h4⟩ := se l hl
    exact .inr ⟨id, o, l, h3, h4, h2, hb⟩
  have hsame : ∀ b, b < w.heap.size → ¬ Bl A β σ.m b → w'.heap[b]? = w.heap[b]? := fun b hb hB => hc.fr.blk b hb fun l hl e => hB (hlocs l hl b e)
  -- a new object's block: new, or lent
  have hnewb : ∀ id c o l, src id = some c → σC.m c = some o → o.live = true → βC c = some l → ∀ b, l.has b → w.heap.size ≤ b ∨ ∃ l0, some l0 ∈ locsC ∧ l0.has b := fun id c o l h1 h2 h3 h4 b hb => (hc.new c o l h2 h3 h4 b hb).2.2
  have k : Keeps w (Bl A β σ.m) w' (Bl A β'' m'') := by
    refine ⟨hc.fr.size, hsame, fun b hb hB hB' => hB ?_⟩
    rcases hB' with hA' | ⟨id, o, l, h1, h2, h3, h4⟩
    · exact .inl hA'
    · cases hs : src id with
      | none =>
        obtain ⟨e1, e2⟩ := sb id hs
        rw [e1] at h1; rw [e2] at h3
        exact .inr ⟨id, o, l, h1, h2, h3, h4⟩
      | some c =>
        obtain ⟨e1, e2, _⟩ := sa id c hs
        rw [e1] at h1; rw [e2] at h3
        rcases hnewb id c o l hs h1 h2 h3 b h4 with h5 | ⟨l0, h5, h6⟩
        · omega
        · exact hlocs l0 h5 b h6
  have gβ : ∀ id o, σ.m id = some o → β'' id = β id := fun id o ho => by
    cases hs : src id with
    | none => exact (sb id hs).2
    | some c =>
      rcases sd id c hs with h1 | ⟨o1, o2, h1, _, h2, _⟩
      · rw [h1] at ho; cases ho
      · rw [(sa id c hs).2.1, h2]
  have g : Goes β σ.m β'' m'' := fun id o ho => by
    cases hs : src id with
    | none => exact ⟨o, by rw [(sb id hs).1]; exact ho, o.sub_refl, fun _ => (sb id hs).2⟩
    | some c =>
      rcases sd id c hs with h1 | ⟨o1, o2, h1, _, h2, h3, h4, _⟩
      · rw [h1] at ho; cases ho
      · rw [h1] at ho; injection ho with ho; subst ho
        exact ⟨o2, by rw [(sa id c hs).1]; exact h3, h4, fun _ => by rw [(sa id c hs).2.1, h2]⟩
  refine ⟨h.move k g gβ ?_ ?_ ?_ ?_, fun v d hr => hr.keep kc⟩
  · intro id o hi hl
    cases hs : src id with
    | none =>
      obtain ⟨e1, e2⟩ := sb id hs
      rw [e1] at hi
      refine .inl ⟨hi, fun l hl' b hb => hc.fr.blk b (h.new id o l hi hl hl' b hb).1 fun l0 h0 e => ?_⟩
      obtain ⟨id2, c2, o2, f1, f2, f3, f4⟩ := se l0 h0
      have := h.inj id2 id o2 o l0 l b f3 f4 f2 hi hl hl' e hb
      subst this
      rw [hs] at f1; cases f1
    | some c =>
      obtain ⟨e1, e2, _⟩ := sa id c hs
      rw [e1] at hi
      have hob := hc.ob c o hi
      right
      rcases imm c o hi with ⟨ty, sz, rows, rfl⟩ | ⟨ty, ds, rfl⟩ | rfl | ⟨cl, rfl⟩
      · obtain ⟨q1, q2, q3⟩ := hob
        refine ⟨q1, q2, ?_⟩
        rcases q3 with ⟨q3, q4⟩ | ⟨l, cs, q3, q4, q5, q6, q7, q8⟩
        · exact .inl ⟨by rw [e2]; exact q3, q4⟩
        · exact .inr ⟨l, cs, by rw [e2]; exact q3, q4, q5, q6, q7, fun j d hj => (q8 j d hj).keep kc⟩
      · obtain ⟨l, cs, q1, q2, q3, q4⟩ := hob
        refine ⟨l, cs, by rw [e2]; exact q1, q2, q3, fun j av hj => ?_⟩
        have := q4 j av hj
        simp only [List.getElem?_map, Option.map_eq_some_iff] at hj
        obtain ⟨d, _, rfl⟩ := hj
        exact Rep.keep kc this
      · trivial
      · rcases hob with q | ⟨l, r, q1, q2, q3, q4⟩
        · exact .inl (by rw [e2]; exact q)
        · exact .inr ⟨l, r, by rw [e2]; exact q1, q2, q3, q4⟩
  · intro id id' o o' l l' b h1 h2 h3 h4 h5 h6 h7 h7'
    cases hs : src id with
    | none =>
      obtain ⟨e1, e2⟩ := sb id hs
      rw [e1] at h1; rw [e2] at h3
      cases hs' : src id' with
      | none =>
        obtain ⟨f1, f2⟩ := sb id' hs'
        rw [f1] at h4; rw [f2] at h6
        exact h.inj id id' o o' l l' b h1 h2 h3 h4 h5 h6 h7 h7'
      | some c =>
        exfalso
        obtain ⟨f1, f2, _⟩ := sa id' c hs'
        rw [f1] at h4; rw [f2] at h6
        have hlt := (h.new id o l h1 h2 h3 b h7).1
        rcases hnewb id' c o' l' hs' h4 h5 h6 b h7' with h8 | ⟨l0, h8, h9⟩
        · omega
        · obtain ⟨id2, c2, o2, g1, g2, g3, g4⟩ := se l0 h8
          have := h.inj id id2 o o2 l l0 b h1 h2 h3 g3 g4 g2 h7 h9
          subst this
          rw [hs] at g1; cases g1
    | some c =>
      obtain ⟨e1, e2, _⟩ := sa id c hs
      rw [e1] at h1; rw [e2] at h3
      cases hs' : src id' with
      | none =>
        exfalso
        obtain ⟨f1, f2⟩ := sb id' hs'
        rw [f1] at h4; rw [f2] at h6
        have hlt := (h.new id' o' l' h4 h5 h6 b h7').1
        rcases hnewb id c o l hs h1 h2 h3 b h7 with h8 | ⟨l0, h8, h9⟩
        · omega
        · obtain ⟨id2, c2, o2, g1, g2, g3, g4⟩ := se l0 h8
          have := h.inj id' id2 o' o2 l' l0 b h4 h5 h6 g3 g4 g2 h7' h9
          subst this
          rw [hs'] at g1; cases g1
      | some c' =>
        obtain ⟨f1, f2, _⟩ := sa id' c' hs'
        rw [f1] at h4; rw [f2] at h6
        have := hc.inj c c' o o' l l' b h1 h2 h3 h4 h5 h6 h7 h7'
        subst this
        exact sc id id' c hs hs'
  · intro id o l h1 h2 h3 b hb
    cases hs : src id with
    | none =>
      obtain ⟨e1, e2⟩ := sb id hs
      rw [e1] at h1; rw [e2] at h3
      obtain ⟨n1, n2, n3⟩ := h.new id o l h1 h2 h3 b hb
      exact ⟨Nat.lt_of_lt_of_le n1 hc.fr.size, n2, n3⟩
    | some c =>
      obtain ⟨e1, e2, _⟩ := sa id c hs
      rw [e1] at h1; rw [e2] at h3
      obtain ⟨n1, n2, n3⟩ := hc.new c o l h1 h2 h3 b hb
      rcases n3 with n3 | ⟨l0, n3, n4⟩
      · refine ⟨n1, fun hAl => ?_, .inl (Nat.le_trans h.fr.size n3)⟩
        have := h.lt _ hAl
        omega
      · obtain ⟨id2, c2, o2, g1, g2, g3, g4⟩ := se l0 n3
        obtain ⟨p1, p2, p3⟩ := h.new id2 o2 l0 g3 g4 g2 b n4
        exact ⟨n1, p2, p3⟩
  · refine ⟨hc.fr.os.trans h.fr.os, hc.fr.tape.trans h.fr.tape, hc.fr.output.trans h.fr.output, Nat.le_trans h.fr.size hc.fr.size, fun b hb hl => ?_, h.fr.tb, Nat.le_trans h.fr.drawn hc.fr.drawn⟩
    rw [hc.fr.blk b (Nat.lt_of_lt_of_le hb h.fr.size) fun l0 h0 e => ?_]
    · exact h.fr.blk b hb hl
    · obtain ⟨id2, c2, o2, g1, g2, g3, g4⟩ := se l0 h0
      rcases (h.new id2 o2 l0 g3 g4 g2 b e).2.2 with h1 | ⟨l1, h1, h2⟩
      · omega
      · exact hl l1 h1 h2

end

/-- Cells that are plain data, of one variable or row, as what an address sees. -/
def viewCells (m : Nat → Option O) (id off : Nat) : Option (List D) :=
  match m id with
  | some (.box _ cells) => imms (cells.drop off)
  | _ => none

def viewClo (m : Nat → Option O) : List Nat → Option (List D)
  | [] => some []
  | id :: r => match viewCells m id 0, viewClo m r with
    | some ds, some rest => some (.ptr ds :: rest)
    | _, _ => none

/-- A mixed value, looked at. -/
def mixView (m : Nat → Option O) : List AV → Option (List D × List Nat)
  | [] => some ([], [])
  | .imm d :: r => (mixView m r).map fun x => (d :: x.1, x.2)
  | .own id off len :: r => match m id with
    | some (.arr _ _ rows) => (mixView m r).map fun x => (.list ((rows.drop off).take len) :: x.1, id :: x.2)
    | _ => none
  | _ :: _ => none

/-- One argument: how it is handed over (0: looked at; 1: given up; 2: lent to be written), what is looked at, given up, lent. -/
def argIn (m : Nat → Option O) (k : Nat) (av : AV) : Option (In × List Nat × List Nat × Option Nat) :=
  match k, av with
  | _, .imm d => some (.imm d, [], [], none)
  | 0, .own id off len => match m id with | some (.arr _ _ rows) => some (.imm (.list ((rows.drop off).take len)), [id], [], none) | _ => none
  | 1, .own id off len => match m id with | some (.arr _ _ rows) => some (.imm (.list ((rows.drop off).take len)), [], [id], none) | _ => none
  | 2, .own id 0 len => match m id with | some (.arr ty sz rows) => if len = rows.length then some (.arr ty sz rows, [], [], some id) else none | _ => none
  | 0, .box id off => match viewCells m id off with | some ds => some (.imm (.ptr ds), [id], [], none) | none => none
  | 2, .box id 0 => match m id with | some (.box ty cells) => (match imms cells with | some ds => some (.box ty ds, [], [], some id) | none => none) | _ => none
  | 0, .clo f ids => match viewClo m ids with | some ds => some (.imm (.fn f ds), ids, [], none) | none => none
  | 0, .tv id d => match m id with | some (.reg true) => some (.imm d, [id], [], none) | _ => none
  | 1, .tv id d => match m id with | some (.reg true) => some (.imm d, [], [id], none) | _ => none
  | 2, .tv id d => match m id with | some (.reg c) => some (.reg c d, [], [], some id) | _ => none
  | 3, .tv id d => match m id with | some (.reg _) => some (.reg false d, [], [], some id) | _ => none
  | 0, .mix l => match mixView m l with | some x => some (.imm (.agg x.1), x.2, [], none) | none => none
  | 1, .mix l => match mixView m l with | some x => some (.imm (.agg x.1), [], x.2, none) | none => none
  | _, _ => none

def argsIn (m : Nat → Option O) : List Nat → List AV → Option (List In × List Nat × List Nat × List (Option Nat))
  | _, [] => some ([], [], [], [])
  | md, av :: r =>
    match argIn m (md.headD 0) av, argsIn m md.tail r with
    | some (i, v, f, g), some (is, vs, fs, gs) => some (i :: is, v ++ vs, f ++ fs, g :: gs)
    | _, _ => none

def upMut : List (Option Nat) → List O → List (Nat × O)
  | some id :: gs, os => (id, os.headD .gone) :: upMut gs os.tail
  | none :: gs, os => upMut gs os.tail
  | [], _ => []

def rid (ep d j : Nat) : Nat := nid ep d + j * 16777216

def resAV (ep d : Nat) : Nat → List R0 → List AV
  | _, [] => []
  | j, .imm dd :: r => .imm dd :: resAV ep d (j + 1) r
  | j, .arr _ _ rows :: r => .own (rid ep d j) 0 rows.length :: resAV ep d (j + 1) r
  | j, .reg dd :: r => .tv (rid ep d j) dd :: resAV ep d (j + 1) r

def resUp (ep d : Nat) : Nat → List R0 → List (Nat × O)
  | _, [] => []
  | j, .imm _ :: r => resUp ep d (j + 1) r
  | j, .arr ty sz rows :: r => (rid ep d j, .arr ty sz rows) :: resUp ep d (j + 1) r
  | j, .reg _ :: r => (rid ep d j, .reg true) :: resUp ep d (j + 1) r

def packAV : List AV → AV
  | [x] => x
  | [] => .undef
  | l => .tup l

def packAVO (agg : Bool) (l : List AV) : AV := match agg with | true => .mix l | false => packAV l

/-- The effect of a call on the caller. -/
def callEff (ep d : Nat) (fz : List Nat) (gs : List (Option Nat)) (out : Out) : Eff :=
  ⟨packAVO out.agg (resAV ep d 0 out.res), kills fz ++ (upMut gs out.muts ++ resUp ep d 0 out.res)⟩

def freshAll (m : Nat → Option O) : List (Nat × O) → Prop
  | [] => True
  | (i, _) :: r => m i = none ∧ freshAll m r

/-- A call's arguments; mode 5: a constant, as the very value. -/
def evMode (ρ : Operand → AV) : List Nat → List Operand → List AV
  | _, [] => []
  | md, x :: xs => (match md.headD 0, x with | 5, .const v => .imm (.other v) | _, _ => ρ x) :: evMode ρ md.tail xs

/-- A call of f: the modes of its arguments and what comes back are the prover's to give. -/
def opCall (P : Program) (m : Nat → Option O) (ep : Nat) (o : Oper) (f : FuncId) (args : List Nat → List AV) (K : Eff → Prop) : Prop :=
  ∃ (md : List Nat) (out : Out),
    match argsIn m md (args md) with
    | some (ins, vs, fz, gs) => CallOk P f ins out ∧ (out.sep = true ∨ vs = []) ∧ ((fz ++ gs.filterMap id).Nodup ∧ ∀ v ∈ vs, v ∉ fz ∧ some v ∉ gs) ∧ freshAll m (resUp ep (o.dst.getD 0) 0 out.res) ∧
        K (callEff ep (o.dst.getD 0) fz gs out)
    | none => False

end Go.Am

/-! The abstract machine, part 13: a call stands for the model's call. -/
namespace Go.Am
open Go

theorem imms_eq : ∀ {l : List AV} {ds : List D}, imms l = some ds → l = ds.map .imm
  | [], ds, hi => by simp [imms] at hi; subst hi; rfl
  | .imm d :: r, ds, hi => by
    simp only [imms, Option.map_eq_some_iff] at hi
    obtain ⟨ds', h1, rfl⟩ := hi
    rw [imms_eq h1]; rfl
  | .dead :: _, _, hi => by simp [imms] at hi
  | .undef :: _, _, hi => by simp [imms] at hi
  | .own _ _ _ :: _, _, hi => by simp [imms] at hi
  | .box _ _ :: _, _, hi => by simp [imms] at hi
  | .eptr _ _ _ :: _, _, hi => by simp [imms] at hi
  | .clo _ _ :: _, _, hi => by simp [imms] at hi
  | .tup _ :: _, _, hi => by simp [imms] at hi
  | .mix _ :: _, _, hi => by simp [imms] at hi
  | .tv _ _ :: _, _, hi => by simp [imms] at hi

theorem argsIn_at {m : Nat → Option O} : ∀ (args : List AV) (md : List Nat) (ins : List In) (vs fz : List Nat) (gs : List (Option Nat)), argsIn m md args = some (ins, vs, fz, gs) →
    ins.length = args.length ∧ gs.length = args.length ∧ (∀ (i : Nat) (av : AV), args[i]? = some av → ∃ (k : Nat) (inn : In) (v f : List Nat) (g : Option Nat), ins[i]? = some inn ∧ gs[i]? = some g ∧ argIn m k av = some (inn, v, f, g) ∧ (∀ x ∈ v, x ∈ vs) ∧ (∀ x ∈ f, x ∈ fz)) ∧
      (∀ x ∈ vs, ∃ av k inn v f g, av ∈ args ∧ argIn m k av = some (inn, v, f, g) ∧ x ∈ v) ∧ (∀ x ∈ fz, ∃ av k inn v f g, av ∈ args ∧ argIn m k av = some (inn, v, f, g) ∧ x ∈ f)
  | [], md, ins, vs, fz, gs, h => by
    simp only [argsIn, Option.some.injEq, Prod.mk.injEq] at h
    obtain ⟨rfl, rfl, rfl, rfl⟩ := h
    exact ⟨rfl, rfl, fun i av hi => by simp at hi, (fun x hx => by cases hx), (fun x hx => by cases hx)⟩
  | av :: r, md, ins, vs, fz, gs, h => by
    simp only [argsIn] at h
    split at h
    · rename_i i v f g is vs' fs gs' h1 h2
      simp only [Option.some.injEq, Prod.mk.injEq] at h
      obtain ⟨rfl, rfl, rfl, rfl⟩ := h
      obtain ⟨q1, q2, q3, q4, q5⟩ := argsIn_at r _ _ _ _ _ h2
      refine ⟨by simp [q1], by simp [q2], fun j av' hj => ?_, fun x hx => ?_, fun x hx => ?_⟩
      · cases j with
        | zero =>
          simp at hj; subst hj
          exact ⟨_, i, v, f, g, rfl, rfl, h1, fun x hx => List.mem_append_left _ hx, fun x hx => List.mem_append_left _ hx⟩
        | succ j =>
          obtain ⟨k, inn, v', f', g', r1, r2, r3, r4, r5⟩ := q3 j av' (by simpa using hj)
          exact ⟨k, inn, v', f', g', by simpa using r1, by simpa using r2, r3, fun x hx => List.mem_append_right _ (r4 x hx), fun x hx => List.mem_append_right _ (r5 x hx)⟩
      · rcases List.mem_append.1 hx with hx | hx
        · exact ⟨av, _, i, v, f, g, by simp, h1, hx⟩
        · obtain ⟨av', k, inn, v', f', g', r1, r2, r3⟩ := q4 x hx
          exact ⟨av', k, inn, v', f', g', by simp [r1], r2, r3⟩
      · rcases List.mem_append.1 hx with hx | hx
        · exact ⟨av, _, i, v, f, g, by simp, h1, hx⟩
        · obtain ⟨av', k, inn, v', f', g', r1, r2, r3⟩ := q5 x hx
          exact ⟨av', k, inn, v', f', g', by simp [r1], r2, r3⟩
    · cases h

theorem filterMap_inj : ∀ (gs : List (Option Nat)), (gs.filterMap id).Nodup → ∀ (i j x : Nat), gs[i]? = some (some x) → gs[j]? = some (some x) → i = j
  | [], _, i, j, x, hi, _ => by simp at hi
  | g :: gs, hnd, i, j, x, hi, hj => by
    have hnd' : (gs.filterMap id).Nodup := by
      cases g with
      | none => simpa using hnd
      | some y => simp at hnd; exact hnd.2
    have hmem : ∀ k, gs[k]? = some (some x) → x ∈ gs.filterMap id := fun k hk => by
      rw [List.mem_filterMap]
      exact ⟨some x, List.mem_of_getElem? hk, rfl⟩
    cases i with
    | zero =>
      simp at hi; subst hi
      cases j with
      | zero => rfl
      | succ j =>
        exfalso
        simp at hj
        simp at hnd
        exact hnd.1 (List.mem_of_getElem? hj)
    | succ i =>
      cases j with
      | zero =>
        exfalso
        simp at hj; subst hj
        simp at hi
        simp at hnd
        exact hnd.1 (List.mem_of_getElem? hi)
      | succ j => rw [filterMap_inj gs hnd' i j x (by simpa using hi) (by simpa using hj)]

theorem viewClo_at {m : Nat → Option O} : ∀ {ids : List Nat} {ds : List D}, viewClo m ids = some ds → ids.length = ds.length ∧ ∀ (j : Nat) (d : D), ds[j]? = some d → ∃ id cs, ids[j]? = some id ∧ viewCells m id 0 = some cs ∧ d = .ptr cs
  | [], ds, h => by simp [viewClo] at h; subst h; exact ⟨rfl, fun j d hj => by simp at hj⟩
  | id :: r, ds, h => by
    simp only [viewClo] at h
    split at h
    · rename_i cs rest h1 h2
      injection h with h; subst h
      obtain ⟨q1, q2⟩ := viewClo_at h2
      refine ⟨by simp [q1], fun j d hj => ?_⟩
      cases j with
      | zero => simp at hj; subst hj; exact ⟨id, cs, rfl, h1, rfl⟩
      | succ j => simpa using q2 j d (by simpa using hj)
    · cases h

section
variable {P : Program} {w0 w : World} {A : Nat → Prop} {locs : List (Option Loc)} {β : Nat → Option Loc} {σ : S} {a : Act}

theorem Sim.live_lt (h : Sim w0 A locs β σ a w) : ∀ b, Bl A β σ.m b → b < w.heap.size := by
  rintro b (hA | ⟨id, o, l, h1, h2, h3, h4⟩)
  · exact h.lt b hA
  · exact (h.new id o l h1 h2 h3 b h4).1

/-- A box, looked at. -/
theorem box_view (h : Sim w0 A locs β σ a w) {id off : Nat} {ds : List D} (hc : viewCells σ.m id off = some ds) {v : Value} (hv : BoxAt β σ.m id off v)
    {B' : Nat → Prop} (hB : ∀ b, b < w.heap.size → ¬ Bl A β σ.m b → ¬ B' b) (hid : ∀ l, β id = some l → ¬ B' l.b) : Rep w B' v (.ptr ds) := by
  unfold viewCells at hc
  split at hc
  · rename_i ty cells hm
    simp only [BoxAt, hm] at hv
    obtain ⟨l, hl, rfl⟩ := hv
    obtain ⟨l', cs, hl', hheap, hsz, hcs⟩ := h.ob id _ hm
    rw [hl] at hl'; injection hl' with hl'; subst hl'
    have e := imms_eq hc
    have hget : ∀ (j : Nat) (d : D), ds[j]? = some d → cells[off + j]? = some (.imm d) := fun j d hj => by
      have : (cells.drop off)[j]? = some (.imm d) := by rw [e]; simp [hj]
      rwa [List.getElem?_drop] at this
    refine .ptr _ _ (fun j => cs.getD (off + j) Go.undef) (h.new id _ l hm rfl hl _ l.self).1 (hid l hl) rfl (fun j d hj => ?_) (fun j d hj => ?_)
    · rw [add_spot rfl]
      exact ⟨run_load_at hheap (by have := (List.getElem?_eq_some_iff.1 (hget j d hj)).1; show off + j < _; omega), thaw hheap⟩
    · exact Rep.keep ⟨Nat.le_refl _, fun _ _ _ => rfl, hB⟩ (hcs _ _ (hget j d hj))
  · cases hc

theorem kills_sim (h : Sim w0 A locs β σ a w) : ∀ (ks : List Nat), (∀ k ∈ ks, σ.m k ≠ none) → Sim w0 A locs β { σ with m := upm σ.m (kills ks) } a w := by
  intro ks
  induction ks generalizing σ with
  | nil => intro _; exact h
  | cons k ks ih =>
    intro hks
    cases hk : σ.m k with
    | none => exact absurd hk (hks k (by simp))
    | some o =>
      have := ih (h.kill hk) fun k' hk' => by
        show upd σ.m k (some .gone) k' ≠ none
        unfold upd
        split
        · simp
        · exact hks k' (by simp [hk'])
      exact this

/-- What an argument's handing-over says of the objects. -/
theorem argIn_inv {m : Nat → Option O} {k : Nat} {av : AV} {inn : In} {v f : List Nat} {g : Option Nat} (h : argIn m k av = some (inn, v, f, g)) :
    (∃ d, av = .imm d ∧ inn = .imm d ∧ v = [] ∧ f = [] ∧ g = none) ∨
    (∃ id off len ty sz rows, av = .own id off len ∧ m id = some (.arr ty sz rows) ∧ inn = .imm (.list ((rows.drop off).take len)) ∧ g = none ∧ ((v = [id] ∧ f = []) ∨ (v = [] ∧ f = [id]))) ∨
    (∃ id len ty sz rows, av = .own id 0 len ∧ m id = some (.arr ty sz rows) ∧ len = rows.length ∧ inn = .arr ty sz rows ∧ v = [] ∧ f = [] ∧ g = some id) ∨
    (∃ id off ds, av = .box id off ∧ viewCells m id off = some ds ∧ inn = .imm (.ptr ds) ∧ v = [id] ∧ f = [] ∧ g = none) ∨
    (∃ id ty cells ds, av = .box id 0 ∧ m id = some (.box ty cells) ∧ imms cells = some ds ∧ inn = .box ty ds ∧ v = [] ∧ f = [] ∧ g = some id) ∨
    (∃ fn ids ds, av = .clo fn ids ∧ viewClo m ids = some ds ∧ inn = .imm (.fn fn ds) ∧ v = ids ∧ f = [] ∧ g = none) ∨
    (∃ id d, av = .tv id d ∧ m id = some (.reg true) ∧ inn = .imm d ∧ g = none ∧ ((v = [id] ∧ f = []) ∨ (v = [] ∧ f = [id]))) ∨
    (∃ id c c' d, av = .tv id d ∧ m id = some (.reg c) ∧ inn = .reg c' d ∧ (c' = true → c = true) ∧ v = [] ∧ f = [] ∧ g = some id) ∨
    (∃ l ds ids, av = .mix l ∧ mixView m l = some (ds, ids) ∧ inn = .imm (.agg ds) ∧ g = none ∧ ((v = ids ∧ f = []) ∨ (v = [] ∧ f = ids))) := by
  unfold argIn at h
  split at h
  · simp only [Option.some.injEq, Prod.mk.injEq] at h
    obtain ⟨rfl, rfl, rfl, rfl⟩ := h
    exact .inl ⟨_, rfl, rfl, rfl, rfl, rfl⟩
  · split at h
    · rename_i hm
      simp only [Option.some.injEq, Prod.mk.injEq] at h
      obtain ⟨rfl, rfl, rfl, rfl⟩ := h
      exact .inr (.inl ⟨_, _, _, _, _, _, rfl, hm, rfl, rfl, .inl ⟨rfl, rfl⟩⟩)
    · cases h
  · split at h
    · rename_i hm
      simp only [Option.some.injEq, Prod.mk.injEq] at h
      obtain ⟨rfl, rfl, rfl, rfl⟩ := h
      exact .inr (.inl ⟨_, _, _, _, _, _, rfl, hm, rfl, rfl, .inr ⟨rfl, rfl⟩⟩)
    · cases h
  · split at h
    · rename_i hm
      split at h
      · rename_i hlen
        simp only [Option.some.injEq, Prod.mk.injEq] at h
        obtain ⟨rfl, rfl, rfl, rfl⟩ := h
        exact .inr (.inr (.inl ⟨_, _, _, _, _, rfl, hm, hlen, rfl, rfl, rfl, rfl⟩))
      · cases h
    · cases h
  · split at h
    · rename_i hm
      simp only [Option.some.injEq, Prod.mk.injEq] at h
      obtain ⟨rfl, rfl, rfl, rfl⟩ := h
      exact .inr (.inr (.inr (.inl ⟨_, _, _, rfl, hm, rfl, rfl, rfl, rfl⟩)))
    · cases h
  · split at h
    · rename_i hm
      split at h
      · rename_i hi
        simp only [Option.some.injEq, Prod.mk.injEq] at h
        obtain ⟨rfl, rfl, rfl, rfl⟩ := h
        exact .inr (.inr (.inr (.inr (.inl ⟨_, _, _, _, rfl, hm, hi, rfl, rfl, rfl, rfl⟩))))
      · cases h
    · cases h
  · split at h
    · rename_i hm
      simp only [Option.some.injEq, Prod.mk.injEq] at h
      obtain ⟨rfl, rfl, rfl, rfl⟩ := h
      exact .inr (.inr (.inr (.inr (.inr (.inl ⟨_, _, _, rfl, hm, rfl, rfl, rfl, rfl⟩)))))
    · cases h
  · split at h
    · rename_i hm
      simp only [Option.some.injEq, Prod.mk.injEq] at h
      obtain ⟨rfl, rfl, rfl, rfl⟩ := h
      exact .inr (.inr (.inr (.inr (.inr (.inr (.inl ⟨_, _, rfl, hm, rfl, rfl, .inl ⟨rfl, rfl⟩⟩))))))
    · cases h
  · split at h
    · rename_i hm
      simp only [Option.some.injEq, Prod.mk.injEq] at h
      obtain ⟨rfl, rfl, rfl, rfl⟩ := h
      exact .inr (.inr (.inr (.inr (.inr (.inr (.inl ⟨_, _, rfl, hm, rfl, rfl, .inr ⟨rfl, rfl⟩⟩))))))
    · cases h
  · split at h
    · rename_i hm
      simp only [Option.some.injEq, Prod.mk.injEq] at h
      obtain ⟨rfl, rfl, rfl, rfl⟩ := h
      exact .inr (.inr (.inr (.inr (.inr (.inr (.inr (.inl ⟨_, _, _, _, rfl, hm, rfl, fun e => e, rfl, rfl, rfl⟩)))))))
    · cases h
  · split at h
    · rename_i hm
      simp only [Option.some.injEq, Prod.mk.injEq] at h
      obtain ⟨rfl, rfl, rfl, rfl⟩ := h
      exact .inr (.inr (.inr (.inr (.inr (.inr (.inr (.inl ⟨_, _, _, _, rfl, hm, rfl, (fun e => by cases e), rfl, rfl, rfl⟩)))))))
    · cases h
  · split at h
    · rename_i x hm
      simp only [Option.some.injEq, Prod.mk.injEq] at h
      obtain ⟨rfl, rfl, rfl, rfl⟩ := h
      exact .inr (.inr (.inr (.inr (.inr (.inr (.inr (.inr ⟨_, _, _, rfl, hm, rfl, rfl, .inl ⟨rfl, rfl⟩⟩)))))))
    · cases h
  · split at h
    · rename_i x hm
      simp only [Option.some.injEq, Prod.mk.injEq] at h
      obtain ⟨rfl, rfl, rfl, rfl⟩ := h
      exact .inr (.inr (.inr (.inr (.inr (.inr (.inr (.inr ⟨_, _, _, rfl, hm, rfl, rfl, .inr ⟨rfl, rfl⟩⟩)))))))
    · cases h
  · cases h

/-- The cells of a mixed value, one by one. -/
theorem mixView_at {m : Nat → Option O} : ∀ {l : List AV} {ds : List D} {ids : List Nat}, mixView m l = some (ds, ids) → l.length = ds.length ∧
    (∀ (j : Nat) (d : D), ds[j]? = some d → l[j]? = some (.imm d) ∨ ∃ id off len ty sz rows, l[j]? = some (.own id off len) ∧ m id = some (.arr ty sz rows) ∧ d = .list ((rows.drop off).take len) ∧ id ∈ ids) ∧
    ∀ id ∈ ids, ∃ ty sz rows, m id = some (.arr ty sz rows)
  | [], ds, ids, h => by
    simp only [mixView, Option.some.injEq, Prod.mk.injEq] at h
    obtain ⟨rfl, rfl⟩ := h
    exact ⟨rfl, fun j d hj => by simp at hj, fun id hid => by cases hid⟩
  | .imm d0 :: r, ds, ids, h => by
    simp only [mixView, Option.map_eq_some_iff, Prod.mk.injEq] at h
    obtain ⟨⟨ds', ids'⟩, h1, rfl, rfl⟩ := h
    obtain ⟨q1, q2, q3⟩ := mixView_at h1
    refine ⟨by simp [q1], fun j d hj => ?_, q3⟩
    cases j with
    | zero => simp at hj; subst hj; exact .inl rfl
    | succ j => simpa using q2 j d (by simpa using hj)
  | .own id off len :: r, ds, ids, h => by
    simp only [mixView] at h
    split at h
    · rename_i ty sz rows hm
      simp only [Option.map_eq_some_iff, Prod.mk.injEq] at h
      obtain ⟨⟨ds', ids'⟩, h1, rfl, rfl⟩ := h
      obtain ⟨q1, q2, q3⟩ := mixView_at h1
      refine ⟨by simp [q1], fun j d hj => ?_, fun x hx => ?_⟩
      · cases j with
        | zero => simp at hj; subst hj; exact .inr ⟨id, off, len, ty, sz, rows, rfl, hm, rfl, by simp⟩
        | succ j =>
          rcases q2 j d (by simpa using hj) with h2 | ⟨i2, o2, l2, t2, s2, r2, e1, e2, e3, e4⟩
          · exact .inl (by simpa using h2)
          · exact .inr ⟨i2, o2, l2, t2, s2, r2, by simpa using e1, e2, e3, by simp [e4]⟩
      · rcases List.mem_cons.1 hx with rfl | hx
        · exact ⟨_, _, _, hm⟩
        · exact q3 x hx
    · cases h
  | .dead :: _, _, _, h => by simp [mixView] at h
  | .undef :: _, _, _, h => by simp [mixView] at h
  | .box _ _ :: _, _, _, h => by simp [mixView] at h
  | .eptr _ _ _ :: _, _, _, h => by simp [mixView] at h
  | .clo _ _ :: _, _, _, h => by simp [mixView] at h
  | .tup _ :: _, _, _, h => by simp [mixView] at h
  | .tv _ _ :: _, _, _, h => by simp [mixView] at h
  | .mix _ :: _, _, _, h => by simp [mixView] at h

theorem viewCells_live {m : Nat → Option O} {id off : Nat} {ds : List D} (h : viewCells m id off = some ds) : ∃ o, m id = some o ∧ o.live = true := by
  unfold viewCells at h
  split at h
  · rename_i hm; exact ⟨_, hm, rfl⟩
  · cases h

theorem argIn_live {m : Nat → Option O} {k : Nat} {av : AV} {inn : In} {v f : List Nat} {g : Option Nat} (h : argIn m k av = some (inn, v, f, g)) :
    (∀ x ∈ v, ∃ o, m x = some o ∧ o.live = true) ∧ (∀ x ∈ f, ∃ o, m x = some o ∧ o.live = true) ∧ (∀ x, g = some x → ∃ o, m x = some o ∧ o.live = true) := by
  rcases argIn_inv h with ⟨d, _, _, rfl, rfl, rfl⟩ | ⟨id, off, len, ty, sz, rows, _, hm, _, rfl, ⟨rfl, rfl⟩ | ⟨rfl, rfl⟩⟩ | ⟨id, len, ty, sz, rows, _, hm, _, _, rfl, rfl, rfl⟩ | ⟨id, off, ds, _, hm, _, rfl, rfl, rfl⟩ | ⟨id, ty, cells, ds, _, hm, _, _, rfl, rfl, rfl⟩ | ⟨fn, ids, ds, _, hm, _, rfl, rfl, rfl⟩ | ⟨id, d, _, hm, _, rfl, ⟨rfl, rfl⟩ | ⟨rfl, rfl⟩⟩ | ⟨id, c, c', d, _, hm, _, _, rfl, rfl, rfl⟩ | ⟨l, ds, ids, _, hm, _, rfl, ⟨rfl, rfl⟩ | ⟨rfl, rfl⟩⟩
  · exact ⟨(fun x hx => by cases hx), (fun x hx => by cases hx), (fun x hx => by cases hx)⟩
  · exact ⟨(fun x hx => by simp at hx; subst hx; exact ⟨_, hm, rfl⟩), (fun x hx => by cases hx), (fun x hx => by cases hx)⟩
  · exact ⟨(fun x hx => by cases hx), (fun x hx => by simp at hx; subst hx; exact ⟨_, hm, rfl⟩), (fun x hx => by cases hx)⟩
  · exact ⟨(fun x hx => by cases hx), (fun x hx => by cases hx), (fun x hx => by injection hx with hx; subst hx; exact ⟨_, hm, rfl⟩)⟩
  · exact ⟨(fun x hx => by simp at hx; subst hx; exact viewCells_live hm), (fun x hx => by cases hx), (fun x hx => by cases hx)⟩
  · exact ⟨(fun x hx => by cases hx), (fun x hx => by cases hx), (fun x hx => by injection hx with hx; subst hx; exact ⟨_, hm, rfl⟩)⟩
  · refine ⟨fun x hx => ?_, (fun x hx => by cases hx), (fun x hx => by cases hx)⟩
    obtain ⟨q1, q2⟩ := viewClo_at hm
    obtain ⟨j, hj⟩ := List.getElem?_of_mem hx
    have hlt : j < ds.length := by rw [← q1]; exact (List.getElem?_eq_some_iff.1 hj).1
    obtain ⟨id, cs, r1, r2, _⟩ := q2 j _ (List.getElem?_eq_getElem hlt)
    rw [hj] at r1; injection r1 with r1; subst r1
    exact viewCells_live r2
  · exact ⟨(fun x hx => by simp at hx; subst hx; exact ⟨_, hm, rfl⟩), (fun x hx => by cases hx), (fun x hx => by cases hx)⟩
  · exact ⟨(fun x hx => by cases hx), (fun x hx => by simp at hx; subst hx; exact ⟨_, hm, rfl⟩), (fun x hx => by cases hx)⟩
  · exact ⟨(fun x hx => by cases hx), (fun x hx => by cases hx), (fun x hx => by injection hx with hx; subst hx; exact ⟨_, hm, rfl⟩)⟩
  · refine ⟨fun x hx => ?_, (fun x hx => by cases hx), (fun x hx => by cases hx)⟩
    obtain ⟨ty, sz, rows, q⟩ := (mixView_at hm).2.2 x hx
    exact ⟨_, q, rfl⟩
  · refine ⟨(fun x hx => by cases hx), fun x hx => ?_, (fun x hx => by cases hx)⟩
    obtain ⟨ty, sz, rows, q⟩ := (mixView_at hm).2.2 x hx
    exact ⟨_, q, rfl⟩

theorem upm_lookup (m : Nat → Option O) : ∀ (l : List (Nat × O)), (l.map (·.1)).Nodup → ∀ id, (∀ o, (id, o) ∈ l → upm m l id = some o) ∧ (id ∉ l.map (·.1) → upm m l id = m id)
  | [], _, id => ⟨(fun o h => by cases h), fun _ => rfl⟩
  | (k, o') :: l, hnd, id => by
    simp only [List.map_cons, List.nodup_cons] at hnd
    obtain ⟨h1, h2⟩ := upm_lookup (upd m k (some o')) l hnd.2 id
    refine ⟨fun o h => ?_, fun h => ?_⟩
    · rcases List.mem_cons.1 h with h | h
      · injection h with h3 h4
        subst h3 h4
        show upm (upd m id (some o)) l id = some o
        rw [h2 hnd.1, upd_same]
      · exact h1 o h
    · simp only [List.map_cons, List.mem_cons, not_or] at h
      show upm (upd m k (some o')) l id = m id
      rw [h2 h.2, upd_other _ _ h.1]

end
end Go.Am


