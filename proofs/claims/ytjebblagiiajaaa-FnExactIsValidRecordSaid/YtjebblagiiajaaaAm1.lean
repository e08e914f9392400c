/- The abstract machine, part 1: Go data without memory, how they are read off a world, and what keeps a reading. Over any program. -/
import Derived.Test.YtjebblagiiajaaaAmT
namespace Go.Am
open Go

/-- Go data as plain values. 'list': a slice's elements, each the list of its cells. 'ptr': the cells from an address on. -/
inductive D where
  | int (k : IntKind) (n : Int)
  | bool (b : Bool)
  | str (s : ByteArray)
  | list (rows : List (List D))
  | agg (cs : List D)
  | fn (f : FuncId) (caps : List D)
  | ptr (cs : List D)
  | other (v : Value)

/-- The value reads as the datum in the world, through no block of B. -/
inductive Rep (w : World) (B : Nat → Prop) : Value → D → Prop where
  | int (k : IntKind) (n : Int) : Rep w B (.int k n) (.int k n)
  | bool (b : Bool) : Rep w B (.bool b) (.bool b)
  | str (s : ByteArray) : Rep w B (.string s) (.str s)
  | other (v : Value) : Rep w B v (.other v)
  | nil (a : Option Addr) (c : Nat) : Rep w B (.slice a 0 c) (.list [])
  | list (ad : Addr) (n c : Nat) (rows : List (List D)) (sz : Nat) (g : Nat → Value) : n = rows.length → n ≤ c → (∀ r ∈ rows, r.length = sz) →
      ad.block < w.heap.size → ¬ B ad.block → ad.spot = none →
      (∀ (j : Nat) (d : D), rows.flatten[j]? = some d → w.cell? (ad.add j) = some (g j)) →
      (∀ (j : Nat) (d : D), rows.flatten[j]? = some d → Rep w B (g j) d) → Rep w B (.slice (some ad) n c) (.list rows)
  | agg (vs : Array Value) (ds : List D) : vs.size = ds.length → (∀ (j : Nat) (d : D), ds[j]? = some d → Rep w B (vs.getD j undef) d) → Rep w B (.agg vs) (.agg ds)
  | fn (f : FuncId) (vs : Array Value) (ds : List D) : vs.size = ds.length → (∀ (j : Nat) (d : D), ds[j]? = some d → Rep w B (vs.getD j undef) d) →
      Rep w B (.func (.func f) #[] vs) (.fn f ds)
  | ptr (ad : Addr) (ds : List D) (g : Nat → Value) : ad.block < w.heap.size → ¬ B ad.block → ad.spot = none →
      (∀ (j : Nat) (d : D), ds[j]? = some d → w.cell? (ad.add j) = some (g j)) →
      (∀ (j : Nat) (d : D), ds[j]? = some d → Rep w B (g j) d) → Rep w B (.pointer (some ad)) (.ptr ds)

theorem block_add (a : Addr) (n : Nat) : (a.add n).block = a.block := by unfold Addr.add; split <;> rfl
theorem add_add (a : Addr) (i j : Nat) : (a.add i).add j = a.add (i + j) := by
  unfold Addr.add
  by_cases hi : i = 0 <;> by_cases hj : j = 0 <;> simp [hi, hj, Nat.add_assoc]
theorem add_spot {a : Addr} (h : a.spot = none) (n : Nat) : a.add n = ⟨a.block, a.off + n, none⟩ := by
  unfold Addr.add
  split
  · rename_i h0; subst h0; cases a; simp_all
  · rfl

/-- What keeps every reading: blocks outside B are as they were, and B has not grown over old blocks. -/
structure Keeps (w : World) (B : Nat → Prop) (w' : World) (B' : Nat → Prop) : Prop where
  size : w.heap.size ≤ w'.heap.size
  blk : ∀ b, b < w.heap.size → ¬ B b → w'.heap[b]? = w.heap[b]?
  out : ∀ b, b < w.heap.size → ¬ B b → ¬ B' b

theorem Keeps.refl (w : World) (B : Nat → Prop) : Keeps w B w B := ⟨Nat.le_refl _, fun _ _ _ => rfl, fun _ _ h => h⟩
theorem Keeps.trans {w w' w'' : World} {B B' B'' : Nat → Prop} (h : Keeps w B w' B') (k : Keeps w' B' w'' B'') : Keeps w B w'' B'' :=
  ⟨Nat.le_trans h.size k.size, fun b hb hB => (k.blk b (Nat.lt_of_lt_of_le hb h.size) (h.out b hb hB)).trans (h.blk b hb hB),
   fun b hb hB => k.out b (Nat.lt_of_lt_of_le hb h.size) (h.out b hb hB)⟩

theorem Rep.keep {w w' : World} {B B' : Nat → Prop} (h : Keeps w B w' B') {v : Value} {d : D} (r : Rep w B v d) : Rep w' B' v d := by
  induction r with
  | int k n => exact .int k n
  | bool b => exact .bool b
  | str s => exact .str s
  | other v => exact .other v
  | nil a c => exact .nil a c
  | list ad n c rows sz g hn hc hr hb hB hs hcell _ ih =>
    exact .list ad n c rows sz g hn hc hr (Nat.lt_of_lt_of_le hb h.size) (h.out _ hb hB) hs
      (fun j d hj => (World.cell?_of_block (by rw [block_add]; exact h.blk _ hb hB)).trans (hcell j d hj)) ih
  | agg vs ds hs _ ih => exact .agg vs ds hs ih
  | fn f vs ds hs _ ih => exact .fn f vs ds hs ih
  | ptr ad ds g hb hB hs hcell _ ih =>
    exact .ptr ad ds g (Nat.lt_of_lt_of_le hb h.size) (h.out _ hb hB) hs
      (fun j d hj => (World.cell?_of_block (by rw [block_add]; exact h.blk _ hb hB)).trans (hcell j d hj)) ih

/-- Data that lie in one cell. -/
def D.one : D → Bool
  | .agg _ => false
  | .other v => v.oneCell'
  | _ => true

theorem Rep.one {w : World} {B : Nat → Prop} {v : Value} {d : D} (r : Rep w B v d) (h : d.one = true) : v.oneCell' = true := by
  cases r <;> first | rfl | exact h | simp [D.one] at h

/-- A constant as a datum. -/
def toD : Value → D
  | .int k n => .int k n
  | .bool b => .bool b
  | .string s => .str s
  | .slice none 0 0 => .list []
  | .func (.func f) ⟨[]⟩ ⟨[]⟩ => .fn f []
  | v => .other v

theorem rep_toD (w : World) (B : Nat → Prop) (v : Value) : Rep w B v (toD v) := by
  unfold toD
  split <;> first
    | exact .int _ _ | exact .bool _ | exact .str _ | exact .nil _ _ | exact .other _
    | exact .fn _ _ [] rfl (fun j d hj => by simp at hj)

/-- What a slot may hold: 'own': a part of an array that this call alone holds; 'box': an address in a variable of this call's own; 'eptr': an address in such an array; 'clo': a function with captured boxes. -/
inductive AV where
  | dead
  | undef
  | imm (d : D)
  | own (id off len : Nat)
  | box (id off : Nat)
  | eptr (id row off : Nat)
  | clo (f : FuncId) (ids : List Nat)
  | tup (l : List AV)

inductive O where
  | box (ty : TypeId) (cells : List AV)
  | arr (ty : TypeId) (sz : Nat) (rows : List (List D))
  | gone

structure Loc where
  b : Nat
  base : Nat
  tot : Nat

def O.live : O → Bool
  | .gone => false
  | _ => true

section
variable (w : World) (B : Nat → Prop) (β : Nat → Option Loc) (m : Nat → Option O)

def BoxAt (id off : Nat) (v : Value) : Prop :=
  match m id with
  | some (.box _ _) => ∃ l, β id = some l ∧ v = .pointer (some ⟨l.b, off, none⟩)
  | some .gone => True
  | _ => False

def AvRep0 : AV → Value → Prop
  | .dead, _ => True
  | .undef, v => v = Go.undef
  | .imm d, v => Rep w B v d
  | .own id off len, v =>
    match m id with
    | some (.arr _ sz rows) => off + len ≤ rows.length ∧ ((β id = none ∧ v = .slice none 0 0) ∨
        ∃ l ad, β id = some l ∧ v = .slice (some ad) len (l.tot - off) ∧ off ≤ l.tot ∧ (off < l.tot → ad = ⟨l.b, l.base + off * sz, none⟩))
    | some .gone => True
    | _ => False
  | .box id off, v => BoxAt β m id off v
  | .eptr id row off, v =>
    match m id with
    | some (.arr _ sz rows) => row < rows.length ∧ ∃ l, β id = some l ∧ v = .pointer (some ⟨l.b, l.base + row * sz + off, none⟩)
    | some .gone => True
    | _ => False
  | .clo f ids, v => ∃ vs : Array Value, v = .func (.func f) #[] vs ∧ vs.size = ids.length ∧ ∀ (i id : Nat), ids[i]? = some id → BoxAt β m id 0 (vs.getD i Go.undef)
  | .tup _, _ => False

def AvRep : AV → Value → Prop
  | .tup l, v => ∃ vs : Array Value, v = .tuple vs ∧ vs.size = l.length ∧ ∀ (i : Nat) (a : AV), l[i]? = some a → AvRep0 w B β m a (vs.getD i Go.undef)
  | a, v => AvRep0 w B β m a v

def ObRep (id : Nat) : O → Prop
  | .gone => True
  | .box ty cells => ∃ (l : Loc) (cs : Array Value), β id = some l ∧ w.heap[l.b]? = some (.cells cs ty (0, 0)) ∧ cs.size = cells.length ∧
      ∀ (j : Nat) (a : AV), cells[j]? = some a → AvRep0 w B β m a (cs.getD j Go.undef)
  | .arr ty sz rows => (∀ r ∈ rows, r.length = sz) ∧ 0 < sz ∧ ((β id = none ∧ rows = []) ∨
      ∃ (l : Loc) (cs : Array Value), β id = some l ∧ w.heap[l.b]? = some (.cells cs ty (0, 0)) ∧ cs.size = l.base + l.tot * sz ∧ rows.length ≤ l.tot ∧ l.tot ≤ maxLen ∧
        ∀ (j : Nat) (d : D), rows.flatten[j]? = some d → Rep w B (cs.getD (l.base + j) Go.undef) d)
end

/-- An object stays of its make, or is given up. -/
def O.sub : O → O → Prop
  | .gone, o' => o' = .gone
  | .box _ _, o' => o' = .gone ∨ ∃ ty cells, o' = .box ty cells
  | .arr _ sz rows, o' => o' = .gone ∨ ∃ ty rows', o' = .arr ty sz rows' ∧ rows.length ≤ rows'.length

theorem O.sub_refl (o : O) : o.sub o := by
  cases o with
  | gone => rfl
  | box ty cells => exact .inr ⟨_, _, rfl⟩
  | arr ty sz rows => exact .inr ⟨_, _, rfl, Nat.le_refl _⟩
theorem O.sub_gone (o : O) : o.sub .gone := by
  cases o with
  | gone => rfl
  | box ty cells => exact .inl rfl
  | arr ty sz rows => exact .inl rfl

/-- The objects go on: each old one stays of its make at its place, or is given up. -/
def Goes (β : Nat → Option Loc) (m : Nat → Option O) (β' : Nat → Option Loc) (m' : Nat → Option O) : Prop :=
  ∀ id o, m id = some o → ∃ o', m' id = some o' ∧ o.sub o' ∧ (o'.live = true → β' id = β id)

theorem Goes.refl (β : Nat → Option Loc) (m : Nat → Option O) : Goes β m β m := fun _ o h => ⟨o, h, o.sub_refl, fun _ => rfl⟩

theorem BoxAt.keep {β β' : Nat → Option Loc} {m m' : Nat → Option O} (g : Goes β m β' m') {id off : Nat} {v : Value} (h : BoxAt β m id off v) : BoxAt β' m' id off v := by
  unfold BoxAt at h ⊢
  cases ho : m id with
  | none => simp [ho] at h
  | some o =>
    obtain ⟨o', ho', hs, hl⟩ := g id o ho
    rw [ho']
    cases o with
    | gone => rw [show o' = .gone from hs]; trivial
    | arr ty sz rows => simp [ho] at h
    | box ty cells =>
      rcases hs with rfl | ⟨ty', cells', rfl⟩
      · trivial
      · simp only [ho] at h
        rw [hl rfl]; exact h

theorem AvRep0.keep {w w' : World} {B B' : Nat → Prop} {β β' : Nat → Option Loc} {m m' : Nat → Option O} (k : Keeps w B w' B') (g : Goes β m β' m') {a : AV} {v : Value}
    (h : AvRep0 w B β m a v) : AvRep0 w' B' β' m' a v := by
  cases a with
  | dead => trivial
  | undef => exact h
  | imm d => exact Rep.keep k h
  | tup l => exact h
  | box id off => exact BoxAt.keep g h
  | clo f ids =>
    obtain ⟨vs, hv, hs, hi⟩ := h
    exact ⟨vs, hv, hs, fun i id hid => (hi i id hid).keep g⟩
  | own id off len =>
    simp only [AvRep0] at h ⊢
    cases ho : m id with
    | none => simp [ho] at h
    | some o =>
      obtain ⟨o', ho', hs, hl⟩ := g id o ho
      rw [ho']
      cases o with
      | gone => rw [show o' = .gone from hs]; trivial
      | box ty cells => simp [ho] at h
      | arr ty sz rows =>
        rcases hs with rfl | ⟨ty', rows', rfl, hlen⟩
        · trivial
        · simp only [ho] at h
          rw [hl rfl]; exact ⟨Nat.le_trans h.1 hlen, h.2⟩
  | eptr id row off =>
    simp only [AvRep0] at h ⊢
    cases ho : m id with
    | none => simp [ho] at h
    | some o =>
      obtain ⟨o', ho', hs, hl⟩ := g id o ho
      rw [ho']
      cases o with
      | gone => rw [show o' = .gone from hs]; trivial
      | box ty cells => simp [ho] at h
      | arr ty sz rows =>
        rcases hs with rfl | ⟨ty', rows', rfl, hlen⟩
        · trivial
        · simp only [ho] at h
          rw [hl rfl]; exact ⟨Nat.lt_of_lt_of_le h.1 hlen, h.2⟩

theorem AvRep.keep {w w' : World} {B B' : Nat → Prop} {β β' : Nat → Option Loc} {m m' : Nat → Option O} (k : Keeps w B w' B') (g : Goes β m β' m') {a : AV} {v : Value}
    (h : AvRep w B β m a v) : AvRep w' B' β' m' a v := by
  cases a with
  | tup l =>
    obtain ⟨vs, hv, hs, hi⟩ := h
    exact ⟨vs, hv, hs, fun i a ha => (hi i a ha).keep k g⟩
  | dead => trivial
  | undef => exact h
  | imm d => exact Rep.keep k h
  | box id off => exact BoxAt.keep g h
  | own id off len => exact AvRep0.keep (a := .own id off len) k g h
  | eptr id row off => exact AvRep0.keep (a := .eptr id row off) k g h
  | clo f ids => exact AvRep0.keep (a := .clo f ids) k g h

end Go.Am
