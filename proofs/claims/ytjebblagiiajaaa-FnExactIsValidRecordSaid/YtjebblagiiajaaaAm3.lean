/- The abstract machine, part 3: a table of types that the kernel holds against the program, and runs of the model's operations on memory. Over any program. -/
import Derived.Test.YtjebblagiiajaaaAm2
namespace Go.Am
open Go

inductive TD where
  | int (k : IntKind)
  | bool
  | str
  | struct (fs : List (Nat × Nat × Bool))
  | slice (e : TypeId)
  | array (n : Nat) (e : TypeId)
  | ptr (e : TypeId)
  | func
  | other

structure TI where
  d : TD
  size : Nat
  bytes : Nat
  zero : List D

def TI.agg (ti : TI) : Bool :=
  match ti.d with
  | .struct _ | .array _ _ => true
  | _ => false

def zcell : Value → D → Bool
  | .int k n, .int k' n' => decide (k = k') && decide (n = n')
  | .bool b, .bool b' => decide (b = b')
  | .string s, .str s' => decide (s = s')
  | .slice none 0 0, .list [] => true
  | .pointer none, .other (.pointer none) => true
  | .nilFunc, .other .nilFunc => true
  | .nilIface, .other .nilIface => true
  | _, _ => false

def zall : List Value → List D → Bool
  | [], [] => true
  | v :: vs, d :: ds => zcell v d && zall vs ds
  | _, _ => false

def aggB (P : Program) (t : TypeId) : Option Bool :=
  match P.underlying t with
  | some (.struct _) | some (.array _ _) => some true
  | some _ => some false
  | none => none

def fieldsB (P : Program) : List Field → List (Nat × Nat × Bool) → Bool
  | [], [] => true
  | f :: fs, x :: xs => decide (f.offset = x.1) && decide ((P.info? f.type).map (·.size) = some x.2.1) && decide (x.2.1 ≠ 0) && decide (aggB P f.type = some x.2.2) && fieldsB P fs xs
  | _, _ => false

def chkD (P : Program) (t : TypeId) (d : TD) : Bool :=
  match P.underlying t, d with
  | some (.int k), .int k' => decide (k = k')
  | some .bool, .bool => true
  | some .string, .str => true
  | some (.struct fields), .struct fs => fieldsB P fields.toList fs
  | some (.slice e), .slice e' => decide (e = e')
  | some (.array n e), .array n' e' => decide (n = n') && decide (e = e')
  | some (.pointer e), .ptr e' => decide (e = e')
  | some (.func _ _ _), .func => true
  | some (.struct _), .other | some (.array _ _), .other => false
  | some _, .other => true
  | _, _ => false

def chk (P : Program) (t : TypeId) (ti : TI) : Bool :=
  match P.info? t with
  | none => false
  | some i => decide (i.size = ti.size) && decide (i.bytes = ti.bytes) && (match i.zero with | some z => zall z.cells.toList ti.zero && decide (ti.zero.length = ti.size) | none => false) && chkD P t ti.d

/-- The table holds of the program. -/
def TOk (P : Program) (T : TypeId → Option TI) : Prop := ∀ t ti, T t = some ti → chk P t ti = true

theorem zcell_rep (w : World) (B : Nat → Prop) {v : Value} {d : D} (h : zcell v d = true) : Rep w B v d := by
  unfold zcell at h
  split at h
  · simp only [Bool.and_eq_true, decide_eq_true_eq] at h; obtain ⟨rfl, rfl⟩ := h; exact .int _ _
  · simp only [decide_eq_true_eq] at h; subst h; exact .bool _
  · simp only [decide_eq_true_eq] at h; subst h; exact .str _
  · exact .nil _ _
  · exact .other _
  · exact .other _
  · exact .other _
  · cases h

theorem zall_rep (w : World) (B : Nat → Prop) : ∀ (vs : List Value) (ds : List D), zall vs ds = true → vs.length = ds.length ∧ ∀ (j : Nat) (d : D), ds[j]? = some d → ∃ v, vs[j]? = some v ∧ Rep w B v d
  | [], [], _ => ⟨rfl, fun j d h => by simp at h⟩
  | [], _ :: _, h => by simp [zall] at h
  | _ :: _, [], h => by simp [zall] at h
  | v :: vs, d :: ds, h => by
    simp only [zall, Bool.and_eq_true] at h
    obtain ⟨h1, h2⟩ := zall_rep w B vs ds h.2
    refine ⟨by simp [h1], fun j d' hj => ?_⟩
    cases j with
    | zero => simp at hj; subst hj; exact ⟨v, rfl, zcell_rep w B h.1⟩
    | succ j => simpa using h2 j d' (by simpa using hj)

theorem fieldsB_at (P : Program) : ∀ (fl : List Field) (fs : List (Nat × Nat × Bool)), fieldsB P fl fs = true → ∀ (j : Nat) (x : Nat × Nat × Bool), fs[j]? = some x →
    ∃ f, fl[j]? = some f ∧ f.offset = x.1 ∧ (P.info? f.type).map (·.size) = some x.2.1 ∧ x.2.1 ≠ 0 ∧ aggB P f.type = some x.2.2
  | [], [], _, j, x, hx => by simp at hx
  | [], _ :: _, h, _, _, _ => by simp [fieldsB] at h
  | _ :: _, [], h, _, _, _ => by simp [fieldsB] at h
  | f :: fl, y :: fs, h, j, x, hx => by
    simp only [fieldsB, Bool.and_eq_true, decide_eq_true_eq] at h
    obtain ⟨⟨⟨⟨h1, h2⟩, h3⟩, h4⟩, h5⟩ := h
    cases j with
    | zero => simp at hx; subst hx; exact ⟨f, rfl, h1, h2, h3, h4⟩
    | succ j => simpa using fieldsB_at P fl fs h5 j x (by simpa using hx)

section
variable {P : Program} {T : TypeId → Option TI} (hT : TOk P T) {t : TypeId} {ti : TI} (ht : T t = some ti)
include hT ht

theorem TOk.zlen : ti.zero.length = ti.size := by
  have h := hT t ti ht
  unfold chk at h
  split at h
  · cases h
  · simp only [Bool.and_eq_true, decide_eq_true_eq] at h
    obtain ⟨⟨_, h3⟩, _⟩ := h
    split at h3
    · simp only [Bool.and_eq_true, decide_eq_true_eq] at h3; exact h3.2
    · cases h3

theorem TOk.info : ∃ i z, P.info? t = some i ∧ i.size = ti.size ∧ i.bytes = ti.bytes ∧ i.zero = some z ∧ zall z.cells.toList ti.zero = true := by
  have h := hT t ti ht
  unfold chk at h
  split at h
  · cases h
  · rename_i i hi
    simp only [Bool.and_eq_true, decide_eq_true_eq] at h
    obtain ⟨⟨⟨h1, h2⟩, h3⟩, _⟩ := h
    split at h3
    · rename_i z hz
      simp only [Bool.and_eq_true] at h3
      exact ⟨i, z, hi, h1, h2, hz, h3.1⟩
    · cases h3

theorem TOk.desc : chkD P t ti.d = true := by
  have h := hT t ti ht
  unfold chk at h
  split at h
  · cases h
  · simp only [Bool.and_eq_true, decide_eq_true_eq] at h
    exact h.2

theorem TOk.isAgg (w : World) : (Go.isAgg t).run P w = .ok ti.agg w := by
  have h := hT.desc ht
  unfold chkD at h
  unfold Go.isAgg TI.agg
  cases hu : P.underlying t with
  | none => simp [hu] at h
  | some d =>
    simp only [Sem.run_bind, run_underlying hu, Result.andThen_ok]
    cases d <;> cases hd : ti.d <;> simp [hu, hd] at h ⊢

theorem TOk.sizeOf (w : World) : (Go.sizeOf t).run P w = .ok ti.size w := by
  obtain ⟨i, z, h1, h2, _⟩ := hT.info ht
  simp [Go.sizeOf, typeInfo, h1, h2]

theorem TOk.slice {e : TypeId} (hd : ti.d = .slice e) : P.underlying t = some (.slice e) := by
  have h := hT.desc ht
  unfold chkD at h
  cases hu : P.underlying t with
  | none => simp [hu] at h
  | some d => cases d <;> simp [hu, hd] at h; subst h; rfl
theorem TOk.array {n : Nat} {e : TypeId} (hd : ti.d = .array n e) : P.underlying t = some (.array n e) := by
  have h := hT.desc ht
  unfold chkD at h
  cases hu : P.underlying t with
  | none => simp [hu] at h
  | some d => cases d <;> simp [hu, hd] at h; obtain ⟨rfl, rfl⟩ := h; rfl
theorem TOk.str (hd : ti.d = .str) : P.underlying t = some .string := by
  have h := hT.desc ht
  unfold chkD at h
  cases hu : P.underlying t with
  | none => simp [hu] at h
  | some d => cases d <;> simp [hu, hd] at h; rfl
theorem TOk.int {k : IntKind} (hd : ti.d = .int k) : P.underlying t = some (.int k) := by
  have h := hT.desc ht
  unfold chkD at h
  cases hu : P.underlying t with
  | none => simp [hu] at h
  | some d => cases d <;> simp [hu, hd] at h; subst h; rfl
theorem TOk.struct {fs : List (Nat × Nat × Bool)} (hd : ti.d = .struct fs) : ∃ fields, P.underlying t = some (.struct fields) ∧ ∀ (j : Nat) (x : Nat × Nat × Bool), fs[j]? = some x →
    ∃ f, fields[j]? = some f ∧ f.offset = x.1 ∧ (P.info? f.type).map (·.size) = some x.2.1 ∧ x.2.1 ≠ 0 ∧ aggB P f.type = some x.2.2 := by
  have h := hT.desc ht
  unfold chkD at h
  cases hu : P.underlying t with
  | none => simp [hu] at h
  | some d =>
    cases d <;> simp [hu, hd] at h
    rename_i fields
    refine ⟨fields, rfl, fun j x hx => ?_⟩
    obtain ⟨f, hf, r⟩ := fieldsB_at P _ _ h j x hx
    exact ⟨f, by simpa using hf, r⟩
end

/-! ### Runs -/
section
variable {P : Program} {w : World}

theorem cell_at {b : Nat} {cs : Array Value} {ty : TypeId} {fz : Nat × Nat} (h : w.heap[b]? = some (.cells cs ty fz)) (o : Nat) : w.cell? ⟨b, o, none⟩ = cs[o]? := by simp [World.cell?, h]

theorem getD_of {cs : Array Value} {o : Nat} (h : o < cs.size) : cs[o]? = some (cs.getD o Go.undef) := by simp [h, Array.getD]

theorem run_load_at {b o : Nat} {cs : Array Value} {ty : TypeId} {fz : Nat × Nat} (h : w.heap[b]? = some (.cells cs ty fz)) (ho : o < cs.size) :
    w.cell? ⟨b, o, none⟩ = some (cs.getD o Go.undef) := by rw [cell_at h, getD_of ho]

/-- A whole variable is read: a struct, or one cell. -/
theorem run_loadAt {T : TypeId → Option TI} (hT : TOk P T) {t : TypeId} {ti : TI} (ht : T t = some ti) (ad : Addr) (g : Nat → Value)
    (h : ∀ j, j < (if ti.agg then ti.size else 1) → w.cell? (ad.add j) = some (g j)) :
    (Instr.loadAt t (.pointer (some ad))).run P w = .ok (if ti.agg then .agg ((List.range ti.size).map g).toArray else g 0) w := by
  have e0 : (Instr.sureAddr (.pointer (some ad))).run P w = .ok ad w := rfl
  simp only [Instr.loadAt, Sem.run_bind, e0, Result.andThen_ok, loadVar, hT.isAgg ht]
  cases hag : ti.agg with
  | true =>
    simp only [hag, if_true] at h ⊢
    simp only [Sem.run_bind, hT.sizeOf ht, Result.andThen_ok, run_loadCells w ad ti.size g h, Sem.run_pure]
  | false =>
    simp only [hag, Bool.false_eq_true, if_false] at h ⊢
    have h0 := h 0 (by omega)
    simp only [Addr.add_zero'] at h0
    rw [run_load, h0]

/-- Cells are written in a row of one block. -/
theorem run_storeCells (b o : Nat) (ty : TypeId) (vs : List Value) (cs : Array Value) (h : w.heap[b]? = some (.cells cs ty (0, 0))) (hl : o + vs.length ≤ cs.size) (h1 : ∀ v ∈ vs, v.oneCell' = true) :
    ∃ w' cs', (storeCells ⟨b, o, none⟩ vs).run P w = .ok () w' ∧ w'.heap[b]? = some (.cells cs' ty (0, 0)) ∧ cs'.size = cs.size ∧
      (∀ j, cs'.getD j Go.undef = if o ≤ j ∧ j < o + vs.length then vs.getD (j - o) Go.undef else cs.getD j Go.undef) ∧
      (∀ b', b' ≠ b → w'.heap[b']? = w.heap[b']?) ∧ w'.heap.size = w.heap.size ∧ w'.os = w.os ∧ w'.tape = w.tape ∧ w'.output = w.output := by
  have hr := run_storeCells_at P b o ty vs 0 cs w h (by simpa using hl) h1
  simp only [Nat.add_zero] at hr
  refine ⟨_, _, hr, setRow_heap w b cs _ ty _ h, ?_, ?_, fun b' hb => setRow_other w b b' _ hb, by simp [World.setRow], rfl, rfl, rfl⟩
  · simp; omega
  · intro j
    simp only [Array.getD_eq_getD_getElem?, List.getElem?_toArray, List.getD_eq_getElem?_getD]
    rw [List.append_assoc, List.getElem?_append, List.length_take, Array.length_toList]
    by_cases hjo : j < o
    · rw [if_pos (by omega), if_neg (by omega), List.getElem?_take, if_pos hjo]
      simp
    · rw [if_neg (by omega), List.getElem?_append]
      have e1 : j - min o cs.size = j - o := by omega
      rw [e1]
      by_cases hj2 : j - o < vs.length
      · rw [if_pos hj2, if_pos (by omega)]
      · rw [if_neg hj2, if_neg (by omega), List.getElem?_drop]
        have e2 : o + vs.length + (j - o - vs.length) = j := by omega
        rw [e2]; simp

theorem run_storeAt {T : TypeId → Option TI} (hT : TOk P T) {t : TypeId} {ti : TI} (ht : T t = some ti) (b o : Nat) (v : Value) (ty : TypeId) (cs : Array Value) (hsz : v.cells.size = ti.size)
    (h : w.heap[b]? = some (.cells cs ty (0, 0))) (hl : o + ti.size ≤ cs.size) (h1 : ∀ u ∈ v.cells.toList, u.oneCell' = true) :
    ∃ w' cs', (Instr.storeAt t (.pointer (some ⟨b, o, none⟩)) v).run P w = .ok () w' ∧ w'.heap[b]? = some (.cells cs' ty (0, 0)) ∧ cs'.size = cs.size ∧
      (∀ j, cs'.getD j Go.undef = if o ≤ j ∧ j < o + ti.size then v.cells.getD (j - o) Go.undef else cs.getD j Go.undef) ∧
      (∀ b', b' ≠ b → w'.heap[b']? = w.heap[b']?) ∧ w'.heap.size = w.heap.size ∧ w'.os = w.os ∧ w'.tape = w.tape ∧ w'.output = w.output := by
  obtain ⟨w', cs', hr, r⟩ := run_storeCells (P := P) b o ty v.cells.toList cs h (by simpa [hsz] using hl) h1
  have e0 : (Instr.sureAddr (.pointer (some (⟨b, o, none⟩ : Addr)))).run P w = .ok ⟨b, o, none⟩ w := rfl
  refine ⟨w', cs', ?_, r.1, r.2.1, ?_, r.2.2.2⟩
  · simp only [Instr.storeAt, Sem.run_bind, e0, Result.andThen_ok, storeVar, hT.sizeOf ht]
    rw [if_neg (by simp [hsz])]
    exact hr
  · intro j
    rw [r.2.2.1 j]
    simp only [Array.length_toList, hsz]
    simp [Array.getD_eq_getD_getElem?, List.getD_eq_getElem?_getD]

/-- append within the capacity, anywhere in a block. -/
theorem run_append_room' (t ty e : TypeId) (i : TypeInfo) (ht : P.underlying t = some (.slice e)) (hi : P.info? e = some i)
    (g o sLen sCap : Nat) (cs : Array Value) (hg : w.heap[g]? = some (.cells cs e (0, 0)))
    (a : Addr) (m c : Nat) (news : List Value) (hl : news.length = m * i.size) (hnews : ∀ (j : Nat) (u : Value), news[j]? = some u → w.cell? (a.add j) = some u) (h1 : ∀ u ∈ news, u.oneCell' = true)
    (hroom : sLen + m ≤ sCap) (hfit : o + sLen * i.size + news.length ≤ cs.size) :
    ∃ w' cs', (Builtin.append_ #[t, t] ty #[.slice (some ⟨g, o, none⟩) sLen sCap, .slice (some a) m c]).run P w = .ok (.slice (some ⟨g, o, none⟩) (sLen + m) sCap) w' ∧
      w'.heap[g]? = some (.cells cs' e (0, 0)) ∧ cs'.size = cs.size ∧
      (∀ j, cs'.getD j Go.undef = if o + sLen * i.size ≤ j ∧ j < o + sLen * i.size + news.length then news.getD (j - (o + sLen * i.size)) Go.undef else cs.getD j Go.undef) ∧
      (∀ b', b' ≠ g → w'.heap[b']? = w.heap[b']?) ∧ w'.heap.size = w.heap.size ∧ w'.os = w.os ∧ w'.tape = w.tape ∧ w'.output = w.output := by
  have hf := run_firstCells_some (P := P) w i.size m a m c news hl hnews
  obtain ⟨w', cs', hr, r⟩ := run_storeCells (P := P) g (o + sLen * i.size) e news cs hg hfit h1
  refine ⟨w', cs', ?_, r⟩
  simp [Builtin.append_, run_underlying ht, sizeOf, typeInfo, hi, Builtin.lenOf, hroom, hf, Addr.add_lit, hr]

end
end Go.Am
