/- The abstract machine, part 7: operations that read, make or write memory. -/
import Derived.Test.YtjebblagiiajaaaAm6
namespace Go.Am
open Go

/-- A value as the cells of a variable of this call's own. -/
def acells (m : Nat → Option O) : AV → Option (List AV)
  | .imm (.agg ds) => if ds.all D.one then some (ds.map .imm) else none
  | .imm d => if d.one then some [.imm d] else none
  | .own id off len => match m id with | some (.arr _ _ _) => some [.own id off len] | _ => none
  | .box id off => match m id with | some (.box _ _) => some [.box id off] | _ => none
  | .eptr id r off => match m id with | some (.arr _ _ _) => some [.eptr id r off] | _ => none
  | .clo f ids => some [.clo f ids]
  | _ => none

/-- A value as plain data in a row; an array of this call's own is given up for it. -/
def dcells (m : Nat → Option O) : AV → Option (List D × List Nat)
  | .imm (.agg ds) => if ds.all D.one then some (ds, []) else none
  | .imm d => if d.one then some ([d], []) else none
  | .own id off len => match m id with | some (.arr _ _ rows) => some ([.list ((rows.drop off).take len)], [id]) | _ => none
  | _ => none

def imms : List AV → Option (List D)
  | [] => some []
  | .imm d :: r => (imms r).map (d :: ·)
  | _ :: _ => none

def kills (ks : List Nat) : List (Nat × O) := ks.map fun i => (i, .gone)

def setAt {α : Type} (l : List α) (o : Nat) (vs : List α) : List α := l.take o ++ vs ++ l.drop (o + vs.length)

def opMove (T : TypeId → Option TI) (m : Nat → Option O) (ep : Nat) (o : Oper) (x : Operand) (av : AV) (K : Eff → Prop) : Prop :=
  match x with
  | .const (.slice none 0 0) =>
    match o.dst, T o.type with
    | some d, some ⟨.slice e, _, _, _⟩ =>
      match T e with
      | some te => 0 < te.size ∧ m (nid ep d) = none ∧ K ⟨.own (nid ep d) 0 0, [(nid ep d, .arr e te.size [])]⟩
      | none => False
    | _, _ => False
  | _ => K ⟨av, []⟩

def opAlloc (T : TypeId → Option TI) (m : Nat → Option O) (ep : Nat) (o : Oper) (t : TypeId) (K : Eff → Prop) : Prop :=
  match o.dst, T t with
  | some d, some ti => m (nid ep d) = none ∧ K ⟨.box (nid ep d) 0, [(nid ep d, .box t (ti.zero.map .imm))]⟩
  | _, _ => False

def opBox (m : Nat → Option O) (ep : Nat) (o : Oper) (t : TypeId) (x : AV) (K : Eff → Prop) : Prop :=
  match o.dst, acells m x with
  | some d, some cells => m (nid ep d) = none ∧ K ⟨.box (nid ep d) 0, [(nid ep d, .box t cells)]⟩
  | _, _ => False

def opLoad (T : TypeId → Option TI) (m : Nat → Option O) (t : TypeId) (x : AV) (K : Eff → Prop) : Prop :=
  match T t with
  | none => False
  | some ti =>
    match x with
    | .imm (.ptr ds) =>
      match ti.agg with
      | true => ti.size ≤ ds.length ∧ K ⟨.imm (.agg (ds.take ti.size)), []⟩
      | false => match ds with | d :: _ => K ⟨.imm d, []⟩ | [] => False
    | .box id off =>
      match m id with
      | some (.box _ cells) =>
        match ti.agg with
        | true => off + ti.size ≤ cells.length ∧ match imms ((cells.drop off).take ti.size) with | some ds => K ⟨.imm (.agg ds), []⟩ | none => False
        | false => match cells[off]? with | some (.tup _) => False | some av => K ⟨av, []⟩ | none => False
      | _ => False
    | .eptr id row off =>
      match m id with
      | some (.arr _ _ rows) =>
        match rows[row]? with
        | some r =>
          match ti.agg with
          | true => off + ti.size ≤ r.length ∧ K ⟨.imm (.agg ((r.drop off).take ti.size)), []⟩
          | false => match r[off]? with | some d => K ⟨.imm d, []⟩ | none => False
        | none => False
      | _ => False
    | _ => False

def opStore (T : TypeId → Option TI) (m : Nat → Option O) (t : TypeId) (x v : AV) (K : Eff → Prop) : Prop :=
  match T t with
  | none => False
  | some ti =>
    match x with
    | .box id off =>
      match m id, acells m v with
      | some (.box ty cells), some vs => vs.length = ti.size ∧ off + ti.size ≤ cells.length ∧ K ⟨.undef, [(id, .box ty (setAt cells off vs))]⟩
      | _, _ => False
    | .eptr id row off =>
      match m id, dcells m v with
      | some (.arr ty sz rows), some (vs, ks) =>
        match rows[row]? with
        | some r => vs.length = ti.size ∧ off + ti.size ≤ r.length ∧ id ∉ ks ∧ K ⟨.undef, kills ks ++ [(id, .arr ty sz (rows.set row (setAt r off vs)))]⟩
        | none => False
      | _, _ => False
    | _ => False

def opMake (T : TypeId → Option TI) (m : Nat → Option O) (ep : Nat) (o : Oper) (t : TypeId) (len cap : AV) (K : Eff → Prop) : Prop :=
  match o.dst, T t, len, cap with
  | some d, some ⟨.slice e, _, _, _⟩, .imm (.int _ n), .imm (.int _ c) =>
    match T e with
    | some te => 0 ≤ n ∧ n ≤ c ∧ (te.bytes : Int) * c ≤ 281474976710656 ∧ c ≤ 4611686018427387904 ∧ 0 < te.size ∧ te.zero.length = te.size ∧ m (nid ep d) = none ∧
        K ⟨.own (nid ep d) 0 n.toNat, [(nid ep d, .arr e te.size (List.replicate n.toNat te.zero))]⟩
    | none => False
  | _, _, _, _ => False

section
variable {w : World} {B : Nat → Prop} {β : Nat → Option Loc} {m : Nat → Option O}

theorem cells_one {v : Value} (h : v.oneCell' = true) : v.cells = #[v] := by cases v <;> first | rfl | (simp [Value.oneCell'] at h)

/-- What the cells of a value are. -/
structure CellsAre (w : World) (B : Nat → Prop) (β : Nat → Option Loc) (m : Nat → Option O) (v : Value) (cells : List AV) : Prop where
  size : v.cells.size = cells.length
  one : ∀ u ∈ v.cells.toList, u.oneCell' = true
  rep : ∀ (j : Nat) (c : AV), cells[j]? = some c → AvRep0 w B β m c (v.cells.getD j Go.undef)

theorem CellsAre.mk1 {v : Value} {c : AV} (h1 : v.oneCell' = true) (hc : AvRep0 w B β m c v) : CellsAre w B β m v [c] := by
  have e := cells_one h1
  refine ⟨by rw [e]; rfl, fun u hu => ?_, fun j c' hj => ?_⟩
  · rw [e] at hu; simp at hu; subst hu; exact h1
  · rw [e]
    cases j with
    | zero => simp at hj; subst hj; exact hc
    | succ j => simp at hj

theorem CellsAre.agg {ds : List D} (hall : ds.all D.one = true) {v : Value} (hv : Rep w B v (.agg ds)) : CellsAre w B β m v (ds.map .imm) := by
  obtain ⟨vs, rfl, hs, hj⟩ := rep_agg hv
  refine ⟨by simpa [Value.cells] using hs, fun u hu => ?_, fun j c hcj => ?_⟩
  · obtain ⟨j, hj1, hj2⟩ := List.getElem_of_mem hu
    simp only [Value.cells, Array.length_toList] at hj1
    have hlt : j < ds.length := by omega
    have hr := hj j ds[j] (List.getElem?_eq_getElem hlt)
    have e1 : vs.getD j Go.undef = u := by simp only [Value.cells, Array.getElem_toList] at hj2; simp [Array.getD, hj1, hj2]
    rw [e1] at hr
    exact Rep.one hr (by simpa using (List.all_eq_true.1 hall) ds[j] (List.getElem_mem hlt))
  · simp only [List.getElem?_map, Option.map_eq_some_iff] at hcj
    obtain ⟨d, hd, rfl⟩ := hcj
    exact hj j d hd

theorem acells_rep {av : AV} {cells : List AV} (hc : acells m av = some cells) {v : Value} (hv : AvRep w B β m av v) : CellsAre w B β m v cells := by
  unfold acells at hc
  split at hc
  · rename_i ds
    split at hc
    · rename_i hall
      injection hc with hc
      subst hc
      exact .agg hall hv
    · cases hc
  · rename_i d hnd
    split at hc
    · rename_i h1
      injection hc with hc
      subst hc
      exact .mk1 (Rep.one (show Rep w B v d from hv) h1) hv
    · cases hc
  · rename_i id off len
    split at hc
    · rename_i ty sz rows hm
      injection hc with hc
      subst hc
      refine .mk1 ?_ hv
      have hv' : AvRep0 w B β m (.own id off len) v := hv
      simp only [AvRep0, hm] at hv'
      rcases hv'.2 with ⟨_, rfl⟩ | ⟨l, ad, _, rfl, _⟩ <;> rfl
    · cases hc
  · rename_i id off
    split at hc
    · rename_i ty cells' hm
      injection hc with hc
      subst hc
      refine .mk1 ?_ hv
      have hv' : AvRep0 w B β m (.box id off) v := hv
      simp only [AvRep0, BoxAt, hm] at hv'
      obtain ⟨l, _, rfl⟩ := hv'
      rfl
    · cases hc
  · rename_i id r off
    split at hc
    · rename_i ty sz rows hm
      injection hc with hc
      subst hc
      refine .mk1 ?_ hv
      have hv' : AvRep0 w B β m (.eptr id r off) v := hv
      simp only [AvRep0, hm] at hv'
      obtain ⟨_, l, _, rfl⟩ := hv'
      rfl
    · cases hc
  · rename_i f ids
    injection hc with hc
    subst hc
    refine .mk1 ?_ hv
    have hv' : AvRep0 w B β m (.clo f ids) v := hv
    obtain ⟨vs, rfl, _⟩ := hv'
    rfl
  · cases hc

end

section
variable {P : Program} {T : TypeId → Option TI} (hT : TOk P T) {w0 w : World} {A : Nat → Prop} {locs : List (Option Loc)} {β : Nat → Option Loc} {σ : S} {a : Act}
variable (h : Sim w0 A locs β σ a w) {o : Oper} (hd : ∀ d, o.dst = some d → d < σ.n) {K : Eff → Prop} {m' : Nat → Option O} (hm : ∀ id ob, m' id = some ob → σ.m id = some ob)
variable (hn : ∀ d, o.dst = some d → m' (nid σ.ep d) = none → σ.m (nid σ.ep d) = none)

theorem Sim.app {e : Eff} {v : Value} {w' : World} {β' : Nat → Option Loc} (hd : ∀ d, o.dst = some d → d < σ.n) (hs : Sim w0 A locs β' { σ with m := upm σ.m e.up } a w')
    (hv : AvRep w' (Bl A β' (upm σ.m e.up)) β' (upm σ.m e.up) e.v v) : Sim w0 A locs β' (σ.app o.dst e) (a.put o.dst v) w' := by
  have := hs.put (dst := o.dst) (v := v) (av := e.v) hd hv
  cases hdst : o.dst with
  | none => rw [hdst] at this; exact this
  | some d => rw [hdst] at this; exact this

include h hd hn in
theorem good_move {x : Operand} (ho : o.op = .move x ∨ o.op = .assign x) (hk : opMove T m' σ.ep o x (σ.ev x) K) : Good P w0 A locs σ a w o K := by
  have hrun : (execOp a.eval o).run P w = .ok (.value (a.eval x)) w := by
    rcases ho with ho | ho <;> simp [execOp, ho]
  unfold opMove at hk
  split at hk
  · split at hk
    · rename_i d e _ _ _ hdst ht
      split at hk
      · rename_i te hte
        obtain ⟨h1, h2, hK⟩ := hk
        have hs := h.newNil (id := nid σ.ep d) e te.size (hn d hdst h2) h1
        refine ⟨_, _, _, w, hK, .inl hrun, Sim.app hd hs ?_⟩
        simp only [upm, AvRep, AvRep0, upd_same, Act.eval]
        exact ⟨by simp, .inl ⟨trivial, trivial⟩⟩
      · exact hk.elim
    · exact hk.elim
  · exact h.val hd hk hrun (h.ev x)

include hT h hd hn in
theorem good_alloc {t : TypeId} (ho : o.op = .alloc t) (hk : opAlloc T m' σ.ep o t K) : Good P w0 A locs σ a w o K := by
  unfold opAlloc at hk
  split at hk
  · rename_i d ti hdst ht
    obtain ⟨h1, hK⟩ := hk
    obtain ⟨i, z, hi, hsz, hby, hz, hzall⟩ := hT.info ht
    have hs := h.new_ (id := nid σ.ep d) (o := .box t (ti.zero.map .imm)) (cs := z.cells) (ty := t) (l := ⟨w.heap.size, 0, 0⟩) (hn d hdst h1) rfl
      (fun w' B' β' m'' k g h2 h3 h4 => ⟨_, _, h2, h4, by have := (zall_rep w' B' _ _ hzall).1; simpa using this, fun j av hj => by
        simp only [List.getElem?_map, Option.map_eq_some_iff] at hj
        obtain ⟨dd, hdd, rfl⟩ := hj
        obtain ⟨v, hv, hr⟩ := (zall_rep w' B' _ _ hzall).2 j dd hdd
        have e : z.cells.getD j Go.undef = v := by
          have : z.cells[j]? = some v := by simpa using hv
          simp [Array.getD_eq_getD_getElem?, this]
        rw [e]; exact hr⟩)
    refine ⟨_, _, .pointer (some ⟨w.heap.size, 0, none⟩), _, hK, .inl ?_, Sim.app hd hs ?_⟩
    · simp [execOp, ho, Instr.alloc, zeroValue, typeInfo, hi, hz, newVar, newRow]
    · simp only [upm, AvRep, AvRep0, BoxAt, upd_same]
      exact ⟨_, rfl, rfl⟩
  · exact hk.elim

include h hd hm hn in
theorem good_box {t : TypeId} {x : Operand} (ho : o.op = .box t x) (hk : opBox m' σ.ep o t (σ.ev x) K) : Good P w0 A locs σ a w o K := by
  unfold opBox at hk
  split at hk
  · rename_i d cells hdst hc
    obtain ⟨h1, hK⟩ := hk
    have hc' : acells σ.m (σ.ev x) = some cells := by
      unfold acells at hc ⊢
      split at hc <;> first
        | exact hc
        | (split at hc
           · rename_i hmm; rw [hm _ _ hmm]; exact hc
           · cases hc)
    have hca := acells_rep hc' (h.ev x)
    have hs := h.new_ (id := nid σ.ep d) (o := .box t cells) (cs := (a.eval x).cells) (ty := t) (l := ⟨w.heap.size, 0, 0⟩) (hn d hdst h1) rfl
      (fun w' B' β' m'' k g h2 h3 h4 => ⟨_, _, h2, h4, hca.size, fun j av hj => (hca.rep j av hj).keep k g⟩)
    refine ⟨_, _, .pointer (some ⟨w.heap.size, 0, none⟩), _, hK, .inl ?_, Sim.app hd hs ?_⟩
    · simp [execOp, ho, Instr.box, newVar, newRow]
    · simp only [upm, AvRep, AvRep0, BoxAt, upd_same]
      exact ⟨_, rfl, rfl⟩
  · exact hk.elim

theorem imms_at : ∀ {l : List AV} {ds : List D}, imms l = some ds → l.length = ds.length ∧ ∀ (j : Nat) (d : D), ds[j]? = some d → l[j]? = some (.imm d)
  | [], ds, hi => by simp [imms] at hi; subst hi; exact ⟨rfl, fun j d hj => by simp at hj⟩
  | .imm d :: r, ds, hi => by
    simp only [imms, Option.map_eq_some_iff] at hi
    obtain ⟨ds', h1, rfl⟩ := hi
    obtain ⟨h2, h3⟩ := imms_at h1
    refine ⟨by simp [h2], fun j d' hj => ?_⟩
    cases j with
    | zero => simp at hj; subst hj; rfl
    | succ j => simpa using h3 j d' (by simpa using hj)
  | .dead :: _, _, hi => by simp [imms] at hi
  | .undef :: _, _, hi => by simp [imms] at hi
  | .own _ _ _ :: _, _, hi => by simp [imms] at hi
  | .box _ _ :: _, _, hi => by simp [imms] at hi
  | .eptr _ _ _ :: _, _, hi => by simp [imms] at hi
  | .clo _ _ :: _, _, hi => by simp [imms] at hi
  | .tup _ :: _, _, hi => by simp [imms] at hi

theorem range_getD (n : Nat) (g : Nat → Value) (j : Nat) (hj : j < n) : ((List.range n).map g).toArray.getD j Go.undef = g j := by
  simp [Array.getD, hj]

include hT h hd hm in
theorem good_load {t : TypeId} {x : Operand} (ho : o.op = .load t x) (hk : opLoad T m' t (σ.ev x) K) : Good P w0 A locs σ a w o K := by
  unfold opLoad at hk
  split at hk
  · exact hk.elim
  · rename_i ti ht
    have hx := h.ev x
    have hrun : ∀ (ad : Addr) (g : Nat → Value), a.eval x = .pointer (some ad) → (∀ j, j < (if ti.agg then ti.size else 1) → w.cell? (ad.add j) = some (g j)) →
        (execOp a.eval o).run P w = .ok (.value (if ti.agg then .agg ((List.range ti.size).map g).toArray else g 0)) w := fun ad g hv hc => by
      have := run_loadAt hT ht ad g hc
      simp only [execOp, ho, hv, Sem.run_bind, this, Result.andThen_ok, Sem.run_pure]
    split at hk
    · rename_i ds e
      rw [e] at hx
      obtain ⟨ad, g, hv, hb, hB, hs, hc, hr⟩ := rep_ptr hx
      split at hk
      · rename_i hag
        have := hrun ad g hv (fun j hj => by
          simp only [hag, if_true] at hj
          have hlt : j < ds.length := by omega
          exact hc j _ (List.getElem?_eq_getElem hlt))
        simp only [hag, if_true] at this
        refine h.val hd hk.2 this (Rep.agg _ _ (by simp; omega) fun j d hj => ?_)
        rw [List.getElem?_take] at hj
        split at hj
        · rename_i hjs; rw [range_getD _ _ _ hjs]; exact hr j d hj
        · cases hj
      · rename_i hag
        split at hk
        · rename_i d ds'
          have := hrun ad g hv (fun j hj => by
            simp only [hag, Bool.false_eq_true, if_false] at hj
            have hj0 : j = 0 := by omega
            subst hj0
            exact hc 0 d rfl)
          simp only [hag, Bool.false_eq_true, if_false] at this
          exact h.val hd hk this (hr 0 d rfl)
        · exact hk.elim
    · rename_i id off e
      rw [e] at hx
      split at hk
      · rename_i ty cells hmm
        have hmm' := hm _ _ hmm
        simp only [AvRep, AvRep0, BoxAt, hmm'] at hx
        obtain ⟨l, hl, hv⟩ := hx
        obtain ⟨l', cs, hl', hheap, hsz, hcs⟩ := h.ob id _ hmm'
        rw [hl] at hl'; injection hl' with hl'; subst hl'
        have hcell : ∀ j, off + j < cs.size → w.cell? ((⟨l.b, off, none⟩ : Addr).add j) = some (cs.getD (off + j) Go.undef) := fun j hj => by
          rw [add_spot rfl]; exact run_load_at hheap hj
        split at hk
        · rename_i hag
          obtain ⟨hle, hk⟩ := hk
          split at hk
          · rename_i ds hds
            obtain ⟨h1, h2⟩ := imms_at hds
            have := hrun _ (fun j => cs.getD (off + j) Go.undef) hv (fun j hj => hcell j (by simp only [hag, if_true] at hj; omega))
            simp only [hag, if_true] at this
            refine h.val hd hk this (Rep.agg _ _ (by rw [← h1]; simp; omega) fun j d hj => ?_)
            have h3 := h2 j d hj
            rw [List.getElem?_take] at h3
            split at h3
            · rename_i hjs
              rw [List.getElem?_drop] at h3
              rw [range_getD _ _ _ hjs]
              exact hcs _ _ h3
            · cases h3
          · exact hk.elim
        · rename_i hag
          split at hk
          · exact hk.elim
          · rename_i av _ hav
            have hlt : off < cs.size := by rw [hsz]; exact (List.getElem?_eq_some_iff.1 hav).1
            have := hrun _ (fun j => cs.getD (off + j) Go.undef) hv (fun j hj => hcell j (by simp only [hag, Bool.false_eq_true, if_false] at hj; omega))
            simp only [hag, Bool.false_eq_true, if_false, Nat.add_zero] at this
            have h3 := hcs off av hav
            refine h.val hd hk this ?_
            cases av with
            | tup l => exact h3.elim
            | _ => exact h3
          · exact hk.elim
      · exact hk.elim
    · rename_i id row off e
      rw [e] at hx
      split at hk
      · rename_i ty sz rows hmm
        have hmm' := hm _ _ hmm
        simp only [AvRep, AvRep0, hmm'] at hx
        obtain ⟨hlt, l, hl, hv⟩ := hx
        obtain ⟨hrows, hpos, hob⟩ := h.ob id _ hmm'
        rcases hob with ⟨hβ', _⟩ | ⟨l', cs, hl', hheap, hsz, hrt, _, hcs⟩
        · rw [hl] at hβ'; cases hβ'
        · rw [hl] at hl'; injection hl' with hl'; subst hl'
          split at hk
          · rename_i r hr
            have hrs : r.length = sz := hrows r (List.mem_of_getElem? hr)
            have hfl : ∀ (j : Nat) (d : D), r[j]? = some d → Rep w (Bl A β σ.m) (cs.getD (l.base + row * sz + j) Go.undef) d := fun j d hj => by
              have := hcs _ d (flat_at rows hrows row r hr j d hj)
              rwa [← Nat.add_assoc] at this
            have hsz' : l.base + row * sz + sz ≤ cs.size := by
              have : (row + 1) * sz ≤ l.tot * sz := Nat.mul_le_mul_right _ (by omega)
              rw [Nat.succ_mul] at this
              omega
            have hcell : ∀ j, off + j < sz → w.cell? ((⟨l.b, l.base + row * sz + off, none⟩ : Addr).add j) = some (cs.getD (l.base + row * sz + (off + j)) Go.undef) := fun j hj => by
              rw [add_spot rfl, ← Nat.add_assoc]; exact run_load_at hheap (by show l.base + row * sz + off + j < _; omega)
            split at hk
            · rename_i hag
              have := hrun _ (fun j => cs.getD (l.base + row * sz + (off + j)) Go.undef) hv (fun j hj => hcell j (by simp only [hag, if_true] at hj; omega))
              simp only [hag, if_true] at this
              refine h.val hd hk.2 this (Rep.agg _ _ (by simp; omega) fun j d hj => ?_)
              rw [List.getElem?_take] at hj
              split at hj
              · rename_i hjs
                rw [List.getElem?_drop] at hj
                rw [range_getD _ _ _ hjs]
                exact hfl _ _ hj
              · cases hj
            · rename_i hag
              split at hk
              · rename_i d hd'
                have hlt' : off < r.length := (List.getElem?_eq_some_iff.1 hd').1
                have := hrun _ (fun j => cs.getD (l.base + row * sz + (off + j)) Go.undef) hv (fun j hj => hcell j (by simp only [hag, Bool.false_eq_true, if_false] at hj; omega))
                simp only [hag, Bool.false_eq_true, if_false, Nat.add_zero] at this
                exact h.val hd hk this (hfl _ _ hd')
              · exact hk.elim
          · exact hk.elim
      · exact hk.elim
    · exact hk.elim

end
end Go.Am
