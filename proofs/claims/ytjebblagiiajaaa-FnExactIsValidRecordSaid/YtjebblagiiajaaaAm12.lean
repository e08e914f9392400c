/- The abstract machine, part 12: what a call asks and gives, and how a caller goes on behind it. -/
import Derived.Test.YtjebblagiiajaaaAm11
namespace Go.Am
open Go

/-- What is handed to a call: plain data; an array or a variable that the callee alone holds meanwhile. -/
inductive In where
  | imm (d : D)
  | arr (ty : TypeId) (sz : Nat) (rows : List (List D))
  | box (ty : TypeId) (cells : List D)

/-- A result: plain data, or an array that nobody else holds. -/
inductive R0 where
  | imm (d : D)
  | arr (ty : TypeId) (sz : Nat) (rows : List (List D))

/-- What comes back: the results; the objects that were lent, parameter by parameter; 'sep': no result looks into memory that was there before. -/
structure Out where
  res : List R0
  muts : List O := []
  sep : Bool := true

def inT (ins : List In) (i : Nat) : AV :=
  match ins[i]? with
  | some (.imm d) => .imm d
  | some (.arr _ _ rows) => .own i 0 rows.length
  | some (.box _ _) => .box i 0
  | none => .undef

def inM (ins : List In) (i : Nat) : Option O :=
  match ins[i]? with
  | some (.arr ty sz rows) => some (.arr ty sz rows)
  | some (.box ty cells) => some (.box ty (cells.map .imm))
  | _ => none

def In.isMut : In → Bool
  | .imm _ => false
  | _ => true

def mutIdx (ins : List In) : List Nat := (List.range ins.length).filter fun i => (ins[i]?).any In.isMut

def inS (ins : List In) (n : Nat) : S := { t := inT ins, m := inM ins, ep := 0, n := n, pm := mutIdx ins }

def outT (out : Out) (j : Nat) : AV :=
  match out.res[j]? with
  | some (.imm d) => .imm d
  | some (.arr _ _ rows) => .own (1000 + j) 0 rows.length
  | none => .undef

def outM (ins : List In) (out : Out) (id : Nat) : Option O :=
  if id < 1000 then (match ins[id]? with
    | some (.arr _ _ _) | some (.box _ _) => some (out.muts.getD id .gone)
    | _ => none)
  else match out.res[id - 1000]? with
    | some (.arr ty sz rows) => some (.arr ty sz rows)
    | _ => none

def outS (ins : List In) (out : Out) : S := { t := outT out, m := outM ins out, ep := 0, n := out.res.length, pm := mutIdx ins }

def packR (vals : Array Value) : Value := if vals.size = 1 then vals.getD 0 Go.undef else .tuple vals

/-- The blocks that a result looks through no more. -/
def sepA (w : World) (A : Nat → Prop) (locs : List (Option Loc)) (sep : Bool) : Nat → Prop := fun b => A b ∨ (sep = true ∧ b < w.heap.size ∧ ∀ l, some l ∈ locs → l.b ≠ b)

/-- The function has a body that is entered. -/
def Enters (P : Program) (f : FuncId) : Prop := ∃ fn, P.funcs[f]? = some fn ∧ (fn.name == "runtime.NumGoroutine") = false ∧ fn.body.isSome = true

/-- What was lent comes back of its make. -/
def MutOk (ins : List In) (out : Out) : Prop :=
  ∀ i o, inM ins i = some o → o.sub (out.muts.getD i .gone) ∧ ((∃ ty sz rows, out.muts.getD i .gone = .arr ty sz rows) ∨ (∃ (ty : TypeId) (ds : List D), out.muts.getD i .gone = .box ty (ds.map .imm)) ∨ out.muts.getD i .gone = .gone)

/-- A call of function f, handed 'ins', comes back with 'out'. -/
def CallOk (P : Program) (f : FuncId) (ins : List In) (out : Out) : Prop :=
  Enters P f ∧ ins.length ≤ 1000 ∧ MutOk ins out ∧ ∀ (w : World) (A : Nat → Prop) (locs : List (Option Loc)) (β : Nat → Option Loc) (vs : Array Value), Sim w A locs β (inS ins vs.size) ⟨vs, []⟩ w → vs.size = ins.length →
    Calls P f vs w fun e w' => ∃ vals β', e = .returned (packR vals) ∧ Sim w (sepA w A locs out.sep) locs β' (outS ins out) ⟨vals, []⟩ w'

section
variable {P : Program} {w0 w : World} {A : Nat → Prop} {locs : List (Option Loc)} {β : Nat → Option Loc} {σ : S} {a : Act}

/-- The caller's state behind a call: some objects are the callee's, the others as they were. -/
theorem Sim.glue (h : Sim w0 A locs β σ a w) {w' : World} {AC : Nat → Prop} {locsC : List (Option Loc)} {βC : Nat → Option Loc} {σC : S} {aC : Act} (hc : Sim w AC locsC βC σC aC w')
    (m'' : Nat → Option O) (β'' : Nat → Option Loc) (src : Nat → Option Nat)
    (sa : ∀ id c, src id = some c → m'' id = σC.m c ∧ β'' id = βC c ∧ ∃ o, σC.m c = some o)
    (sb : ∀ id, src id = none → m'' id = σ.m id ∧ β'' id = β id)
    (sc : ∀ id id' c, src id = some c → src id' = some c → id = id')
    (sd : ∀ id c, src id = some c → σ.m id = none ∨ ∃ o o', σ.m id = some o ∧ o.live = true ∧ β id = βC c ∧ σC.m c = some o' ∧ o.sub o' ∧ ∀ l, β id = some l → some l ∈ locsC)
    (se : ∀ l, some l ∈ locsC → ∃ id c o, src id = some c ∧ β id = some l ∧ σ.m id = some o ∧ o.live = true)
    (imm : ∀ c o, σC.m c = some o → (∃ ty sz rows, o = .arr ty sz rows) ∨ (∃ (ty : TypeId) (ds : List D), o = .box ty (ds.map .imm)) ∨ o = .gone)
    (hA : ∀ b, Bl A β'' m'' b → Bl AC βC σC.m b) :
    Sim w0 A locs β'' { σ with m := m'' } a w' ∧ ∀ (v : Value) (d : D), Rep w' (Bl AC βC σC.m) v d → Rep w' (Bl A β'' m'') v d := by
  have kc : Keeps w' (Bl AC βC σC.m) w' (Bl A β'' m'') := ⟨Nat.le_refl _, fun _ _ _ => rfl, fun b _ hB hB' => hB (hA b hB')⟩
  have hlocs : ∀ l, some l ∈ locsC → Bl A β σ.m l.b := fun l hl => by
    obtain ⟨id, c, o, _, h2, h3, h4⟩ := se l hl
    exact .inr ⟨id, o, l, h3, h4, h2, rfl⟩
  have hsame : ∀ b, b < w.heap.size → ¬ Bl A β σ.m b → w'.heap[b]? = w.heap[b]? := fun b hb hB => hc.fr.blk b hb fun l hl e => hB (e ▸ hlocs l hl)
  -- a new object's block: new, or lent
  have hnewb : ∀ id c o l, src id = some c → σC.m c = some o → o.live = true → βC c = some l → w.heap.size ≤ l.b ∨ ∃ l0, some l0 ∈ locsC ∧ l0.b = l.b := fun id c o l h1 h2 h3 h4 => (hc.new c o l h2 h3 h4).2.2
  have k : Keeps w (Bl A β σ.m) w' (Bl A β'' m'') := by
    refine ⟨hc.fr.size, hsame, fun b hb hB hB' => hB ?_⟩
    rcases hB' with hA' | ⟨id, o, l, h1, h2, h3, h4⟩
    · exact .inl hA'
    · cases hs : src id with
      | none =>
        obtain ⟨e1, e2⟩ := sb id hs
        rw [e1] at h1; rw [e2] at h3
        exact .inr ⟨id, o, l, h1, h2, h3, h4⟩
      | some c =>
        obtain ⟨e1, e2, _⟩ := sa id c hs
        rw [e1] at h1; rw [e2] at h3
        rcases hnewb id c o l hs h1 h2 h3 with h5 | ⟨l0, h5, h6⟩
        · omega
        · rw [← h4, ← h6]; exact hlocs l0 h5
  have gβ : ∀ id o, σ.m id = some o → β'' id = β id := fun id o ho => by
    cases hs : src id with
    | none => exact (sb id hs).2
    | some c =>
      rcases sd id c hs with h1 | ⟨o1, o2, h1, _, h2, _⟩
      · rw [h1] at ho; cases ho
      · rw [(sa id c hs).2.1, h2]
  have g : Goes β σ.m β'' m'' := fun id o ho => by
    cases hs : src id with
    | none => exact ⟨o, by rw [(sb id hs).1]; exact ho, o.sub_refl, fun _ => (sb id hs).2⟩
    | some c =>
      rcases sd id c hs with h1 | ⟨o1, o2, h1, _, h2, h3, h4, _⟩
      · rw [h1] at ho; cases ho
      · rw [h1] at ho; injection ho with ho; subst ho
        exact ⟨o2, by rw [(sa id c hs).1]; exact h3, h4, fun _ => by rw [(sa id c hs).2.1, h2]⟩
  refine ⟨h.move k g gβ ?_ ?_ ?_ ?_, fun v d hr => hr.keep kc⟩
  · intro id o hi hl
    cases hs : src id with
    | none =>
      obtain ⟨e1, e2⟩ := sb id hs
      rw [e1] at hi
      refine .inl ⟨hi, fun l hl' => hc.fr.blk l.b (h.new id o l hi hl hl').1 fun l0 h0 e => ?_⟩
      obtain ⟨id2, c2, o2, f1, f2, f3, f4⟩ := se l0 h0
      have := h.inj id2 id o2 o l0 l f3 f4 f2 hi hl hl' e
      subst this
      rw [hs] at f1; cases f1
    | some c =>
      obtain ⟨e1, e2, _⟩ := sa id c hs
      rw [e1] at hi
      have hob := hc.ob c o hi
      right
      rcases imm c o hi with ⟨ty, sz, rows, rfl⟩ | ⟨ty, ds, rfl⟩ | rfl
      · obtain ⟨q1, q2, q3⟩ := hob
        refine ⟨q1, q2, ?_⟩
        rcases q3 with ⟨q3, q4⟩ | ⟨l, cs, q3, q4, q5, q6, q7, q8⟩
        · exact .inl ⟨by rw [e2]; exact q3, q4⟩
        · exact .inr ⟨l, cs, by rw [e2]; exact q3, q4, q5, q6, q7, fun j d hj => (q8 j d hj).keep kc⟩
      · obtain ⟨l, cs, q1, q2, q3, q4⟩ := hob
        refine ⟨l, cs, by rw [e2]; exact q1, q2, q3, fun j av hj => ?_⟩
        have := q4 j av hj
        simp only [List.getElem?_map, Option.map_eq_some_iff] at hj
        obtain ⟨d, _, rfl⟩ := hj
        exact Rep.keep kc this
      · trivial
  · intro id id' o o' l l' h1 h2 h3 h4 h5 h6 h7
    cases hs : src id with
    | none =>
      obtain ⟨e1, e2⟩ := sb id hs
      rw [e1] at h1; rw [e2] at h3
      cases hs' : src id' with
      | none =>
        obtain ⟨f1, f2⟩ := sb id' hs'
        rw [f1] at h4; rw [f2] at h6
        exact h.inj id id' o o' l l' h1 h2 h3 h4 h5 h6 h7
      | some c =>
        exfalso
        obtain ⟨f1, f2, _⟩ := sa id' c hs'
        rw [f1] at h4; rw [f2] at h6
        have hlt := (h.new id o l h1 h2 h3).1
        rcases hnewb id' c o' l' hs' h4 h5 h6 with h8 | ⟨l0, h8, h9⟩
        · omega
        · obtain ⟨id2, c2, o2, g1, g2, g3, g4⟩ := se l0 h8
          have := h.inj id id2 o o2 l l0 h1 h2 h3 g3 g4 g2 (by rw [h7, h9])
          subst this
          rw [hs] at g1; cases g1
    | some c =>
      obtain ⟨e1, e2, _⟩ := sa id c hs
      rw [e1] at h1; rw [e2] at h3
      cases hs' : src id' with
      | none =>
        exfalso
        obtain ⟨f1, f2⟩ := sb id' hs'
        rw [f1] at h4; rw [f2] at h6
        have hlt := (h.new id' o' l' h4 h5 h6).1
        rcases hnewb id c o l hs h1 h2 h3 with h8 | ⟨l0, h8, h9⟩
        · omega
        · obtain ⟨id2, c2, o2, g1, g2, g3, g4⟩ := se l0 h8
          have := h.inj id' id2 o' o2 l' l0 h4 h5 h6 g3 g4 g2 (by rw [← h7, h9])
          subst this
          rw [hs'] at g1; cases g1
      | some c' =>
        obtain ⟨f1, f2, _⟩ := sa id' c' hs'
        rw [f1] at h4; rw [f2] at h6
        have := hc.inj c c' o o' l l' h1 h2 h3 h4 h5 h6 h7
        subst this
        exact sc id id' c hs hs'
  · intro id o l h1 h2 h3
    cases hs : src id with
    | none =>
      obtain ⟨e1, e2⟩ := sb id hs
      rw [e1] at h1; rw [e2] at h3
      obtain ⟨n1, n2, n3⟩ := h.new id o l h1 h2 h3
      exact ⟨Nat.lt_of_lt_of_le n1 hc.fr.size, n2, n3⟩
    | some c =>
      obtain ⟨e1, e2, _⟩ := sa id c hs
      rw [e1] at h1; rw [e2] at h3
      obtain ⟨n1, n2, n3⟩ := hc.new c o l h1 h2 h3
      rcases n3 with n3 | ⟨l0, n3, n4⟩
      · refine ⟨n1, fun hAl => ?_, .inl (Nat.le_trans h.fr.size n3)⟩
        have := h.lt _ hAl
        omega
      · obtain ⟨id2, c2, o2, g1, g2, g3, g4⟩ := se l0 n3
        obtain ⟨p1, p2, p3⟩ := h.new id2 o2 l0 g3 g4 g2
        rw [n4] at p2 p3
        exact ⟨n1, p2, p3⟩
  · refine ⟨hc.fr.os.trans h.fr.os, hc.fr.tape.trans h.fr.tape, hc.fr.output.trans h.fr.output, Nat.le_trans h.fr.size hc.fr.size, fun b hb hl => ?_, h.fr.tb⟩
    rw [hc.fr.blk b (Nat.lt_of_lt_of_le hb h.fr.size) fun l0 h0 e => ?_]
    · exact h.fr.blk b hb hl
    · obtain ⟨id2, c2, o2, g1, g2, g3, g4⟩ := se l0 h0
      rcases (h.new id2 o2 l0 g3 g4 g2).2.2 with h1 | ⟨l1, h1, h2⟩
      · omega
      · exact hl l1 h1 (by rw [h2, e])

end

/-- Cells that are plain data, of one variable or row, as what an address sees. -/
def viewCells (m : Nat → Option O) (id off : Nat) : Option (List D) :=
  match m id with
  | some (.box _ cells) => imms (cells.drop off)
  | _ => none

def viewClo (m : Nat → Option O) : List Nat → Option (List D)
  | [] => some []
  | id :: r => match viewCells m id 0, viewClo m r with
    | some ds, some rest => some (.ptr ds :: rest)
    | _, _ => none

/-- One argument: how it is handed over (0: looked at; 1: given up; 2: lent to be written), what is looked at, given up, lent. -/
def argIn (m : Nat → Option O) (k : Nat) (av : AV) : Option (In × List Nat × List Nat × Option Nat) :=
  match k, av with
  | _, .imm d => some (.imm d, [], [], none)
  | 0, .own id off len => match m id with | some (.arr _ _ rows) => some (.imm (.list ((rows.drop off).take len)), [id], [], none) | _ => none
  | 1, .own id off len => match m id with | some (.arr _ _ rows) => some (.imm (.list ((rows.drop off).take len)), [], [id], none) | _ => none
  | 2, .own id 0 len => match m id with | some (.arr ty sz rows) => if len = rows.length then some (.arr ty sz rows, [], [], some id) else none | _ => none
  | 0, .box id off => match viewCells m id off with | some ds => some (.imm (.ptr ds), [id], [], none) | none => none
  | 2, .box id 0 => match m id with | some (.box ty cells) => (match imms cells with | some ds => some (.box ty ds, [], [], some id) | none => none) | _ => none
  | 0, .clo f ids => match viewClo m ids with | some ds => some (.imm (.fn f ds), ids, [], none) | none => none
  | _, _ => none

def argsIn (m : Nat → Option O) : List Nat → List AV → Option (List In × List Nat × List Nat × List (Option Nat))
  | _, [] => some ([], [], [], [])
  | md, av :: r =>
    match argIn m (md.headD 0) av, argsIn m md.tail r with
    | some (i, v, f, g), some (is, vs, fs, gs) => some (i :: is, v ++ vs, f ++ fs, g :: gs)
    | _, _ => none

def upMut : List (Option Nat) → List O → List (Nat × O)
  | some id :: gs, os => (id, os.headD .gone) :: upMut gs os.tail
  | none :: gs, os => upMut gs os.tail
  | [], _ => []

def rid (ep d j : Nat) : Nat := nid ep d + j * 16777216

def resAV (ep d : Nat) : Nat → List R0 → List AV
  | _, [] => []
  | j, .imm dd :: r => .imm dd :: resAV ep d (j + 1) r
  | j, .arr _ _ rows :: r => .own (rid ep d j) 0 rows.length :: resAV ep d (j + 1) r

def resUp (ep d : Nat) : Nat → List R0 → List (Nat × O)
  | _, [] => []
  | j, .imm _ :: r => resUp ep d (j + 1) r
  | j, .arr ty sz rows :: r => (rid ep d j, .arr ty sz rows) :: resUp ep d (j + 1) r

def packAV : List AV → AV
  | [x] => x
  | [] => .undef
  | l => .tup l

/-- The effect of a call on the caller. -/
def callEff (ep d : Nat) (fz : List Nat) (gs : List (Option Nat)) (out : Out) : Eff :=
  ⟨packAV (resAV ep d 0 out.res), kills fz ++ (upMut gs out.muts ++ resUp ep d 0 out.res)⟩

def freshAll (m : Nat → Option O) : List (Nat × O) → Prop
  | [] => True
  | (i, _) :: r => m i = none ∧ freshAll m r

/-- A call of f: the modes of its arguments and what comes back are the prover's to give. -/
def opCall (P : Program) (m : Nat → Option O) (ep : Nat) (o : Oper) (f : FuncId) (args : List AV) (K : Eff → Prop) : Prop :=
  ∃ (md : List Nat) (out : Out),
    match argsIn m md args with
    | some (ins, vs, fz, gs) => CallOk P f ins out ∧ (out.sep = true ∨ vs = []) ∧ ((fz ++ gs.filterMap id).Nodup ∧ ∀ v ∈ vs, v ∉ fz ∧ some v ∉ gs) ∧ freshAll m (resUp ep (o.dst.getD 0) 0 out.res) ∧
        K (callEff ep (o.dst.getD 0) fz gs out)
    | none => False

end Go.Am
