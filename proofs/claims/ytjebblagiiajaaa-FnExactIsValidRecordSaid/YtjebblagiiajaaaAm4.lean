/- The abstract machine, part 4: its operations that leave memory alone, and that each stands for the model's. -/
import Derived.Test.YtjebblagiiajaaaAm3
namespace Go.Am
open Go

theorem S.app_nil (σ : S) (dst : Option Nat) (v : AV) : σ.app dst ⟨v, []⟩ = σ.put dst v := by cases dst <;> rfl

def S.ev (σ : S) : Operand → AV
  | .tmp t => σ.t t
  | .const v => .imm (toD v)
  | .func f => .imm (.fn f [])
  | .global _ => .dead

def nid (ep d : Nat) : Nat := ep * 4096 + d

def binK (op : BinOp) : D → D → (D → Prop) → Prop
  | .int k a, .int k' b, K =>
    match op with
    | .shl => 0 ≤ b ∧ K (.int k (k.wrap (a * 2 ^ (min b.toNat k.bits))))
    | .shr => 0 ≤ b ∧ K (.int k (a.fdiv (2 ^ (min b.toNat k.bits))))
    | .add => k = k' ∧ K (.int k (k.wrap (a + b)))
    | .sub => k = k' ∧ K (.int k (k.wrap (a - b)))
    | .mul => k = k' ∧ K (.int k (k.wrap (a * b)))
    | .quo => k = k' ∧ b ≠ 0 ∧ K (.int k (k.wrap (a.tdiv b)))
    | .rem => k = k' ∧ b ≠ 0 ∧ K (.int k (a.tmod b))
    | .and => k = k' ∧ K (.int k (bits .and k a b))
    | .or => k = k' ∧ K (.int k (bits .or k a b))
    | .xor => k = k' ∧ K (.int k (bits .xor k a b))
    | .andNot => k = k' ∧ K (.int k (bits .andNot k a b))
    | .eql => k = k' ∧ K (.bool (decide (a = b)))
    | .neq => k = k' ∧ K (.bool (!decide (a = b)))
    | .lss => k = k' ∧ K (.bool (decide (a < b)))
    | .leq => k = k' ∧ K (.bool (decide (a ≤ b)))
    | .gtr => k = k' ∧ K (.bool (decide (b < a)))
    | .geq => k = k' ∧ K (.bool (decide (b ≤ a)))
  | .str a, .str b, K =>
    match op with
    | .add => a.size + b.size ≤ 4611686018427387904 ∧ K (.str (a ++ b))
    | .eql => K (.bool (a == b))
    | .neq => K (.bool (!(a == b)))
    | .lss => K (.bool (Op.bytesLess a.toList b.toList))
    | .leq => K (.bool (Op.bytesLess a.toList b.toList || a == b))
    | .gtr => K (.bool (!(Op.bytesLess a.toList b.toList || a == b)))
    | .geq => K (.bool (!(Op.bytesLess a.toList b.toList)))
    | _ => False
  | _, _, _ => False

def opBin (T : TypeId → Option TI) (op : BinOp) (t : TypeId) (x y : AV) (K : Eff → Prop) : Prop :=
  match x, y with
  | .imm (.bool a), .imm (.bool b) =>
    match T t, op with
    | some ⟨.bool, _, _, _⟩, .eql => K ⟨.imm (.bool (a == b)), []⟩
    | some ⟨.bool, _, _, _⟩, .neq => K ⟨.imm (.bool (!(a == b))), []⟩
    | _, _ => False
  | .imm d, .imm d' => binK op d d' fun r => K ⟨.imm r, []⟩
  | _, _ => False

def opUn (op : UnOp) (x : AV) (K : Eff → Prop) : Prop :=
  match op, x with
  | .not, .imm (.bool b) => K ⟨.imm (.bool (!b)), []⟩
  | .neg, .imm (.int k n) => K ⟨.imm (.int k (k.wrap (0 - n))), []⟩
  | _, _ => False

def opConv (T : TypeId → Option TI) (src dst : TypeId) (x : AV) (K : Eff → Prop) : Prop :=
  match T src, T dst, x with
  | some _, some ⟨.int k, _, _, _⟩, .imm (.int _ n) => K ⟨.imm (.int k (k.wrap n)), []⟩
  | some _, some ⟨.str, _, _, _⟩, .imm (.str s) => K ⟨.imm (.str s), []⟩
  | _, _, _ => False

def opPick (c a b : AV) (K : Eff → Prop) : Prop :=
  match c with
  | .imm (.bool t) => (t = true → K ⟨a, []⟩) ∧ (t = false → K ⟨b, []⟩)
  | _ => False

def opExtract (x : AV) (i : Nat) (K : Eff → Prop) : Prop :=
  match x with
  | .tup l => match l[i]? with | some (.tup _) => False | some a => K ⟨a, []⟩ | none => False
  | _ => False

def opField (T : TypeId → Option TI) (t : TypeId) (x : AV) (f : Nat) (K : Eff → Prop) : Prop :=
  match T t, x with
  | some ⟨.struct fs, _, _, _⟩, .imm (.agg ds) =>
    match fs[f]? with
    | some (o, n, true) => o + n ≤ ds.length ∧ K ⟨.imm (.agg ((ds.drop o).take n)), []⟩
    | some (o, _, false) => match ds[o]? with | some d => K ⟨.imm d, []⟩ | none => False
    | none => False
  | _, _ => False

def opFieldAddr (T : TypeId → Option TI) (m : Nat → Option O) (t : TypeId) (x : AV) (f : Nat) (K : Eff → Prop) : Prop :=
  match T t with
  | some ⟨.struct fs, _, _, _⟩ =>
    match fs[f]? with
    | some (o, _, _) =>
      match x with
      | .box id off => match m id with | some (.box _ _) => K ⟨.box id (off + o), []⟩ | _ => False
      | .eptr id r off => match m id with | some (.arr _ _ _) => K ⟨.eptr id r (off + o), []⟩ | _ => False
      | .imm (.ptr ds) => K ⟨.imm (.ptr (ds.drop o)), []⟩
      | _ => False
    | none => False
  | _ => False

def opIndexAddr (T : TypeId → Option TI) (m : Nat → Option O) (t : TypeId) (x i : AV) (K : Eff → Prop) : Prop :=
  match i with
  | .imm (.int _ n) =>
    match T t with
    | some ⟨.slice e, _, _, _⟩ =>
      match T e with
      | some te =>
        match x with
        | .imm (.list rows) => 0 ≤ n ∧ match rows[n.toNat]? with | some r => r.length = te.size ∧ K ⟨.imm (.ptr r), []⟩ | none => False
        | .own id off len => 0 ≤ n ∧ n < len ∧ match m id with | some (.arr _ sz _) => sz = te.size ∧ K ⟨.eptr id (off + n.toNat) 0, []⟩ | _ => False
        | _ => False
      | none => False
    | some ⟨.array len e, _, _, _⟩ =>
      match T e with
      | some te =>
        match x with
        | .box id off => 0 ≤ n ∧ n < len ∧ match m id with | some (.box _ _) => K ⟨.box id (off + n.toNat * te.size), []⟩ | _ => False
        | .imm (.ptr ds) => 0 ≤ n ∧ n < len ∧ K ⟨.imm (.ptr (ds.drop (n.toNat * te.size))), []⟩
        | _ => False
      | none => False
    | _ => False
  | _ => False

def opIndex (T : TypeId → Option TI) (t : TypeId) (x i : AV) (K : Eff → Prop) : Prop :=
  match i with
  | .imm (.int _ n) =>
    match T t, x with
    | some ⟨.str, _, _, _⟩, .imm (.str s) => 0 ≤ n ∧ match s[n.toNat]? with | some b => K ⟨.imm (.int .u8 (b.toNat : Int)), []⟩ | none => False
    | some ⟨.array len e, _, _, _⟩, .imm (.agg ds) =>
      match T e with
      | some te => 0 ≤ n ∧ n < len ∧
        match te.agg with
        | true => n.toNat * te.size + te.size ≤ ds.length ∧ K ⟨.imm (.agg ((ds.drop (n.toNat * te.size)).take te.size)), []⟩
        | false => match ds[n.toNat * te.size]? with | some d => K ⟨.imm d, []⟩ | none => False
      | none => False
    | _, _ => False
  | _ => False

/-- A bound of a slice expression: a number, or what stands where none is given. -/
def bnd (x : Option AV) (dflt : Int) (K : Int → Prop) : Prop :=
  match x with
  | none => K dflt
  | some (.imm (.int _ n)) => K n
  | _ => False

def opSlice (T : TypeId → Option TI) (m : Nat → Option O) (t : TypeId) (x : AV) (lo hi mx : Option AV) (K : Eff → Prop) : Prop :=
  mx = none ∧
  match T t, x with
  | some ⟨.str, _, _, _⟩, .imm (.str s) => bnd lo 0 fun l => bnd hi s.size fun h => 0 ≤ l ∧ l ≤ h ∧ h ≤ s.size ∧ K ⟨.imm (.str (s.extract l.toNat h.toNat)), []⟩
  | some ⟨.slice e, _, _, _⟩, .imm (.list rows) =>
    match T e with
    | some te => (∀ r ∈ rows, r.length = te.size) ∧ bnd lo 0 fun l => bnd hi rows.length fun h => 0 ≤ l ∧ l ≤ h ∧ h ≤ rows.length ∧ K ⟨.imm (.list ((rows.drop l.toNat).take (h.toNat - l.toNat))), []⟩
    | none => False
  | some ⟨.slice e, _, _, _⟩, .own id off len =>
    match T e, m id with
    | some te, some (.arr _ sz _) => sz = te.size ∧ bnd lo 0 fun l => bnd hi len fun h => 0 ≤ l ∧ l ≤ h ∧ h ≤ len ∧ K ⟨.own id (off + l.toNat) (h.toNat - l.toNat), []⟩
    | _, _ => False
  | _, _ => False

def opLen (T : TypeId → Option TI) (m : Nat → Option O) (t : TypeId) (x : AV) (K : Eff → Prop) : Prop :=
  match T t, x with
  | some ⟨.str, _, _, _⟩, .imm (.str s) => K ⟨.imm (.int .i64 (s.size : Int)), []⟩
  | some ⟨.slice _, _, _, _⟩, .imm (.list rows) => K ⟨.imm (.int .i64 (rows.length : Int)), []⟩
  | some ⟨.slice _, _, _, _⟩, .own id _ len => (match m id with | some (.arr _ _ _) => True | _ => False) ∧ K ⟨.imm (.int .i64 (len : Int)), []⟩
  | some ⟨.array n _, _, _, _⟩, _ => K ⟨.imm (.int .i64 (n : Int)), []⟩
  | _, _ => False

def opMinMax (mx : Bool) (x y : AV) (K : Eff → Prop) : Prop :=
  match x, y with
  | .imm (.int k a), .imm (.int k' b) => k = k' ∧ K ⟨.imm (.int k (if mx then (if b > a then b else a) else (if b < a then b else a))), []⟩
  | _, _ => False

/-- Where an operation comes to: a value for its slot, a world, objects. -/
def Good (P : Program) (w0 : World) (A : Nat → Prop) (locs : List (Option Loc)) (σ : S) (a : Act) (w : World) (o : Oper) (K : Eff → Prop) : Prop :=
  ∃ e β' v w', K e ∧ ((execOp a.eval o).run P w = .ok (.value v) w' ∨ ((execOp a.eval o).run P w = .ok .skip w' ∧ v = Go.undef)) ∧ Sim w0 A locs β' (σ.app o.dst e) (a.put o.dst v) w'

section
variable {P : Program} {T : TypeId → Option TI} (hT : TOk P T) {w0 w : World} {A : Nat → Prop} {locs : List (Option Loc)} {β : Nat → Option Loc} {σ : S} {a : Act}

theorem Sim.ev (h : Sim w0 A locs β σ a w) (x : Operand) : AvRep w (Bl A β σ.m) β σ.m (σ.ev x) (a.eval x) := by
  cases x with
  | tmp t => exact h.slot t
  | const v => exact rep_toD w _ v
  | func f => exact (show Rep w _ (.func (.func f) #[] #[]) (.fn f []) from .fn f #[] [] rfl (fun j d hj => by simp at hj))
  | global g => trivial

/-- A value alone. -/
theorem Sim.val (h : Sim w0 A locs β σ a w) {o : Oper} (hd : ∀ d, o.dst = some d → d < σ.n) {K : Eff → Prop} {av : AV} {v : Value} (hK : K ⟨av, []⟩)
    (hrun : (execOp a.eval o).run P w = .ok (.value v) w) (hv : AvRep w (Bl A β σ.m) β σ.m av v) : Good P w0 A locs σ a w o K :=
  ⟨⟨av, []⟩, β, v, w, hK, .inl hrun, by rw [S.app_nil]; exact h.put hd hv⟩

theorem Sim.imm (h : Sim w0 A locs β σ a w) {x : Operand} {d : D} (e : σ.ev x = .imm d) : Rep w (Bl A β σ.m) (a.eval x) d := by
  have := h.ev x
  rw [e] at this
  exact this

theorem rep_int {B : Nat → Prop} {v : Value} {k : IntKind} {n : Int} (h : Rep w B v (.int k n)) : v = .int k n := by cases h; rfl
theorem rep_bool {B : Nat → Prop} {v : Value} {b : Bool} (h : Rep w B v (.bool b)) : v = .bool b := by cases h; rfl
theorem rep_str {B : Nat → Prop} {v : Value} {s : ByteArray} (h : Rep w B v (.str s)) : v = .string s := by cases h; rfl

theorem binK_run {t : TypeId} {xo yo : Operand} (op : BinOp) {B : Nat → Prop} {x y : Value} {d d' : D} {K : D → Prop} (hx : Rep w B x d) (hy : Rep w B y d') (hk : binK op d d' K) :
    ∃ v r, K r ∧ Rep w B v r ∧ (do eqGuard op t xo yo x y; binOp op t x y : Sem Value).run P w = .ok v w := by
  unfold binK at hk
  split at hk
  · rename_i k n k' n' 
    obtain rfl := rep_int hx
    obtain rfl := rep_int hy
    cases op <;> simp only at hk
    case shl => exact ⟨_, _, hk.2, .int _ _, by simp [eqGuard_at_int, binOp_shl, Op.shift, show ¬ n' < 0 from by omega]⟩
    case shr => exact ⟨_, _, hk.2, .int _ _, by simp [eqGuard_at_int, binOp_shr, Op.shift, show ¬ n' < 0 from by omega]⟩
    case quo => obtain ⟨rfl, h0, hk⟩ := hk; exact ⟨_, _, hk, .int _ _, by simp [eqGuard_at_int, binOp_quo, Op.intDiv, h0]⟩
    case rem => obtain ⟨rfl, h0, hk⟩ := hk; exact ⟨_, _, hk, .int _ _, by simp [eqGuard_at_int, binOp_rem, Op.intDiv, h0]⟩
    case add => obtain ⟨rfl, hk⟩ := hk; exact ⟨_, _, hk, .int _ _, by simp [eqGuard_at_int, binOp_add, Op.intArith]⟩
    case sub => obtain ⟨rfl, hk⟩ := hk; exact ⟨_, _, hk, .int _ _, by simp [eqGuard_at_int, binOp_sub, Op.intArith]⟩
    case mul => obtain ⟨rfl, hk⟩ := hk; exact ⟨_, _, hk, .int _ _, by simp [eqGuard_at_int, binOp_mul, Op.intArith]⟩
    case and => obtain ⟨rfl, hk⟩ := hk; exact ⟨_, _, hk, .int _ _, by simp [eqGuard_at_int, binOp_and, intBits_and]⟩
    case or => obtain ⟨rfl, hk⟩ := hk; exact ⟨_, _, hk, .int _ _, by simp [eqGuard_at_int, binOp_or, intBits_or]⟩
    case xor => obtain ⟨rfl, hk⟩ := hk; exact ⟨_, _, hk, .int _ _, by simp [eqGuard_at_int, binOp_xor, intBits_xor]⟩
    case andNot => obtain ⟨rfl, hk⟩ := hk; exact ⟨_, _, hk, .int _ _, by simp [eqGuard_at_int, binOp_andNot, intBits_andNot]⟩
    case eql => obtain ⟨rfl, hk⟩ := hk; exact ⟨_, _, hk, .bool _, by simp [eqGuard_at_int, binOp_eql]; rfl⟩
    case neq => obtain ⟨rfl, hk⟩ := hk; exact ⟨_, _, hk, .bool _, by simp [eqGuard_at_int, binOp_neq]; rfl⟩
    case lss => obtain ⟨rfl, hk⟩ := hk; exact ⟨_, _, hk, .bool _, by simp [eqGuard_at_int, binOp_lss]⟩
    case leq => obtain ⟨rfl, hk⟩ := hk; exact ⟨_, _, hk, .bool _, by simp [eqGuard_at_int, binOp_leq]⟩
    case gtr => obtain ⟨rfl, hk⟩ := hk; exact ⟨_, _, hk, .bool _, by simp [eqGuard_at_int, binOp_gtr]⟩
    case geq => obtain ⟨rfl, hk⟩ := hk; exact ⟨_, _, hk, .bool _, by simp [eqGuard_at_int, binOp_geq]⟩
  · rename_i s s'
    obtain rfl := rep_str hx
    obtain rfl := rep_str hy
    cases op <;> simp only at hk
    case add =>
      refine ⟨_, _, hk.2, .str _, ?_⟩
      have : ¬ ((9223372036854775807 : Int) < (s.size : Int) + (s'.size : Int)) := by omega
      simp [eqGuard_at_string, binOp, Op.stringOp, this]
    case eql => exact ⟨_, _, hk, .bool _, by simp [eqGuard_at_string, binOp, Op.stringOp, beq_toListBytes]⟩
    case neq => exact ⟨_, _, hk, .bool _, by simp [eqGuard_at_string, binOp, Op.stringOp, beq_toListBytes]⟩
    case lss => exact ⟨_, _, hk, .bool _, by simp [eqGuard_at_string, binOp, Op.stringOp]⟩
    case leq => exact ⟨_, _, hk, .bool _, by simp [eqGuard_at_string, binOp, Op.stringOp, beq_toListBytes]⟩
    case gtr => exact ⟨_, _, hk, .bool _, by simp [eqGuard_at_string, binOp, Op.stringOp, beq_toListBytes]⟩
    case geq => exact ⟨_, _, hk, .bool _, by simp [eqGuard_at_string, binOp, Op.stringOp]⟩
  · exact hk.elim

end
end Go.Am
