/- The abstract machine, part 22: values looked at. -/
import Derived.Test.YtjebblagiiajaaaAm21
namespace Go.Am
open Go

def dstOk (d : Option Nat) (n : Nat) : Bool := match d with | some d => Nat.blt d n | none => true

theorem dstOk_at : ∀ {d : Option Nat} {n : Nat}, dstOk d n = true → (match d with | some d => d < n | none => True)
  | none, _, _ => trivial
  | some _, _, h => Nat.le_of_ble_eq_true h

/-- The value, looked at first. -/
def forceV (v : AV) (K : AV → Prop) : Prop :=
  match v with
  | .imm (.int k n) => K (.imm (.int k n))
  | .imm (.bool b) => K (.imm (.bool b))
  | .imm (.str s) => K (.imm (.str s))
  | .imm (.list l) => K (.imm (.list l))
  | .imm (.agg l) => K (.imm (.agg l))
  | .imm (.fn f l) => K (.imm (.fn f l))
  | .imm (.ptr l) => K (.imm (.ptr l))
  | .imm (.other x) => K (.imm (.other x))
  | .own a b c => K (.own a b c)
  | .box a b => K (.box a b)
  | .eptr a b c => K (.eptr a b c)
  | .clo f l => K (.clo f l)
  | .tup l => K (.tup l)
  | .undef => K .undef
  | .dead => K .dead

theorem forceV_eq (v : AV) (K : AV → Prop) : forceV v K = K v := by
  cases v with
  | imm d => cases d <;> rfl
  | _ => rfl

/-- The objects, looked at first: so no closure of what went before is carried along. -/
def forceU (up : List (Nat × O)) (K : List (Nat × O) → Prop) : Prop :=
  match up with
  | [] => K []
  | x :: r => K (x :: r)
theorem forceU_eq (up : List (Nat × O)) (K : List (Nat × O) → Prop) : forceU up K = K up := by
  cases up <;> rfl

def forceM (m : Nat → Option O) : List (Nat × O) → ((Nat → Option O) → Prop) → Prop
  | [], K => K m
  | (i, o) :: r, K => forceM (upd m i (some o)) r K

theorem forceM_eq : ∀ (up : List (Nat × O)) (m : Nat → Option O) (K : (Nat → Option O) → Prop), forceM m up K = K (upm m up)
  | [], _, _ => rfl
  | (i, o) :: r, m, K => forceM_eq r (upd m i (some o)) K

def putT (t : Nat → AV) (d : Option Nat) (v : AV) : Nat → AV := match d with | some d => upd t d v | none => t

theorem app_eq (σ : S) (d : Option Nat) (e : Eff) : σ.app d e = ⟨putT σ.t d e.v, upm σ.m e.up, σ.ep, σ.n, σ.pm⟩ := by
  cases d <;> rfl

theorem put_eq (σ : S) (d : Option Nat) (v : AV) : σ.put d v = ⟨putT σ.t d v, σ.m, σ.ep, σ.n, σ.pm⟩ := by
  cases d <;> rfl

def evT (t : Nat → AV) : Operand → AV
  | .tmp i => t i
  | .const v => .imm (toD v)
  | .func f => .imm (.fn f [])
  | .global _ => .dead

theorem ev_eq (σ : S) : σ.ev = evT σ.t := by funext x; cases x <;> rfl

end Go.Am
