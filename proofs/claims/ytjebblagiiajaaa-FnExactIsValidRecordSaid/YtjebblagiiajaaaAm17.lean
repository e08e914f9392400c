/- The abstract machine, part 17: regions in the text's order, code, loops. -/
import Derived.Test.YtjebblagiiajaaaAm16
import Derived.Deep.LoopGhost
namespace Go.Am
open Go

/-- One operation of a region. -/
def amOp1 (P : Program) (T : TypeId → Option TI) (o : Oper) (σ : S) (k : S → Prop) : Prop :=
  (match o.dst with | some d => d < σ.n | none => True) ∧ amOp P T σ.ev σ.m σ.ep o fun e => k (σ.app o.dst e)

/-- The slot that a guard looks at. -/
def gslot (ops : Array Oper) (j : Nat) : Option Nat := (ops[j]?).bind (·.dst)

def amOps (P : Program) (T : TypeId → Option TI) (ops : Array Oper) : List Oper → S → (S → Prop) → Prop
  | [], σ, k => k σ
  | o :: rest, σ, k =>
    match o.guard with
    | none => amOp1 P T o σ fun σ' => amOps P T ops rest σ' k
    | some (j, want) =>
      match gslot ops j with
      | none => False
      | some s =>
        match σ.t s with
        | .imm (.bool b) => (b = want → amOp1 P T o { σ with t := upd σ.t s (.imm (.bool want)) } fun σ' => amOps P T ops rest σ' k) ∧
            (b = !want → (match o.dst with | some d => d < σ.n | none => True) ∧ amOps P T ops rest (S.put { σ with t := upd σ.t s (.imm (.bool (!want))) } o.dst .undef) k)
        | .undef => (match o.dst with | some d => d < σ.n | none => True) ∧ amOps P T ops rest (σ.put o.dst .undef) k
        | _ => False

/-- Whatever the first state stands for, the second does. -/
def Ref (σ σ1 : S) : Prop := ∀ w0 A locs β a w, Sim w0 A locs β σ a w → ∃ β', Sim w0 A locs β' σ1 a w

def thenQ (k : S → Prop) (Q : Exit → S → Prop) : Exit → S → Prop
  | .normal, σ => k σ
  | e, σ => Q e σ

def blockQ (id : Nat) (Q : Exit → S → Prop) : Exit → S → Prop
  | .exit id', σ => if id' = id then Q .normal σ else Q (.exit id') σ
  | e, σ => Q e σ

def loopQ (I : Nat → S → Prop) (n : Nat) (Q : Exit → S → Prop) : Exit → S → Prop
  | .normal, σ => ∃ n' σ1, n' < n ∧ Ref σ σ1 ∧ I n' σ1
  | e, σ => Q e σ

/-- A state's assertion as one on slots and memory. -/
def lift (w0 : World) (A : Nat → Prop) (locs : List (Option Loc)) (Q : Exit → S → Prop) : Exit → Act → World → Prop :=
  fun e a w => ∃ σ β, Q e σ ∧ Sim w0 A locs β σ a w

section
variable {P : Program} {T : TypeId → Option TI} (hT : TOk P T) {w0 w : World} {A : Nat → Prop} {locs : List (Option Loc)} {β : Nat → Option Loc} {σ : S} {a : Act}

theorem yielded_of {ops : Array Oper} {j s : Nat} (hs : gslot ops j = some s) {b : Bool} (hb : a.tmps.getD s Go.undef = .bool b) : yielded ops a.tmps j = some b := by
  unfold yielded
  unfold gslot at hs
  rw [hs]
  simp only [Option.bind_some]
  have : a.tmps[s]? = some (.bool b) := by
    simp only [Array.getD_eq_getD_getElem?] at hb
    cases he : a.tmps[s]? with
    | none => rw [he] at hb; cases hb
    | some v => rw [he] at hb; simp at hb; rw [hb]
  rw [this]

theorem yielded_undef {ops : Array Oper} {j s : Nat} (hs : gslot ops j = some s) (hb : a.tmps.getD s Go.undef = Go.undef) : yielded ops a.tmps j = none := by
  unfold yielded
  unfold gslot at hs
  rw [hs]
  simp only [Option.bind_some]
  cases he : a.tmps[s]? with
  | none => rfl
  | some v =>
    have : v = Go.undef := by simpa [Array.getD_eq_getD_getElem?, he] using hb
    subst this
    rfl

/-- A slot's datum, said once more. -/
theorem Sim.same (h : Sim w0 A locs β σ a w) {s : Nat} {av : AV} (hs : σ.t s = av) : Sim w0 A locs β { σ with t := upd σ.t s av } a w := by
  have : upd σ.t s av = σ.t := by
    funext j
    unfold upd
    split
    · rename_i e; rw [e, hs]
    · rfl
  rw [this]; exact h

include hT in
theorem amOps_sound {ops : Array Oper} {Q : Exit → Act → World → Prop} : ∀ (l : List Oper) (σ : S) (k : S → Prop), amOps P T ops l σ k → ∀ (β : Nat → Option Loc) (a : Act) (w : World), Sim w0 A locs β σ a w →
    (∀ σ' β' a' w', k σ' → Sim w0 A locs β' σ' a' w' → Q .normal a' w') → wpList P ops Q l a w := by
  intro l
  induction l with
  | nil =>
    intro σ k hk β a w h hQ
    exact hQ σ β a w hk h
  | cons o rest ih =>
    intro σ k hk β a w h hQ
    have op1 : ∀ (σ1 : S), Sim w0 A locs β σ1 a w → amOp1 P T o σ1 (fun σ' => amOps P T ops rest σ' k) → o.wp P a w (wpList P ops Q rest) Q := by
      intro σ1 h1 h2
      obtain ⟨hd, h2⟩ := h2
      refine good_op hT h1 (fun d hdd => by rw [hdd] at hd; exact hd) (m' := σ1.m) (fun _ _ h => h) (fun _ _ _ h => h) (fun _ _ h => h) h2 _ _ ?_
      intro e hK β' a' w' hs
      exact ih _ k hK β' a' w' hs hQ
    unfold wpList
    simp only [amOps] at hk
    split at hk
    · rename_i hg
      rw [if_pos (by simp [Region.wanted, hg])]
      exact .inl (op1 σ h hk)
    · rename_i j want hg
      split at hk
      · exact hk.elim
      · rename_i s hs
        split at hk
        · rename_i b hb
          have hv := h.slot s
          rw [hb] at hv
          have hv' := rep_bool hv
          have hy := yielded_of hs hv'
          by_cases hw : b = want
          · rw [if_pos (by simp [Region.wanted, hg, hy, hw])]
            subst hw
            exact .inl (op1 _ (h.same hb) (hk.1 rfl))
          · rw [if_neg (by simp [Region.wanted, hg, hy, hw])]
            have hbw : b = !want := by cases b <;> cases want <;> simp_all
            obtain ⟨hd, h2⟩ := hk.2 hbw
            subst hbw
            exact ih _ k h2 β _ w ((h.same hb).put (fun d hdd => by rw [hdd] at hd; exact hd) rfl) hQ
        · rename_i hb
          have hv := h.slot s
          rw [hb] at hv
          have hy := yielded_undef hs hv
          rw [if_neg (by simp [Region.wanted, hg, hy])]
          obtain ⟨hd, h2⟩ := hk
          exact ih _ k h2 β _ w (h.put (fun d hdd => by rw [hdd] at hd; exact hd) rfl) hQ
        · exact hk.elim

theorem Sim.epoch (h : Sim w0 A locs β σ a w) (n : Nat) : Sim w0 A locs β { σ with ep := n } a w :=
  { size := h.size, defers := h.defers, slot := h.slot, ob := h.ob, inj := h.inj, new := h.new, fr := h.fr, lt := h.lt, pm := h.pm }

end
end Go.Am
