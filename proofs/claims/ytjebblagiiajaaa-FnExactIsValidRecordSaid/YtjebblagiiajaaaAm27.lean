/- The abstract machine, part 27: rules by which a walk goes, one operation each. -/
import Derived.Test.YtjebblagiiajaaaAm26
namespace Go.Am
open Go

section
variable {P : Program} {T : TypeId → Option TI} {t : Nat → AV} {m : Nat → Option O} {ep n : Nat} {pm : List Nat} {Q : Exit → S → Prop} {k : S → Prop}

theorem go_op {ops : Array Oper} {rest : List Oper} {dst : Option Nat} {op : Op} {ty : TypeId} {pos : String} {after : Array Edge} (hd : dstOk dst n = true)
    (h : amOp P T (evT t) m ep ⟨dst, op, ty, pos, after, none⟩ fun e => forceV e.v fun v => forceM m e.up fun m' => amOps P T ops rest ⟨putT t dst v, m', ep, n, pm⟩ k) :
    amOps P T ops (⟨dst, op, ty, pos, after, none⟩ :: rest) ⟨t, m, ep, n, pm⟩ k := by
  unfold amOps
  refine ⟨dstOk_at hd, ?_⟩
  simp only [app_eq, ev_eq]
  simpa only [forceV_eq, forceM_eq] using h

theorem go_hit {ops : Array Oper} {rest : List Oper} {dst : Option Nat} {op : Op} {ty : TypeId} {pos : String} {after : Array Edge} {j s : Nat} {want : Bool} (hs : gslot ops j = some s) (hb : t s = .imm (.bool want)) (hd : dstOk dst n = true)
    (h : amOp P T (evT t) m ep ⟨dst, op, ty, pos, after, some (j, want)⟩ fun e => forceV e.v fun v => forceM m e.up fun m' => amOps P T ops rest ⟨putT t dst v, m', ep, n, pm⟩ k) :
    amOps P T ops (⟨dst, op, ty, pos, after, some (j, want)⟩ :: rest) ⟨t, m, ep, n, pm⟩ k := by
  have hu : upd t s (.imm (.bool want)) = t := by
    funext i; unfold upd; split
    · rename_i e; rw [e, hb]
    · rfl
  unfold amOps
  simp only [hs, hb, hu]
  refine ⟨fun _ => ⟨dstOk_at hd, ?_⟩, fun h => by cases want <;> cases h⟩
  simp only [app_eq, ev_eq]
  simpa only [forceV_eq, forceM_eq] using h

theorem go_miss {ops : Array Oper} {rest : List Oper} {dst : Option Nat} {op : Op} {ty : TypeId} {pos : String} {after : Array Edge} {j s : Nat} {want : Bool} (hs : gslot ops j = some s) (hb : t s = .imm (.bool (!want))) (hd : dstOk dst n = true)
    (h : amOps P T ops rest ⟨putT t dst .undef, m, ep, n, pm⟩ k) :
    amOps P T ops (⟨dst, op, ty, pos, after, some (j, want)⟩ :: rest) ⟨t, m, ep, n, pm⟩ k := by
  have hu : upd t s (.imm (.bool (!want))) = t := by
    funext i; unfold upd; split
    · rename_i e; rw [e, hb]
    · rfl
  unfold amOps
  simp only [hs, hb, hu]
  refine ⟨fun h => (by cases want <;> cases h), fun _ => ⟨dstOk_at hd, ?_⟩⟩
  simp only [put_eq]
  exact h

theorem go_undef {ops : Array Oper} {rest : List Oper} {dst : Option Nat} {op : Op} {ty : TypeId} {pos : String} {after : Array Edge} {j s : Nat} {want : Bool} (hs : gslot ops j = some s) (hb : t s = .undef) (hd : dstOk dst n = true)
    (h : amOps P T ops rest ⟨putT t dst .undef, m, ep, n, pm⟩ k) :
    amOps P T ops (⟨dst, op, ty, pos, after, some (j, want)⟩ :: rest) ⟨t, m, ep, n, pm⟩ k := by
  unfold amOps
  simp only [hs, hb]
  refine ⟨dstOk_at hd, ?_⟩
  simp only [put_eq]
  exact h

theorem go_splitT {ops : Array Oper} {rest : List Oper} {dst : Option Nat} {op : Op} {ty : TypeId} {pos : String} {after : Array Edge} {j s : Nat} {b : Bool} (hs : gslot ops j = some s) (hb : t s = .imm (.bool b)) (hd : dstOk dst n = true)
    (h1 : b = true → amOp P T (evT (upd t s (.imm (.bool true)))) m ep ⟨dst, op, ty, pos, after, some (j, true)⟩ fun e => forceV e.v fun v => forceM m e.up fun m' => amOps P T ops rest ⟨putT (upd t s (.imm (.bool true))) dst v, m', ep, n, pm⟩ k)
    (h2 : b = false → amOps P T ops rest ⟨putT (upd t s (.imm (.bool false))) dst .undef, m, ep, n, pm⟩ k) :
    amOps P T ops (⟨dst, op, ty, pos, after, some (j, true)⟩ :: rest) ⟨t, m, ep, n, pm⟩ k := by
  unfold amOps
  simp only [hs, hb]
  refine ⟨fun e => ⟨dstOk_at hd, ?_⟩, fun e => ⟨dstOk_at hd, ?_⟩⟩
  · simp only [app_eq, ev_eq]
    simpa only [forceV_eq, forceM_eq] using h1 e
  · simp only [put_eq]
    exact h2 e

theorem go_splitF {ops : Array Oper} {rest : List Oper} {dst : Option Nat} {op : Op} {ty : TypeId} {pos : String} {after : Array Edge} {j s : Nat} {b : Bool} (hs : gslot ops j = some s) (hb : t s = .imm (.bool b)) (hd : dstOk dst n = true)
    (h1 : b = false → amOp P T (evT (upd t s (.imm (.bool false)))) m ep ⟨dst, op, ty, pos, after, some (j, false)⟩ fun e => forceV e.v fun v => forceM m e.up fun m' => amOps P T ops rest ⟨putT (upd t s (.imm (.bool false))) dst v, m', ep, n, pm⟩ k)
    (h2 : b = true → amOps P T ops rest ⟨putT (upd t s (.imm (.bool true))) dst .undef, m, ep, n, pm⟩ k) :
    amOps P T ops (⟨dst, op, ty, pos, after, some (j, false)⟩ :: rest) ⟨t, m, ep, n, pm⟩ k := by
  unfold amOps
  simp only [hs, hb]
  refine ⟨fun e => ⟨dstOk_at hd, ?_⟩, fun e => ⟨dstOk_at hd, ?_⟩⟩
  · simp only [app_eq, ev_eq]
    simpa only [forceV_eq, forceM_eq] using h1 e
  · simp only [put_eq]
    exact h2 e

theorem go_nil {ops : Array Oper} {σ : S} (h : k σ) : amOps P T ops [] σ k := by unfold amOps; exact h

theorem go_seq {x y : Code} {σ : S} (h : amC P T x (thenQ (amC P T y Q) Q) σ) : amC P T (.seq x y) Q σ := h
theorem go_region {id : Nat} {l : List Oper} (h : amOps P T ⟨l⟩ l ⟨t, m, ep + 1, n, pm⟩ (Q .normal)) : amC P T (.region id ⟨l⟩ false) Q ⟨t, m, ep, n, pm⟩ := h
theorem go_draw {id : Nat} {l : List Oper} (hm : P.follows .mixedOrders = true) (h : amDraw P T l t m (ep + 1) (drawnQ l t m (ep + 1) n pm (Q .normal)) l []) : amC P T (.region id ⟨l⟩ true) Q ⟨t, m, ep, n, pm⟩ := ⟨hm, h⟩
def forceD : List Oper → List Eff → (Nat → AV) → (Nat → Option O) → ((Nat → AV) → (Nat → Option O) → Prop) → Prop
  | o :: l, ⟨v, up⟩ :: es, t, m, K => forceM m up fun m' => forceD l es (putT t o.dst v) m' K
  | [], _, t, m, K => K t m
  | _ :: _, [], t, m, K => K t m

theorem forceD_eq : ∀ (l : List Oper) (es : List Eff) (i : Nat) (t : Nat → AV) (m : Nat → Option O) (K : (Nat → AV) → (Nat → Option O) → Prop), l.length = es.length → forceD l es t m K = K (tGo (fun _ => true) i l es t) (mGo (fun _ => true) i es m)
  | [], [], i, t, m, K, _ => rfl
  | [], _ :: _, i, t, m, K, h => by simp at h
  | _ :: _, [], i, t, m, K, h => by simp at h
  | o :: l, ⟨v, up⟩ :: es, i, t, m, K, h => by
    unfold forceD
    rw [forceM_eq, forceD_eq l es (i + 1) _ _ K (by simpa using h)]
    rfl

theorem go_dend {l : List Oper} {es : List Eff} (hc : drawChk l t es ep n m = true) (h : forceD l es t m fun t' m' => k ⟨t', m', ep, n, pm⟩) : amDraw P T l t m ep (drawnQ l t m ep n pm k) [] es := by
  unfold amDraw
  refine ⟨hc, ?_⟩
  rw [forceD_eq l es 0 t m _ (zAll_at hc).1] at h
  exact h

/-! What an operation of a region that draws sees, reckoned out first. -/

def seeT (X : Nat → Bool) : Nat → List Oper → List Eff → (Nat → AV) → ((Nat → AV) → Prop) → Prop
  | i, o :: l, ⟨v, _⟩ :: es, t, K => match X i with
    | true => seeT X (i + 1) l es (putT t o.dst v) K
    | false => seeT X (i + 1) l es t K
  | _, [], _, t, K => K t
  | _, _ :: _, [], t, K => K t
def seeM (X : Nat → Bool) : Nat → List Eff → (Nat → Option O) → ((Nat → Option O) → Prop) → Prop
  | i, ⟨_, up⟩ :: es, m, K => match X i with
    | true => forceM m up fun m' => seeM X (i + 1) es m' K
    | false => seeM X (i + 1) es m K
  | _, [], m, K => K m
def seeB (X : Nat → Bool) : Nat → List Eff → List Nat → (List Nat → Prop) → Prop
  | i, ⟨_, up⟩ :: es, bad, K => match X i with
    | true => seeB X (i + 1) es bad K
    | false => match up with
      | [] => seeB X (i + 1) es bad K
      | x :: r => seeB X (i + 1) es (bad ++ (x :: r).map (·.1)) K
  | _, [], bad, K => K bad
def snocE : List Eff → Eff → (List Eff → Prop) → Prop
  | [], e, K => K [e]
  | a :: as, e, K => snocE as e fun l => K (a :: l)

theorem seeT_eq (X : Nat → Bool) : ∀ (l : List Oper) (es : List Eff) (i : Nat) (t : Nat → AV) (K : (Nat → AV) → Prop), seeT X i l es t K = K (tGo X i l es t)
  | [], _, _, _, _ => by unfold seeT tGo; rfl
  | _ :: _, [], _, _, _ => by unfold seeT tGo; rfl
  | o :: l, ⟨v, up⟩ :: es, i, t, K => by
    unfold seeT tGo
    cases X i
    · simp only [sel]; exact seeT_eq X l es (i + 1) t K
    · simp only [sel]; exact seeT_eq X l es (i + 1) _ K
theorem seeM_eq (X : Nat → Bool) : ∀ (es : List Eff) (i : Nat) (m : Nat → Option O) (K : (Nat → Option O) → Prop), seeM X i es m K = K (mGo X i es m)
  | [], _, _, _ => by unfold seeM mGo; rfl
  | ⟨v, up⟩ :: es, i, m, K => by
    unfold seeM mGo
    cases X i
    · simp only [sel]; exact seeM_eq X es (i + 1) m K
    · simp only [sel, forceM_eq]; exact seeM_eq X es (i + 1) _ K
theorem seeB_eq (D : List Nat) : ∀ (es : List Eff) (i : Nat) (bad : List Nat) (K : (List Nat → Prop)), seeB D.contains i es bad K = ∃ b, (∀ id, b.contains id = (bad.contains id || !touchOk D i es id)) ∧ seeB D.contains i es bad (fun b' => b' = b ∧ K b) := by
  intro es
  induction es with
  | nil =>
    intro i bad K
    unfold seeB
    apply propext
    constructor
    · intro h
      refine ⟨bad, fun id => by simp [touchOk], rfl, h⟩
    · rintro ⟨b, _, rfl, h⟩
      exact h
  | cons e es ih =>
    intro i bad K
    obtain ⟨v, up⟩ := e
    unfold seeB
    cases hX : D.contains i with
    | true =>
      simp only
      rw [ih]
      apply propext
      constructor <;> rintro ⟨b, h1, h2⟩ <;> refine ⟨b, fun id => ?_, h2⟩
      · rw [h1 id]; simp only [touchOk, hX, Bool.true_or, Bool.true_and]
      · have := h1 id; simp only [touchOk, hX, Bool.true_or, Bool.true_and] at this; exact this
    | false =>
      cases up with
      | nil =>
        simp only
        rw [ih]
        apply propext
        constructor <;> rintro ⟨b, h1, h2⟩ <;> refine ⟨b, fun id => ?_, h2⟩
        · rw [h1 id]; simp only [touchOk, hX, ids, List.map_nil, List.contains_nil, Bool.not_false, Bool.or_true, Bool.true_and]
        · have := h1 id; simp only [touchOk, hX, ids, List.map_nil, List.contains_nil, Bool.not_false, Bool.or_true, Bool.true_and] at this; exact this
      | cons x r =>
        simp only
        rw [ih]
        have key : ∀ id, ((bad ++ (x :: r).map (·.1)).contains id || !touchOk D (i + 1) es id) = (bad.contains id || !touchOk D i (⟨v, x :: r⟩ :: es) id) := by
          intro id
          simp only [touchOk, hX, Bool.false_or, ids, Bool.not_and, Bool.not_not, List.contains_eq_mem, List.mem_append]
          cases h1 : decide (id ∈ bad) <;> cases h2 : decide (id ∈ (x :: r).map (·.1)) <;> simp_all
        apply propext
        constructor <;> rintro ⟨b, h1, h2⟩ <;> refine ⟨b, fun id => ?_, h2⟩
        · rw [h1 id, key]
        · rw [h1 id, key]
theorem snocE_eq : ∀ (acc : List Eff) (e : Eff) (K : List Eff → Prop), snocE acc e K = K (acc ++ [e])
  | [], _, _ => rfl
  | a :: as, e, K => by unfold snocE; exact snocE_eq as e _

def forceN : List Nat → (List Nat → Prop) → Prop
  | [], K => K []
  | x :: r, K => forceN r fun l => K (x :: l)
theorem forceN_eq : ∀ (l : List Nat) (K : List Nat → Prop), forceN l K = K l
  | [], _ => rfl
  | x :: r, K => by unfold forceN; exact forceN_eq r _

theorem seen (ρ : Operand → AV) (o : Oper) (acc : List Eff) (ep : Nat) (m : Nat → Option O) {K : (Nat → Option O) → Prop}
    (h : seeM (ddeps o).contains 0 acc m fun m' => seeB (ddeps o).contains 0 acc [] fun bad => forceN (refsOf ρ (opIn o.op)) fun rf => K (fun id => sel (!(hides rf o.op id && !ownId ep o id) && !bad.contains id) (m' id) none)) : K (mSee ρ ep o acc m) := by
  simp only [forceN_eq] at h
  rw [seeM_eq, seeB_eq] at h
  obtain ⟨b, h1, h2⟩ := h
  have h3 : ∀ (es : List Eff) (i : Nat) (bad : List Nat) (K' : List Nat → Prop) (C : Prop), (∀ x, K' x → C) → seeB (ddeps o).contains i es bad K' → C := by
    intro es
    induction es with
    | nil => intro i bad K' C hC h; exact hC _ h
    | cons e es ih =>
      intro i bad K' C hC h
      obtain ⟨v, up⟩ := e
      unfold seeB at h
      split at h
      · exact ih _ _ _ _ hC h
      · split at h
        · exact ih _ _ _ _ hC h
        · exact ih _ _ _ _ hC h
  have hK := h3 acc 0 [] _ _ (fun x hx => hx.2) h2
  have he : mSee ρ ep o acc m = fun id => sel (!(hides (refsOf ρ (opIn o.op)) o.op id && !ownId ep o id) && !b.contains id) (mGo (ddeps o).contains 0 acc m id) none := by
    funext id
    unfold mSee
    have := h1 id
    simp only [List.contains_nil, Bool.false_or] at this
    rw [this, Bool.not_not]
  rw [he]
  exact hK

theorem go_dop {l rest : List Oper} {acc : List Eff} {kk : List Eff → Prop} {dst : Option Nat} {op : Op} {ty : TypeId} {pos : String} {after : Array Edge} (hdet : detOk op = true)
    (h : seeT (ddeps ⟨dst, op, ty, pos, after, none⟩).contains 0 l acc t fun t' => seeM (ddeps ⟨dst, op, ty, pos, after, none⟩).contains 0 acc m fun m' => seeB (ddeps ⟨dst, op, ty, pos, after, none⟩).contains 0 acc [] fun bad => forceN (refsOf (evT t') (opIn op)) fun rf =>
      amOp P T (evT t') (fun id => sel (!(hides rf op id && !ownId ep ⟨dst, op, ty, pos, after, none⟩ id) && !bad.contains id) (m' id) none) ep ⟨dst, op, ty, pos, after, none⟩ fun e => forceV e.v fun v => forceU e.up fun up => snocE acc ⟨v, up⟩ fun acc' => amDraw P T l t m ep kk rest acc') :
    amDraw P T l t m ep kk (⟨dst, op, ty, pos, after, none⟩ :: rest) acc := by
  rw [seeT_eq] at h
  have h' := seen (evT (tSee l ⟨dst, op, ty, pos, after, none⟩ acc t)) (K := fun mm => amOp P T (evT (tSee l ⟨dst, op, ty, pos, after, none⟩ acc t)) mm ep ⟨dst, op, ty, pos, after, none⟩ fun e => forceV e.v fun v => forceU e.up fun up => snocE acc ⟨v, up⟩ fun acc' => amDraw P T l t m ep kk rest acc') _ acc ep m h
  unfold amDraw
  simp only [hdet]
  simpa only [forceV_eq, forceU_eq, snocE_eq] using h'

theorem go_dhit {l rest : List Oper} {acc : List Eff} {kk : List Eff → Prop} {dst : Option Nat} {op : Op} {ty : TypeId} {pos : String} {after : Array Edge} {g : Nat} {want : Bool} (hdet : detOk op = true) (hb : (acc.getD g ⟨.dead, []⟩).v = .imm (.bool want))
    (h : seeT (ddeps ⟨dst, op, ty, pos, after, some (g, want)⟩).contains 0 l acc t fun t' => seeM (ddeps ⟨dst, op, ty, pos, after, some (g, want)⟩).contains 0 acc m fun m' => seeB (ddeps ⟨dst, op, ty, pos, after, some (g, want)⟩).contains 0 acc [] fun bad => forceN (refsOf (evT t') (opIn op)) fun rf =>
      amOp P T (evT t') (fun id => sel (!(hides rf op id && !ownId ep ⟨dst, op, ty, pos, after, some (g, want)⟩ id) && !bad.contains id) (m' id) none) ep ⟨dst, op, ty, pos, after, some (g, want)⟩ fun e => forceV e.v fun v => forceU e.up fun up => snocE acc ⟨v, up⟩ fun acc' => amDraw P T l t m ep kk rest acc') :
    amDraw P T l t m ep kk (⟨dst, op, ty, pos, after, some (g, want)⟩ :: rest) acc := by
  rw [seeT_eq] at h
  have h' := seen (evT (tSee l ⟨dst, op, ty, pos, after, some (g, want)⟩ acc t)) (K := fun mm => amOp P T (evT (tSee l ⟨dst, op, ty, pos, after, some (g, want)⟩ acc t)) mm ep ⟨dst, op, ty, pos, after, some (g, want)⟩ fun e => forceV e.v fun v => forceU e.up fun up => snocE acc ⟨v, up⟩ fun acc' => amDraw P T l t m ep kk rest acc') _ acc ep m h
  unfold amDraw
  simp only [hdet, hb]
  refine ⟨fun _ => ?_, fun e => by cases want <;> cases e⟩
  simpa only [forceV_eq, forceU_eq, snocE_eq] using h'

theorem go_dmiss {l rest : List Oper} {acc : List Eff} {kk : List Eff → Prop} {dst : Option Nat} {op : Op} {ty : TypeId} {pos : String} {after : Array Edge} {g : Nat} {want : Bool} (hdet : detOk op = true) (hb : (acc.getD g ⟨.dead, []⟩).v = .imm (.bool (!want)))
    (h : snocE acc ⟨.undef, []⟩ fun acc' => amDraw P T l t m ep kk rest acc') :
    amDraw P T l t m ep kk (⟨dst, op, ty, pos, after, some (g, want)⟩ :: rest) acc := by
  rw [snocE_eq] at h
  unfold amDraw
  simp only [hdet, hb]
  exact ⟨fun e => (by cases want <;> cases e), fun _ => h⟩

theorem go_dundef {l rest : List Oper} {acc : List Eff} {kk : List Eff → Prop} {dst : Option Nat} {op : Op} {ty : TypeId} {pos : String} {after : Array Edge} {g : Nat} {want : Bool} (hdet : detOk op = true) (hb : (acc.getD g ⟨.dead, []⟩).v = .undef)
    (h : snocE acc ⟨.undef, []⟩ fun acc' => amDraw P T l t m ep kk rest acc') :
    amDraw P T l t m ep kk (⟨dst, op, ty, pos, after, some (g, want)⟩ :: rest) acc := by
  rw [snocE_eq] at h
  unfold amDraw
  simp only [hdet, hb]
  exact h

theorem go_dsplit {l rest : List Oper} {acc : List Eff} {kk : List Eff → Prop} {dst : Option Nat} {op : Op} {ty : TypeId} {pos : String} {after : Array Edge} {g : Nat} {want b : Bool} (hdet : detOk op = true) (hb : (acc.getD g ⟨.dead, []⟩).v = .imm (.bool b))
    (h1 : b = want → amOp P T (evT (tSee l ⟨dst, op, ty, pos, after, some (g, want)⟩ acc t)) (mSee (evT (tSee l ⟨dst, op, ty, pos, after, some (g, want)⟩ acc t)) ep ⟨dst, op, ty, pos, after, some (g, want)⟩ acc m) ep ⟨dst, op, ty, pos, after, some (g, want)⟩ fun e => forceV e.v fun v => forceU e.up fun up => amDraw P T l t m ep kk rest (acc ++ [⟨v, up⟩]))
    (h2 : b = !want → amDraw P T l t m ep kk rest (acc ++ [⟨.undef, []⟩])) :
    amDraw P T l t m ep kk (⟨dst, op, ty, pos, after, some (g, want)⟩ :: rest) acc := by
  unfold amDraw
  simp only [hdet, hb]
  refine ⟨fun e => ?_, h2⟩
  simpa only [forceV_eq, forceU_eq] using h1 e

theorem go_nilImm {tt : TypeId} {x : AV} {rows : List (List D)} {e : TypeId} {a1 b1 : Nat} {z1 : List D} {K : Eff → Prop} (hT : T tt = some ⟨.slice e, a1, b1, z1⟩) (hx : x = .imm (.list rows)) (h : ∀ b, (rows ≠ [] → b = false) → K ⟨.imm (.bool b), []⟩) : opNilCmp T m .eql tt x K := by
  subst hx
  unfold opNilCmp nilness
  simp only [hT]
  exact h

theorem go_skip {σ : S} (h : Q .normal σ) : amC P T .skip Q σ := h
theorem go_block {id : Nat} {c : Code} {σ : S} (h : amC P T c (blockQ id Q) σ) : amC P T (.block id c) Q σ := h
theorem go_exit {id : Nat} {σ : S} (h : Q (.exit id) σ) : amC P T (.exit id) Q σ := h
theorem go_ret {σ : S} (h : Q .ret σ) : amC P T .ret Q σ := h
theorem go_true {c : Operand} {x y : Code} (hc : evT t c = .imm (.bool true)) (h : amC P T x Q ⟨t, m, ep, n, pm⟩) : amC P T (.cond c x y) Q ⟨t, m, ep, n, pm⟩ := by
  unfold amC
  simp only [ev_eq, hc]
  exact ⟨fun _ => h, fun e => by cases e⟩
theorem go_false {c : Operand} {x y : Code} (hc : evT t c = .imm (.bool false)) (h : amC P T y Q ⟨t, m, ep, n, pm⟩) : amC P T (.cond c x y) Q ⟨t, m, ep, n, pm⟩ := by
  unfold amC
  simp only [ev_eq, hc]
  exact ⟨fun e => (by cases e), fun _ => h⟩
theorem go_cond {c : Operand} {x y : Code} {b : Bool} (hc : evT t c = .imm (.bool b)) (h1 : b = true → amC P T x Q ⟨t, m, ep, n, pm⟩) (h2 : b = false → amC P T y Q ⟨t, m, ep, n, pm⟩) : amC P T (.cond c x y) Q ⟨t, m, ep, n, pm⟩ := by
  unfold amC
  simp only [ev_eq, hc]
  exact ⟨h1, h2⟩

/-- A loop's rounds, by what is so at its head. -/
def rounds {α : Type} (Inv : α → Prop) (μ : α → Nat) (F : α → S) : Nat → S → Prop := fun n σ' => ∃ x, Inv x ∧ n = μ x ∧ σ' = F x

theorem go_loop {α : Type} (Inv : α → Prop) (μ : α → Nat) (F : α → S) (x0 : α) {c : Code} {σ : S} (hi : Inv x0) (h0 : Ref σ (F x0)) (h : ∀ x, Inv x → amC P T c (loopQ (rounds Inv μ F) (μ x) Q) (F x)) : amC P T (.loop c) Q σ := by
  refine ⟨rounds Inv μ F, ⟨μ x0, F x0, h0, x0, hi, rfl, rfl⟩, ?_⟩
  rintro n' σ' ⟨x, hx, rfl, rfl⟩
  exact h x hx

theorem go_next {α : Type} {Inv : α → Prop} {μ : α → Nat} {F : α → S} (x' : α) {N : Nat} {σ : S} (hi : Inv x') (hl : μ x' < N) (hr : Ref σ (F x')) : ∃ n' σ1, n' < N ∧ Ref σ σ1 ∧ rounds Inv μ F n' σ1 :=
  ⟨μ x', F x', hl, hr, x', hi, rfl, rfl⟩

theorem le_of_ble {a b : Nat} (h : Nat.ble a b = true) : a ≤ b := Nat.le_of_ble_eq_true h

/-- A state without objects may be weakened. -/
theorem ref_st0 {σ : S} {n : Nat} {ts : List (Nat × AV)} (hn : σ.n = n) (ht : wT id (fun _ => none) σ.t ts) (hp : σ.pm = []) : Ref σ (st n ts [] []) := by
  refine ref_st id hn ht trivial ?_ (by rw [hp]; rfl) (by simp)
  simp

/-! ### Calls -/

def callChk (vs fz : List Nat) (gs : List (Option Nat)) : Bool := decide ((fz ++ gs.filterMap id).Nodup) && vs.all fun v => !(fz.contains v) && !(gs.contains (some v))

theorem callChk_at {vs fz : List Nat} {gs : List (Option Nat)} (h : callChk vs fz gs = true) : (fz ++ gs.filterMap id).Nodup ∧ ∀ v ∈ vs, v ∉ fz ∧ some v ∉ gs := by
  unfold callChk at h
  simp only [Bool.and_eq_true, decide_eq_true_eq, List.all_eq_true, Bool.not_eq_true', List.contains_eq_mem, decide_eq_false_iff_not] at h
  exact ⟨h.1, fun v hv => h.2 v hv⟩

def freshB (m : Nat → Option O) : List (Nat × O) → Bool
  | [] => true
  | (i, _) :: r => (m i).isNone && freshB m r

theorem freshB_at {m : Nat → Option O} : ∀ {l : List (Nat × O)}, freshB m l = true → freshAll m l
  | [], _ => trivial
  | (i, o) :: r, h => by
    simp only [freshB, Bool.and_eq_true, Option.isNone_iff_eq_none] at h
    exact ⟨h.1, freshB_at h.2⟩

theorem go_call {o : Oper} {f : FuncId} {args : List AV} {K : Eff → Prop} (md : List Nat) {ins : List In} {out : Out} {vs fz : List Nat} {gs : List (Option Nat)} (hc : CallOk P f ins out)
    (ha : argsIn m md args = some (ins, vs, fz, gs)) (hs : (out.sep || vs.isEmpty) = true) (hn : callChk vs fz gs = true) (hf : freshB m (resUp ep (o.dst.getD 0) 0 out.res) = true)
    (hk : K (callEff ep (o.dst.getD 0) fz gs out)) : opCall P m ep o f args K := by
  refine ⟨md, out, ?_⟩
  rw [ha]
  refine ⟨hc, ?_, callChk_at hn, freshB_at hf, hk⟩
  simpa using hs

/-! ### Results -/

theorem ret_imm {fn : Func} {ins : List In} {rv : ResultVar} {d d' : D} {σ : S} (hr : fn.results.toList = [rv]) (hm : mutIdx ins = []) (hp : σ.pm = []) (hv : retAV T σ rv = .imm d') (hd : d' = d) (hg : d.gr' = true) :
    retQ T fn ins { res := [.imm d] } .ret σ := by
  subst hd
  show RetOk _ _ _ _ _
  refine ⟨?_, ?_, by rw [hp]; exact List.nodup_nil, by rw [hm, hp]; trivial⟩
  · rw [hr]
    simp only [List.map_cons, List.map_nil, hv]
    exact ⟨⟨rfl, fun _ => hg⟩, trivial⟩
  · rw [hr]
    simp only [List.map_cons, List.map_nil, hv, ownIds]
    exact List.nodup_nil

def RetIs (T : TypeId → Option TI) (σ : S) : List ResultVar → List D → Prop
  | [], [] => True
  | rv :: r, d :: ds => retAV T σ rv = .imm d ∧ RetIs T σ r ds
  | _, _ => False

theorem ret_imms {fn : Func} {ins : List In} {rvs : List ResultVar} {ds : List D} {σ : S} (hr : fn.results.toList = rvs) (hm : mutIdx ins = []) (hp : σ.pm = []) (h : RetIs T σ rvs ds) (hg : ds.all D.gr' = true) :
    retQ T fn ins { res := ds.map .imm } .ret σ := by
  show RetOk _ _ _ _ _
  have h1 : ∀ (rvs : List ResultVar) (ds : List D), RetIs T σ rvs ds → ds.all D.gr' = true → RetAll σ true (rvs.map (retAV T σ)) (ds.map .imm) ∧ ownIds (rvs.map (retAV T σ)) = [] := by
    intro rvs
    induction rvs with
    | nil => intro ds h _; cases ds with
      | nil => exact ⟨trivial, rfl⟩
      | cons d ds => exact h.elim
    | cons rv rvs ih =>
      intro ds h hg
      cases ds with
      | nil => exact h.elim
      | cons d ds =>
        simp only [List.all_cons, Bool.and_eq_true] at hg
        obtain ⟨q1, q2⟩ := ih ds h.2 hg.2
        simp only [List.map_cons, h.1]
        exact ⟨⟨⟨rfl, fun _ => hg.1⟩, q1⟩, q2⟩
  obtain ⟨q1, q2⟩ := h1 rvs ds h hg
  exact ⟨by rw [hr]; exact q1, by rw [hr, q2]; exact List.nodup_nil, by rw [hp]; exact List.nodup_nil, by rw [hm, hp]; trivial⟩

theorem ret_imm2 {fn : Func} {ins : List In} {r1 r2 : ResultVar} {a a' b b' : D} {σ : S} (hr : fn.results.toList = [r1, r2]) (hm : mutIdx ins = []) (hp : σ.pm = []) (h1 : retAV T σ r1 = .imm a') (h2 : retAV T σ r2 = .imm b')
    (ha : a' = a) (hb : b' = b) (hg : [a, b].all D.gr' = true) : retQ T fn ins { res := [.imm a, .imm b] } .ret σ := by
  subst ha hb
  exact ret_imms (ds := [a', b']) hr hm hp ⟨h1, h2, trivial⟩ hg

theorem ret_imm3 {fn : Func} {ins : List In} {r1 r2 r3 : ResultVar} {a a' b b' c c' : D} {σ : S} (hr : fn.results.toList = [r1, r2, r3]) (hm : mutIdx ins = []) (hp : σ.pm = []) (h1 : retAV T σ r1 = .imm a') (h2 : retAV T σ r2 = .imm b') (h3 : retAV T σ r3 = .imm c')
    (ha : a' = a) (hb : b' = b) (hc : c' = c) (hg : [a, b, c].all D.gr' = true) : retQ T fn ins { res := [.imm a, .imm b, .imm c] } .ret σ := by
  subst ha hb hc
  exact ret_imms (ds := [a', b', c']) hr hm hp ⟨h1, h2, h3, trivial⟩ hg

theorem ret_imm4 {fn : Func} {ins : List In} {r1 r2 r3 r4 : ResultVar} {a a' b b' c c' d d' : D} {σ : S} (hr : fn.results.toList = [r1, r2, r3, r4]) (hm : mutIdx ins = []) (hp : σ.pm = []) (h1 : retAV T σ r1 = .imm a') (h2 : retAV T σ r2 = .imm b') (h3 : retAV T σ r3 = .imm c')
    (h4 : retAV T σ r4 = .imm d') (ha : a' = a) (hb : b' = b) (hc : c' = c) (hd : d' = d) (hg : [a, b, c, d].all D.gr' = true) : retQ T fn ins { res := [.imm a, .imm b, .imm c, .imm d] } .ret σ := by
  subst ha hb hc hd
  exact ret_imms (ds := [a', b', c', d']) hr hm hp ⟨h1, h2, h3, h4, trivial⟩ hg

theorem ret_own {fn : Func} {ins : List In} {r : Nat} {rows : List (List D)} {id off len ty sz : Nat} {rows' : List (List D)} {σ : S} (hr : fn.results.toList = [.tmp r]) (hm : mutIdx ins = []) (hp : σ.pm = []) (hv : σ.t r = .own id off len)
    (hmm : σ.m id = some (.arr ty sz rows')) (hd : (rows'.drop off).take len = rows) (hg : ∀ x ∈ rows, x.all D.gr = true) :
    retQ T fn ins { res := [.imm (.list rows)] } .ret σ := by
  subst hd
  show RetOk _ _ _ _ _
  refine ⟨?_, ?_, by rw [hp]; exact List.nodup_nil, by rw [hm, hp]; trivial⟩
  · rw [hr]
    simp only [List.map_cons, List.map_nil, retAV, hv]
    refine ⟨?_, trivial⟩
    simp only [Ret1, hmm]
    exact ⟨trivial, fun _ => hg, by rw [hp]; simp⟩
  · rw [hr]
    simp only [List.map_cons, List.map_nil, retAV, hv, ownIds]
    simp

theorem ret_arr {fn : Func} {ins : List In} {r : Nat} {rows : List (List D)} {id off len ty sz : Nat} {rows' : List (List D)} {σ : S} (hr : fn.results.toList = [.tmp r]) (hm : mutIdx ins = []) (hp : σ.pm = []) (hv : σ.t r = .own id off len)
    (hmm : σ.m id = some (.arr ty sz rows')) (hd : (rows'.drop off).take len = rows) (hg : ∀ x ∈ rows, x.all D.gr = true) :
    retQ T fn ins { res := [.arr ty sz rows] } .ret σ := by
  subst hd
  show RetOk _ _ _ _ _
  refine ⟨?_, ?_, by rw [hp]; exact List.nodup_nil, by rw [hm, hp]; trivial⟩
  · rw [hr]
    simp only [List.map_cons, List.map_nil, retAV, hv]
    refine ⟨?_, trivial⟩
    simp only [Ret1, hmm]
    exact ⟨trivial, trivial, trivial, fun _ => hg, by rw [hp]; simp⟩
  · rw [hr]
    simp only [List.map_cons, List.map_nil, retAV, hv, ownIds]
    simp

theorem mutOk_imm {ins : List In} (h : ins.all (fun x => !x.isMut) = true) (out : Out) : MutOk ins out := by
  intro i o hi
  have h := List.all_eq_true.1 h
  unfold inM at hi
  split at hi
  · rename_i hx; have := h _ (List.mem_of_getElem? hx); cases this
  · rename_i hx; have := h _ (List.mem_of_getElem? hx); cases this
  · cases hi

/-! ### Elements -/

theorem go_make {o : Oper} {d : Nat} {tt e : TypeId} {a1 b1 : Nat} {z1 : List D} {te : TI} {l c : AV} {kd kd' : IntKind} {i j : Int} {K : Eff → Prop} (ho : o.dst = some d) (hT : T tt = some ⟨.slice e, a1, b1, z1⟩) (hl : l = .imm (.int kd i)) (hc : c = .imm (.int kd' j)) (hE : T e = some te)
    (hb : Nat.ble te.bytes 65536 = true) (hz : Nat.blt 0 te.size = true) (hzz : Nat.beq te.zero.length te.size = true) (hf : m (nid ep d) = none) (h0 : 0 ≤ i) (h1 : i ≤ j) (h2 : j ≤ 2147483648)
    (hk : K ⟨.own (nid ep d) 0 i.toNat, [(nid ep d, .arr e te.size (List.replicate i.toNat te.zero))]⟩) : opMake T m ep o tt l c K := by
  subst hl hc
  unfold opMake
  simp only [ho, hT, hE]
  have hb' : (te.bytes : Int) ≤ 65536 := by have := Nat.le_of_ble_eq_true hb; omega
  refine ⟨h0, h1, ?_, by omega, Nat.le_of_ble_eq_true hz, Nat.eq_of_beq_eq_true hzz, hf, hk⟩
  have : (te.bytes : Int) * j ≤ 65536 * j := Int.mul_le_mul_of_nonneg_right hb' (by omega)
  omega

theorem go_makeN {o : Oper} {d : Nat} {tt e : TypeId} {a1 b1 : Nat} {z1 : List D} {te : TI} {l c : AV} {kd kd' : IntKind} {i : Nat} {j : Int} {K : Eff → Prop} (ho : o.dst = some d) (hT : T tt = some ⟨.slice e, a1, b1, z1⟩) (hl : l = .imm (.int kd (i : Nat))) (hc : c = .imm (.int kd' j)) (hE : T e = some te)
    (hb : Nat.ble te.bytes 65536 = true) (hz : Nat.blt 0 te.size = true) (hzz : Nat.beq te.zero.length te.size = true) (hf : m (nid ep d) = none) (h1 : i ≤ j) (h2 : j ≤ 2147483648)
    (hk : K ⟨.own (nid ep d) 0 i, [(nid ep d, .arr e te.size (List.replicate i te.zero))]⟩) : opMake T m ep o tt l c K :=
  go_make ho hT hl hc hE hb hz hzz hf (by omega) h1 h2 (by simpa using hk)

theorem go_storeBox {tt : TypeId} {K : Eff → Prop} {id off : Nat} {ty : TypeId} {cells vs : List AV} {ti : TI} {x v : AV} (hx : x = .box id off) (hm : m id = some (.box ty cells)) (hT : T tt = some ti)
    (hv : acells m v = some vs) (hl : Nat.beq vs.length ti.size = true) (hl' : Nat.ble (off + ti.size) cells.length = true) (h : K ⟨.undef, [(id, .box ty (setAt cells off vs))]⟩) : opStore T m tt x v K := by
  subst hx
  unfold opStore
  simp only [hT, hm, hv]
  exact ⟨Nat.eq_of_beq_eq_true hl, Nat.le_of_ble_eq_true hl', h⟩

theorem go_idxOwn {tt : TypeId} {K : Eff → Prop} {kd : IntKind} {i : Nat} {id len : Nat} {e ty : TypeId} {sz : Nat} {rows : List (List D)} {a1 b1 : Nat} {z1 : List D} {te : TI} {x y : AV} (hx : x = .own id 0 len) (hy : y = .imm (.int kd (i : Nat))) (hT : T tt = some ⟨.slice e, a1, b1, z1⟩) (hE : T e = some te)
    (hm : m id = some (.arr ty sz rows)) (hs : sz = te.size) (hi : i < len) (h : K ⟨.eptr id i 0, []⟩) : opIndexAddr T m tt x y K := by
  subst hx hy
  unfold opIndexAddr
  simp only [hT, hE, hm]
  refine ⟨by omega, by omega, hs, ?_⟩
  simpa using h

theorem go_storeRow {tt : TypeId} {K : Eff → Prop} {id i : Nat} {ty : TypeId} {sz : Nat} {rows rows' : List (List D)} {ti : TI} {x v : AV} {ds r : List D} (hx : x = .eptr id i 0) (hm : m id = some (.arr ty sz rows)) (hT : T tt = some ti)
    (hd : dcells m v = some (ds, [])) (hr : rows[i]? = some r) (hl : ds.length = ti.size) (hl' : r.length = ti.size) (hrows : rows.set i ds = rows') (h : K ⟨.undef, [(id, .arr ty sz rows')]⟩) : opStore T m tt x v K := by
  subst hx hrows
  unfold opStore
  simp only [hT, hm, hd, hr]
  refine ⟨hl, by omega, by simp, ?_⟩
  have : setAt r 0 ds = ds := by
    unfold setAt
    rw [Nat.zero_add, List.drop_eq_nil_of_le (by omega)]
    simp
  rw [this]
  exact h

theorem go_append {o : Oper} {d : Nat} {tt e ty ty2 : TypeId} {a1 b1 : Nat} {z1 : List D} {te : TI} {x y : AV} {id id2 len len2 sz sz2 : Nat} {rows rows2 : List (List D)} {K : Eff → Prop} (ho : o.dst = some d) (hT : T tt = some ⟨.slice e, a1, b1, z1⟩) (hx : x = .own id 0 len) (hE : T e = some te)
    (hm : m id = some (.arr ty sz rows)) (hte : ty = e) (hsz : sz = te.size) (hf : m (nid ep d) = none) (hy : y = .own id2 0 len2) (hm2 : m id2 = some (.arr ty2 sz2 rows2)) (hs2 : sz2 = te.size) (hne : Nat.beq id2 id = false)
    (hone : rows2.all (fun r => r.all D.one) = true) (hb : Nat.ble te.bytes 65536 = true) (hlen : len = rows.length) (hl2 : len2 = rows2.length) (hbound : len + len2 ≤ 1073741824)
    (hk : K ⟨.own (nid ep d) 0 (len + len2), [(id, .gone), (nid ep d, .arr e te.size (rows ++ rows2))]⟩) : opAppend T m ep o tt x y K := by
  subst hx hy hte hsz hlen hl2
  unfold opAppend
  simp only [ho, hT, hE, hm, hm2]
  have hb' : te.bytes ≤ 65536 := Nat.le_of_ble_eq_true hb
  have hmul : (rows.length + rows2.length) * te.bytes ≤ 1073741824 * 65536 := Nat.mul_le_mul hbound hb'
  have hneq : id2 ≠ id := fun h => by subst h; rw [Nat.beq_refl] at hne; cases hne
  refine ⟨trivial, trivial, by omega, hf, hs2, by omega, hneq, ?_, by omega, by omega, ?_⟩
  · intro r hr
    rw [List.drop_zero, List.take_length] at hr
    exact List.all_eq_true.1 hone r hr
  · rw [List.drop_zero, List.drop_zero, List.take_length]
    exact hk

/-- A slice that is filled row by row. -/
def fill {α : Type} (f : α → List D) (z : List D) (xs : List α) (i : Nat) : List (List D) := (xs.take i).map f ++ List.replicate (xs.length - i) z

theorem fill_0 {α : Type} (f : α → List D) (z : List D) (xs : List α) : List.replicate xs.length z = fill f z xs 0 := by simp [fill]
theorem fill_end {α : Type} (f : α → List D) (z : List D) (xs : List α) {i : Nat} (h : xs.length ≤ i) : fill f z xs i = xs.map f := by
  unfold fill
  rw [List.take_of_length_le h, Nat.sub_eq_zero_of_le h]
  simp
theorem fill_len {α : Type} (f : α → List D) (z : List D) (xs : List α) {i : Nat} (h : i ≤ xs.length) : (fill f z xs i).length = xs.length := by
  simp [fill]; omega
theorem fill_at {α : Type} (f : α → List D) (z : List D) {xs : List α} {i : Nat} {x : α} (h : xs[i]? = some x) : (fill f z xs i)[i]? = some z := by
  have hi := (List.getElem?_eq_some_iff.1 h).1
  unfold fill
  rw [List.getElem?_append_right (by simp; omega)]
  simp [List.getElem?_replicate]; omega
theorem fill_set {α : Type} (f : α → List D) (z : List D) {xs : List α} {i : Nat} {x : α} (h : xs[i]? = some x) : (fill f z xs i).set i (f x) = fill f z xs (i + 1) := by
  have hi := (List.getElem?_eq_some_iff.1 h).1
  unfold fill
  have hl : ((xs.take i).map f).length = i := by simp; omega
  rw [List.set_append_right _ _ (by omega), hl, Nat.sub_self]
  obtain ⟨k, hk⟩ : ∃ k, xs.length - i = k + 1 := ⟨xs.length - i - 1, by omega⟩
  rw [hk, List.replicate_succ, List.set_cons_zero, List.take_add_one, h, show xs.length - (i + 1) = k from by omega]
  simp

theorem row_at {α : Type} {xs : List α} {i : Nat} {x : α} (f : α → List D) (h : xs[i]? = some x) : (xs.map f)[((i : Nat) : Int).toNat]? = some (f x) := by
  simp [h]

theorem all_next {α : Type} {p : α → Bool} {xs : List α} {i : Nat} {x : α} (h : xs[i]? = some x) (ha : (xs.take i).all p = true) (hp : p x = true) : (xs.take (i + 1)).all p = true := by
  rw [List.take_add_one, h]
  simp only [List.all_append, ha, Option.toList_some, List.all_cons, hp, List.all_nil, Bool.and_self]

theorem all_end {α : Type} {p : α → Bool} {xs : List α} {i : Nat} (h : xs.length ≤ i) (ha : (xs.take i).all p = true) : xs.all p = true := by
  rwa [List.take_of_length_le h] at ha

theorem all_not {α : Type} {p : α → Bool} {xs : List α} {i : Nat} {x : α} (h : xs[i]? = some x) (hp : p x = false) : xs.all p = false := by
  cases ha : xs.all p with
  | false => rfl
  | true => rw [List.all_eq_true.1 ha x (List.mem_of_getElem? h)] at hp; cases hp

theorem lt_of_at {α : Type} {xs : List α} {i : Nat} {x : α} (h : xs[i]? = some x) : i < xs.length := (List.getElem?_eq_some_iff.1 h).1
theorem le_of_at {α : Type} {xs : List α} {i : Nat} (h : xs[i]? = none) : xs.length ≤ i := List.getElem?_eq_none_iff.1 h

theorem next_i {i : Nat} (h : (i : Int) < 4611686018427387904) : AV.imm (.int .i64 (IntKind.i64.wrap ((i : Int) + 1))) = .imm (.int .i64 ((i + 1 : Nat) : Int)) := by
  have : IntKind.i64.wrap ((i : Int) + 1) = ((i + 1 : Nat) : Int) := by simp only [IntKind.wrap, IntKind.bits, IntKind.signed]; simp; omega
  rw [this]

theorem go_pickT {c a b : AV} {K : Eff → Prop} (hc : c = .imm (.bool true)) (h : K ⟨a, []⟩) : opPick c a b K := by subst hc; exact ⟨fun _ => h, fun e => by cases e⟩
theorem go_pickF {c a b : AV} {K : Eff → Prop} (hc : c = .imm (.bool false)) (h : K ⟨b, []⟩) : opPick c a b K := by subst hc; exact ⟨fun e => (by cases e), fun _ => h⟩
theorem go_pick {c a b : AV} {K : Eff → Prop} {x : Bool} (hc : c = .imm (.bool x)) (h1 : x = true → K ⟨a, []⟩) (h2 : x = false → K ⟨b, []⟩) : opPick c a b K := by subst hc; exact ⟨h1, h2⟩

theorem go_idx {tt : TypeId} {K : Eff → Prop} {kd : IntKind} {i : Int} {rows : List (List D)} {e : TypeId} {r : List D} {a1 b1 : Nat} {z1 : List D} {te : TI} {x y : AV} (hx : x = .imm (.list rows)) (hy : y = .imm (.int kd i)) (hT : T tt = some ⟨.slice e, a1, b1, z1⟩) (hE : T e = some te)
    (h0 : 0 ≤ i) (hr : rows[i.toNat]? = some r) (hl : r.length = te.size) (h : K ⟨.imm (.ptr r), []⟩) : opIndexAddr T m tt x y K := by
  subst hx hy
  unfold opIndexAddr
  simp only [hT, hE]
  refine ⟨h0, ?_⟩
  rw [hr]
  exact ⟨hl, h⟩

end
end Go.Am
