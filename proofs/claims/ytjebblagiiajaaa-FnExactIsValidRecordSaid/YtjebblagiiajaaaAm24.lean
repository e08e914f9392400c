/- The abstract machine, part 24: regions that draw their order: one walk in the text's order serves every order. -/
import Derived.Test.YtjebblagiiajaaaAm23
namespace Go.Am
open Go

def ddeps (o : Oper) : List Nat := (o.after.toList.filter (Region.binds .any)).map (·.on)

def sel {α : Type} (b : Bool) (x y : α) : α := match b with | true => x | false => y

/-- The slots behind the operations of X. -/
def tGo (X : Nat → Bool) : Nat → List Oper → List Eff → (Nat → AV) → (Nat → AV)
  | i, o :: l, e :: es, t => tGo X (i + 1) l es (sel (X i) (putT t o.dst e.v) t)
  | _, [], _, t => t
  | _, _ :: _, [], t => t

/-- The objects behind the operations of X. -/
def mGo (X : Nat → Bool) : Nat → List Eff → (Nat → Option O) → (Nat → Option O)
  | i, e :: es, m => mGo X (i + 1) es (sel (X i) (upm m e.up) m)
  | _, [], m => m

def ids (e : Eff) : List Nat := e.up.map (·.1)

def touchOk (D : List Nat) : Nat → List Eff → Nat → Bool
  | i, e :: es, id => (D.contains i || !(ids e).contains id) && touchOk D (i + 1) es id
  | _, [], _ => true

def memless : Op → Bool
  | .move _ | .assign _ | .pick .. | .binOp .. | .unOp .. | .alloc _ | .field .. | .index .. | .extract .. => true
  | _ => false

def ownId (ep : Nat) (o : Oper) (id : Nat) : Bool := id % 16777216 == nid ep (o.dst.getD 0) % 16777216

/-- The objects that a value names. -/
def avIds : AV → List Nat
  | .own id _ _ => [id]
  | .box id _ => [id]
  | .eptr id _ _ => [id]
  | .clo _ ids => ids
  | _ => []
def refsOf (ρ : Operand → AV) : List Operand → List Nat
  | [] => []
  | x :: r => avIds (ρ x) ++ refsOf ρ r
/-- An operation looks at no object but those that its operands name. -/
def hides (rf : List Nat) (op : Op) (id : Nat) : Bool := memless op || !rf.contains id

/-- The objects that an operation may look at. -/
def mSee (ρ : Operand → AV) (ep : Nat) (o : Oper) (acc : List Eff) (m : Nat → Option O) (id : Nat) : Option O :=
  sel (!(hides (refsOf ρ (opIn o.op)) o.op id && !ownId ep o id) && touchOk (ddeps o) 0 acc id) (mGo (ddeps o).contains 0 acc m id) none

def tSee (l : List Oper) (o : Oper) (acc : List Eff) (t : Nat → AV) : Nat → AV := tGo (ddeps o).contains 0 l acc t

def amDraw (P : Program) (T : TypeId → Option TI) (l : List Oper) (t : Nat → AV) (m : Nat → Option O) (ep : Nat) (k : List Eff → Prop) : List Oper → List Eff → Prop
  | [], acc => k acc
  | o :: rest, acc =>
    match detOk o.op with
    | false => False
    | true =>
      match o.guard with
      | none => amOp P T (evT (tSee l o acc t)) (mSee (evT (tSee l o acc t)) ep o acc m) ep o fun e => amDraw P T l t m ep k rest (acc ++ [e])
      | some (g, want) =>
        match (acc.getD g ⟨.dead, []⟩).v with
        | .imm (.bool b) => (b = want → amOp P T (evT (tSee l o acc t)) (mSee (evT (tSee l o acc t)) ep o acc m) ep o fun e => amDraw P T l t m ep k rest (acc ++ [e])) ∧
            (b = !want → amDraw P T l t m ep k rest (acc ++ [⟨.undef, []⟩]))
        | .undef => amDraw P T l t m ep k rest (acc ++ [⟨.undef, []⟩])
        | _ => False

/-- What one operation came to. -/
def Came (P : Program) (T : TypeId → Option TI) (l : List Oper) (t : Nat → AV) (m : Nat → Option O) (ep : Nat) (es : List Eff) (j : Nat) (o : Oper) (e : Eff) : Prop :=
  ((o.guard = none ∨ ∃ g want, o.guard = some (g, want) ∧ (es.getD g ⟨.dead, []⟩).v = .imm (.bool want)) ∧ amOp P T (evT (tSee l o (es.take j) t)) (mSee (evT (tSee l o (es.take j) t)) ep o (es.take j) m) ep o fun e' => e' = e) ∨
  (∃ g want, o.guard = some (g, want) ∧ ((es.getD g ⟨.dead, []⟩).v = .imm (.bool (!want)) ∨ (es.getD g ⟨.dead, []⟩).v = .undef) ∧ e = ⟨.undef, []⟩)

theorem getD_app {es : List Eff} {d : Eff} {g : Nat} (h : g < es.length) (r : List Eff) : (es ++ r).getD g d = es.getD g d := by
  simp [List.getD, List.getElem?_append_left h]

theorem guard_lt {es : List Eff} {g : Nat} (h : (es.getD g ⟨.dead, []⟩).v ≠ .dead) : g < es.length := by
  refine Classical.byContradiction fun hn => h ?_
  simp [List.getD, List.getElem?_eq_none (Nat.le_of_not_lt hn)]

theorem amDraw_out {P : Program} {T : TypeId → Option TI} {l : List Oper} {t : Nat → AV} {m : Nat → Option O} {ep : Nat} {k : List Eff → Prop} : ∀ (rest : List Oper) (acc : List Eff), amDraw P T l t m ep k rest acc →
    ∃ es, k (acc ++ es) ∧ es.length = rest.length ∧ ∀ (j : Nat) (o : Oper) (e : Eff), rest[j]? = some o → es[j]? = some e → Came P T l t m ep (acc ++ es) (acc.length + j) o e
  | [], acc, h => ⟨[], by unfold amDraw at h; simpa using h, rfl, fun j o e h => by simp at h⟩
  | o :: rest, acc, h => by
    have key : ∀ e, Came P T l t m ep acc acc.length o e → (∀ es : List Eff, Came P T l t m ep acc acc.length o e → Came P T l t m ep (acc ++ ([e] ++ es)) acc.length o e) → amDraw P T l t m ep k rest (acc ++ [e]) →
        ∃ es, k (acc ++ es) ∧ es.length = (o :: rest).length ∧ ∀ (j : Nat) (o' : Oper) (e' : Eff), (o :: rest)[j]? = some o' → es[j]? = some e' → Came P T l t m ep (acc ++ es) (acc.length + j) o' e' := by
      intro e hc hext hd
      obtain ⟨es, h1, h2, h3⟩ := amDraw_out rest _ hd
      refine ⟨e :: es, by simpa using h1, by simp [h2], fun j o' e' hj he => ?_⟩
      cases j with
      | zero =>
        simp at hj he; subst hj he
        exact hext es hc
      | succ j =>
        have := h3 j o' e' (by simpa using hj) (by simpa using he)
        simp only [List.append_assoc, List.singleton_append, List.length_append, List.length_cons, List.length_nil] at this
        rw [show acc.length + (j + 1) = acc.length + (0 + 1) + j from by omega]
        exact this
    have hext : ∀ e (es : List Eff), Came P T l t m ep acc acc.length o e → Came P T l t m ep (acc ++ ([e] ++ es)) acc.length o e := by
      intro e es hc
      have htake : (acc ++ ([e] ++ es)).take acc.length = acc.take acc.length := by simp
      rcases hc with ⟨hg, ho⟩ | ⟨g, want, hg, hv, he⟩
      · refine .inl ⟨?_, by rw [htake]; exact ho⟩
        rcases hg with hg | ⟨g, want, hg, hv⟩
        · exact .inl hg
        · refine .inr ⟨g, want, hg, ?_⟩
          rw [getD_app (guard_lt (by rw [hv]; intro e; cases e))]; exact hv
      · refine .inr ⟨g, want, hg, ?_, he⟩
        have hlt : g < acc.length := guard_lt (by rcases hv with hv | hv <;> (rw [hv]; intro e; cases e))
        rw [getD_app hlt]; exact hv
    unfold amDraw at h
    have hself : acc.take acc.length = acc := by simp
    split at h
    · exact h.elim
    rename_i hdet
    split at h
    · rename_i hg
      obtain ⟨e, h1, h2⟩ := det_amOp hdet _ h
      exact key e (.inl ⟨.inl hg, by rw [hself]; exact h2⟩) (hext e) h1
    · rename_i g want hg
      split at h
      · rename_i b hb
        by_cases hw : b = want
        · obtain ⟨e, h1, h2⟩ := det_amOp hdet _ (h.1 hw)
          exact key e (.inl ⟨.inr ⟨g, want, hg, by rw [hb, hw]⟩, by rw [hself]; exact h2⟩) (hext e) h1
        · have hbw : b = !want := by cases b <;> cases want <;> simp_all
          exact key _ (.inr ⟨g, want, hg, .inl (by rw [hb, hbw]), rfl⟩) (hext _) (h.2 hbw)
      · rename_i hb
        exact key _ (.inr ⟨g, want, hg, .inr hb, rfl⟩) (hext _) h
      · exact h.elim

/-! ### Laws of the two walks over X -/

theorem putT_same {t t' : Nat → AV} {d : Option Nat} {v : AV} {s : Nat} (h : t s = t' s) : putT t d v s = putT t' d v s := by
  cases d with
  | none => exact h
  | some d => simp only [putT, upd]; split <;> first | rfl | exact h

theorem putT_other {t : Nat → AV} {d : Option Nat} {v : AV} {s : Nat} (h : d ≠ some s) : putT t d v s = t s := by
  cases d with
  | none => rfl
  | some d => simp only [putT, upd]; rw [if_neg]; intro e; subst e; exact h rfl

theorem tGo_at {X Y : Nat → Bool} {s : Nat} : ∀ (l : List Oper) (es : List Eff) (i : Nat) (t t' : Nat → AV), t s = t' s → (∀ k o, l[k]? = some o → o.dst = some s → X (i + k) = Y (i + k)) → tGo X i l es t s = tGo Y i l es t' s
  | [], es, i, t, t', h, _ => by cases es <;> exact h
  | o :: l, [], i, t, t', h, _ => h
  | o :: l, e :: es, i, t, t', h, hx => by
    unfold tGo
    refine tGo_at l es (i + 1) _ _ ?_ fun k o' hk hd => by
      have := hx (k + 1) o' (by simpa using hk) hd
      rwa [show i + (k + 1) = i + 1 + k from by omega] at this
    by_cases hd : o.dst = some s
    · have := hx 0 o rfl hd
      simp only [Nat.add_zero] at this
      rw [this]
      cases Y i with
      | true => exact putT_same h
      | false => exact h
    · have h1 : ∀ b, sel b (putT t o.dst e.v) t s = t s := fun b => by cases b <;> first | rfl | exact putT_other hd
      have h2 : ∀ b, sel b (putT t' o.dst e.v) t' s = t' s := fun b => by cases b <;> first | rfl | exact putT_other hd
      rw [h1, h2]; exact h

theorem tGo_take {Y : Nat → Bool} : ∀ (l : List Oper) (es : List Eff) (k i : Nat) (t : Nat → AV), (∀ k', i + k ≤ k' → Y k' = false) → tGo Y i l (es.take k) t = tGo Y i l es t
  | [], es, k, i, t, _ => by cases es.take k <;> cases es <;> rfl
  | o :: l, [], k, i, t, _ => by simp
  | o :: l, e :: es, 0, i, t, h => by
    have : ∀ (l : List Oper) (es : List Eff) (i : Nat) (t : Nat → AV), (∀ k', i ≤ k' → Y k' = false) → tGo Y i l es t = t := by
      intro l
      induction l with
      | nil => intro es i t _; cases es <;> rfl
      | cons o l ih =>
        intro es i t h
        cases es with
        | nil => rfl
        | cons e es =>
          unfold tGo
          rw [h i (Nat.le_refl _)]
          exact ih es (i + 1) t fun k' hk => h k' (by omega)
    rw [this (o :: l) (e :: es) i t (by simpa using h)]
    rfl
  | o :: l, e :: es, k + 1, i, t, h => by
    simp only [List.take_succ_cons, tGo]
    exact tGo_take l es k (i + 1) _ fun k' hk => h k' (by omega)

theorem putT_comm {t : Nat → AV} {d d' : Option Nat} {v v' : AV} (h : ∀ s, d = some s → d' ≠ some s) : putT (putT t d v) d' v' = putT (putT t d' v') d v := by
  funext s
  by_cases h1 : d = some s
  · subst h1
    have h2 := h s rfl
    rw [putT_other h2]
    simp [putT, upd]
  · rw [putT_other (d := d) (t := putT t d' v') h1]
    exact putT_same (putT_other h1)

theorem tGo_put {X : Nat → Bool} {d : Option Nat} {v : AV} : ∀ (l : List Oper) (es : List Eff) (i : Nat) (t : Nat → AV), (∀ k o, l[k]? = some o → X (i + k) = true → ∀ s, d = some s → o.dst ≠ some s) → tGo X i l es (putT t d v) = putT (tGo X i l es t) d v
  | [], es, i, t, _ => by cases es <;> rfl
  | o :: l, [], i, t, _ => rfl
  | o :: l, e :: es, i, t, h => by
    unfold tGo
    have hrest : ∀ k o', l[k]? = some o' → X (i + 1 + k) = true → ∀ s, d = some s → o'.dst ≠ some s := fun k o' hk hx => h (k + 1) o' (by simpa using hk) (by rw [show i + (k + 1) = i + 1 + k from by omega]; exact hx)
    cases hX : X i with
    | false => exact tGo_put l es (i + 1) t hrest
    | true =>
      show tGo X (i + 1) l es (putT (putT t d v) o.dst e.v) = putT (tGo X (i + 1) l es (putT t o.dst e.v)) d v
      rw [putT_comm (h 0 o rfl hX)]
      exact tGo_put l es (i + 1) _ hrest

theorem upm_same {m m' : Nat → Option O} {id : Nat} : ∀ (a : List (Nat × O)), m id = m' id → upm m a id = upm m' a id := by
  intro a
  induction a generalizing m m' with
  | nil => exact fun h => h
  | cons x a ih =>
    intro h
    obtain ⟨k, o⟩ := x
    refine ih ?_
    simp only [upd]
    split <;> first | rfl | exact h

theorem upm_other {m : Nat → Option O} {id : Nat} : ∀ (a : List (Nat × O)), id ∉ a.map (·.1) → upm m a id = m id := by
  intro a
  induction a generalizing m with
  | nil => exact fun _ => rfl
  | cons x a ih =>
    intro h
    obtain ⟨k, o⟩ := x
    simp only [List.map_cons, List.mem_cons, not_or] at h
    show upm (upd m k (some o)) a id = m id
    rw [ih h.2, upd_other _ _ h.1]

theorem upm_comm {m : Nat → Option O} {a b : List (Nat × O)} (h : ∀ id ∈ a.map (·.1), id ∉ b.map (·.1)) : upm (upm m a) b = upm (upm m b) a := by
  funext id
  by_cases ha : id ∈ a.map (·.1)
  · rw [upm_other b (h id ha)]
    exact upm_same a (upm_other b (h id ha)).symm
  · rw [upm_other a ha]
    exact upm_same b (upm_other a ha)

theorem mGo_at {X Y : Nat → Bool} {id : Nat} : ∀ (es : List Eff) (i : Nat) (m m' : Nat → Option O), m id = m' id → (∀ k e, es[k]? = some e → id ∈ ids e → X (i + k) = Y (i + k)) → mGo X i es m id = mGo Y i es m' id
  | [], i, m, m', h, _ => h
  | e :: es, i, m, m', h, hx => by
    unfold mGo
    refine mGo_at es (i + 1) _ _ ?_ fun k e' hk hd => by
      have := hx (k + 1) e' (by simpa using hk) hd
      rwa [show i + (k + 1) = i + 1 + k from by omega] at this
    by_cases hd : id ∈ ids e
    · have := hx 0 e rfl hd
      simp only [Nat.add_zero] at this
      rw [this]
      cases Y i with
      | true => exact upm_same _ h
      | false => exact h
    · have h1 : ∀ b, sel b (upm m e.up) m id = m id := fun b => by cases b <;> first | rfl | exact upm_other _ hd
      have h2 : ∀ b, sel b (upm m' e.up) m' id = m' id := fun b => by cases b <;> first | rfl | exact upm_other _ hd
      rw [h1, h2]; exact h

theorem mGo_take {Y : Nat → Bool} : ∀ (es : List Eff) (k i : Nat) (m : Nat → Option O), (∀ k', i + k ≤ k' → Y k' = false) → mGo Y i (es.take k) m = mGo Y i es m
  | [], k, i, m, _ => by simp
  | e :: es, 0, i, m, h => by
    have : ∀ (es : List Eff) (i : Nat) (m : Nat → Option O), (∀ k', i ≤ k' → Y k' = false) → mGo Y i es m = m := by
      intro es
      induction es with
      | nil => intro i m _; rfl
      | cons e es ih =>
        intro i m h
        unfold mGo
        rw [h i (Nat.le_refl _)]
        exact ih (i + 1) m fun k' hk => h k' (by omega)
    rw [this (e :: es) i m (by simpa using h)]
    rfl
  | e :: es, k + 1, i, m, h => by
    simp only [List.take_succ_cons, mGo]
    exact mGo_take es k (i + 1) _ fun k' hk => h k' (by omega)

theorem mGo_put {X : Nat → Bool} {a : List (Nat × O)} : ∀ (es : List Eff) (i : Nat) (m : Nat → Option O), (∀ k e, es[k]? = some e → X (i + k) = true → ∀ id ∈ a.map (·.1), id ∉ ids e) → mGo X i es (upm m a) = upm (mGo X i es m) a
  | [], i, m, _ => rfl
  | e :: es, i, m, h => by
    unfold mGo
    have hrest : ∀ k e', es[k]? = some e' → X (i + 1 + k) = true → ∀ id ∈ a.map (·.1), id ∉ ids e' := fun k e' hk hx => h (k + 1) e' (by simpa using hk) (by rw [show i + (k + 1) = i + 1 + k from by omega]; exact hx)
    cases hX : X i with
    | false => exact mGo_put es (i + 1) m hrest
    | true =>
      show mGo X (i + 1) es (upm (upm m a) e.up) = upm (mGo X (i + 1) es (upm m e.up)) a
      rw [upm_comm (h 0 e rfl hX)]
      exact mGo_put es (i + 1) _ hrest

def add (X : Nat → Bool) (j : Nat) : Nat → Bool := fun i => i == j || X i

theorem tGo_add {X : Nat → Bool} {j : Nat} : ∀ (l : List Oper) (es : List Eff) (k i : Nat) (t : Nat → AV) (o : Oper) (e : Eff), l[k]? = some o → es[k]? = some e → j = i + k → X j = false →
    (∀ k' o', l[k']? = some o' → i + k' ≠ j → ∀ s, o.dst = some s → o'.dst ≠ some s) → tGo (add X j) i l es t = putT (tGo X i l es t) o.dst e.v
  | [], es, k, i, t, o, e, h, _, _, _, _ => by simp at h
  | _ :: _, [], k, i, t, o, e, _, h, _, _, _ => by simp at h
  | o' :: l, e' :: es, 0, i, t, o, e, h1, h2, hj, hX, hd => by
    simp at h1 h2 hj; subst h1 h2 hj
    unfold tGo
    have : add X j j = true := by simp [add]
    rw [this, hX]
    show tGo (add X j) (j + 1) l es (putT t o'.dst e'.v) = putT (tGo X (j + 1) l es t) o'.dst e'.v
    rw [← tGo_put l es (j + 1) t fun k o hk _ => hd (k + 1) o (by simpa using hk) (by omega)]
    funext s
    refine tGo_at l es (j + 1) _ _ rfl fun k o hk hs => ?_
    simp [add]; intro h; omega
  | o' :: l, e' :: es, k + 1, i, t, o, e, h1, h2, hj, hX, hd => by
    unfold tGo
    have : add X j i = X i := by simp [add]; intro h; omega
    rw [this]
    exact tGo_add l es k (i + 1) _ o e (by simpa using h1) (by simpa using h2) (by omega) hX fun k' o'' hk hne => hd (k' + 1) o'' (by simpa using hk) (by omega)

theorem mGo_add {X : Nat → Bool} {j : Nat} : ∀ (es : List Eff) (k i : Nat) (m : Nat → Option O) (e : Eff), es[k]? = some e → j = i + k → X j = false →
    (∀ k' e', es[k']? = some e' → j < i + k' → X (i + k') = true → ∀ id ∈ ids e, id ∉ ids e') → mGo (add X j) i es m = upm (mGo X i es m) e.up
  | [], k, i, m, e, h, _, _, _ => by simp at h
  | e' :: es, 0, i, m, e, h2, hj, hX, hd => by
    simp at h2 hj; subst h2 hj
    unfold mGo
    have : add X j j = true := by simp [add]
    rw [this, hX]
    show mGo (add X j) (j + 1) es (upm m e'.up) = upm (mGo X (j + 1) es m) e'.up
    rw [← mGo_put es (j + 1) m fun k o hk hx => hd (k + 1) o (by simpa using hk) (by omega) (by rw [show j + (k + 1) = j + 1 + k from by omega]; exact hx)]
    funext s
    refine mGo_at es (j + 1) _ _ rfl fun k o hk hs => ?_
    simp [add]; intro h; omega
  | e' :: es, k + 1, i, m, e, h2, hj, hX, hd => by
    unfold mGo
    have : add X j i = X i := by simp [add]; intro h; omega
    rw [this]
    exact mGo_add es k (i + 1) _ e (by simpa using h2) (by omega) hX fun k' o'' hk hne hx => hd (k' + 1) o'' (by simpa using hk) (by omega) (by rw [show i + (k' + 1) = i + 1 + k' from by omega]; exact hx)

end Go.Am
