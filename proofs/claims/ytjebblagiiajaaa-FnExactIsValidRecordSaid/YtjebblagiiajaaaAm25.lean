/- The abstract machine, part 25: regions that draw their order, closed. -/
import Derived.Test.YtjebblagiiajaaaAm24
namespace Go.Am
open Go

def zAll (f : Nat → Oper → Eff → Bool) : Nat → List Oper → List Eff → Bool
  | i, o :: l, e :: es => f i o e && zAll f (i + 1) l es
  | _, [], [] => true
  | _, [], _ :: _ => false
  | _, _ :: _, [] => false

theorem zAll_at {f : Nat → Oper → Eff → Bool} : ∀ {l : List Oper} {es : List Eff} {i : Nat}, zAll f i l es = true → l.length = es.length ∧ ∀ k o e, l[k]? = some o → es[k]? = some e → f (i + k) o e = true
  | [], [], i, _ => ⟨rfl, fun k o e h => by simp at h⟩
  | [], _ :: _, i, h => by cases h
  | _ :: _, [], i, h => by cases h
  | o :: l, e :: es, i, h => by
    simp only [zAll, Bool.and_eq_true] at h
    obtain ⟨h1, h2⟩ := zAll_at h.2
    refine ⟨by simp [h1], fun k o' e' hk he => ?_⟩
    cases k with
    | zero => simp at hk he; subst hk he; exact h.1
    | succ k => have := h2 k o' e' (by simpa using hk) (by simpa using he); rwa [show i + 1 + k = i + (k + 1) from by omega] at this

def guardOk (l : List Oper) (o : Oper) : Bool :=
  match o.guard with
  | none => true
  | some (g, _) => (ddeps o).contains g && (match l[g]? with | some og => og.dst.isSome | none => false)

def slotOk (o : Oper) (j i : Nat) (o' : Oper) : Operand → Bool
  | .tmp s => !(o'.dst == some s) || (ddeps o).contains i || (ddeps o').contains j
  | _ => true

def pairOk (l : List Oper) (t : Nat → AV) (es : List Eff) (ep : Nat) (m : Nat → Option O) (j : Nat) (o : Oper) (e : Eff) (i : Nat) (o' : Oper) (e' : Eff) : Bool :=
  i == j || ((opIn o.op).all (slotOk o j i o') && (o'.dst == none || !(o'.dst == o.dst)) &&
    (ids e').all fun id => (!ownId ep o id || (ddeps o').contains j) && sel (Nat.blt i j) ((ddeps o).contains i || !(ids e).contains id) ((mSee (evT (tSee l o (es.take j) t)) ep o (es.take j) m id).isNone || (ddeps o').contains j))

def drawChk (l : List Oper) (t : Nat → AV) (es : List Eff) (ep n : Nat) (m : Nat → Option O) : Bool :=
  zAll (fun j o e => (ddeps o).all (fun i => Nat.blt i j) && dstOk o.dst n && guardOk l o && zAll (pairOk l t es ep m j o e) 0 l es) 0 l es

def cnt (X : Nat → Bool) : Nat → Nat
  | 0 => 0
  | n + 1 => cnt X n + sel (X n) 0 1

theorem cnt_add {X : Nat → Bool} {j : Nat} (hX : X j = false) : ∀ n, cnt (add X j) n + sel (Nat.blt j n) 1 0 = cnt X n
  | 0 => by
    have : Nat.blt j 0 = false := by cases h : Nat.blt j 0 <;> first | rfl | (have := Nat.le_of_ble_eq_true h; omega)
    simp [cnt, this, sel]
  | n + 1 => by
    have ih := cnt_add hX n
    simp only [cnt]
    by_cases h : n = j
    · subst h
      have h1 : Nat.blt n n = false := by cases h : Nat.blt n n <;> first | rfl | (have := Nat.le_of_ble_eq_true h; omega)
      have h2 : Nat.blt n (n + 1) = true := Nat.ble_eq_true_of_le (Nat.le_refl _)
      have h3 : add X n n = true := by simp [add]
      rw [h1] at ih
      rw [h2, h3, hX]
      simp only [sel] at ih ⊢
      omega
    · have h3 : add X j n = X n := by simp [add]; intro h'; omega
      have h4 : Nat.blt j (n + 1) = Nat.blt j n := by
        cases h5 : Nat.blt j n with
        | true => exact Nat.ble_eq_true_of_le (by have := Nat.le_of_ble_eq_true h5; omega)
        | false =>
          cases h6 : Nat.blt j (n + 1) with
          | false => rfl
          | true =>
            have := Nat.le_of_ble_eq_true h6
            have : Nat.blt j n = true := Nat.ble_eq_true_of_le (by omega)
            rw [this] at h5; cases h5
      rw [h3, h4]
      omega

theorem cnt_zero {X : Nat → Bool} : ∀ {n : Nat}, cnt X n = 0 → ∀ i, i < n → X i = true
  | 0, _, i, h => by omega
  | n + 1, h, i, hi => by
    simp only [cnt] at h
    by_cases e : i = n
    · subst e
      cases hx : X i with
      | true => rfl
      | false => rw [hx] at h; simp [sel] at h
    · exact cnt_zero (n := n) (by omega) i (by omega)

section
variable {P : Program} {T : TypeId → Option TI} (hT : TOk P T) {w0 : World} {A : Nat → Prop} {locs : List (Option Loc)}
variable {l : List Oper} {es : List Eff} {t : Nat → AV} {m : Nat → Option O} {ep n : Nat} {pm : List Nat}

/-- The state behind the operations of X. -/
def stX (l : List Oper) (es : List Eff) (t : Nat → AV) (m : Nat → Option O) (ep n : Nat) (pm : List Nat) (X : Nat → Bool) : S := ⟨tGo X 0 l es t, mGo X 0 es m, ep, n, pm⟩

theorem stX_all {X Y : Nat → Bool} (hlen : l.length = es.length) (h : ∀ i, i < l.length → X i = Y i) : stX l es t m ep n pm X = stX l es t m ep n pm Y := by
  have h1 : tGo X 0 l es t = tGo Y 0 l es t := by
    funext s
    refine tGo_at l es 0 t t rfl fun k o hk _ => ?_
    rw [Nat.zero_add]
    exact h k (List.getElem?_eq_some_iff.1 hk).1
  have h2 : mGo X 0 es m = mGo Y 0 es m := by
    funext s
    refine mGo_at es 0 m m rfl fun k o hk _ => ?_
    rw [Nat.zero_add]
    exact h k (by rw [hlen]; exact (List.getElem?_eq_some_iff.1 hk).1)
  unfold stX
  rw [h1, h2]

include hT in
theorem draw_op (hc : drawChk l t es ep n m = true) {j : Nat} {o : Oper} {e : Eff} (ho : l[j]? = some o) (he : es[j]? = some e) (hcame : Came P T l t m ep es j o e)
    {X : Nat → Bool} (hXj : X j = false) (hdep : ∀ i ∈ ddeps o, X i = true) (hcl : ∀ (i : Nat) (o' : Oper), l[i]? = some o' → X i = true → ∀ i' ∈ ddeps o', X i' = true)
    {β : Nat → Option Loc} {a : Act} {w : World} (h : Sim w0 A locs β (stX l es t m ep n pm X) a w) {Q : Exit → Act → World → Prop} {K : Act → World → Prop}
    (hK : ∀ β' a' w', Sim w0 A locs β' (stX l es t m ep n pm (add X j)) a' w' → K a' w') : wpOp P ⟨l⟩ Q j K a w := by
  obtain ⟨hlen, hat⟩ := zAll_at hc
  have hj := hat j o e ho he
  simp only [Bool.and_eq_true, Nat.zero_add] at hj
  obtain ⟨⟨⟨hlow, hdst⟩, hguard⟩, hpairs⟩ := hj
  have hpair : ∀ (i : Nat) (o' : Oper) (e' : Eff), l[i]? = some o' → es[i]? = some e' → i ≠ j →
      (∀ x ∈ opIn o.op, slotOk o j i o' x = true) ∧ (o'.dst = none ∨ o'.dst ≠ o.dst) ∧
      ∀ id ∈ ids e', (ownId ep o id = false ∨ j ∈ ddeps o') ∧ (i < j → i ∈ ddeps o ∨ id ∉ ids e) ∧ (j < i → mSee (evT (tSee l o (es.take j) t)) ep o (es.take j) m id = none ∨ j ∈ ddeps o') := by
    intro i o' e' hi he' hne
    have := (zAll_at hpairs).2 i o' e' hi he'
    simp only [Nat.zero_add, pairOk, Bool.or_eq_true, beq_iff_eq, hne, false_or, Bool.and_eq_true, List.all_eq_true, Bool.not_eq_true'] at this
    obtain ⟨⟨q1, q2⟩, q3⟩ := this
    refine ⟨q1, ?_, fun id hid => ?_⟩
    · rcases q2 with q2 | q2
      · exact .inl q2
      · exact .inr (by simpa using q2)
    · obtain ⟨r1, r2⟩ := q3 id hid
      refine ⟨by simpa only [Bool.or_eq_true, Bool.not_eq_true', List.contains_eq_mem, decide_eq_true_eq] using r1, fun hlt => ?_, fun hlt => ?_⟩
      · rw [show Nat.blt i j = true from Nat.ble_eq_true_of_le hlt] at r2
        simp only [sel, Bool.or_eq_true, Bool.not_eq_true', List.contains_eq_mem, decide_eq_true_eq, decide_eq_false_iff_not] at r2
        exact r2
      · have hb : Nat.blt i j = false := by cases hx : Nat.blt i j <;> first | rfl | (have := Nat.le_of_ble_eq_true hx; omega)
        rw [hb] at r2
        simp only [sel, Bool.or_eq_true, Option.isNone_iff_eq_none, List.contains_eq_mem, decide_eq_true_eq] at r2
        exact r2
  have hlow' : ∀ i ∈ ddeps o, i < j := fun i hi => Nat.le_of_ble_eq_true ((List.all_eq_true.1 hlow) i hi)
  have hesat : ∀ (i : Nat) (o' : Oper), l[i]? = some o' → ∃ e', es[i]? = some e' := fun i o' hi => by
    have : i < es.length := by rw [← hlen]; exact (List.getElem?_eq_some_iff.1 hi).1
    exact ⟨_, List.getElem?_eq_getElem this⟩
  have hlat : ∀ (i : Nat) (e' : Eff), es[i]? = some e' → ∃ o', l[i]? = some o' := fun i o' hi => by
    have : i < l.length := by rw [hlen]; exact (List.getElem?_eq_some_iff.1 hi).1
    exact ⟨_, List.getElem?_eq_getElem this⟩
  have hDfalse : ∀ k', j ≤ k' → (ddeps o).contains k' = false := fun k' hk => by
    simp only [List.contains_eq_mem, decide_eq_false_iff_not]
    intro hm
    have := hlow' k' hm
    omega
  -- the slots that it reads
  have hslot : ∀ s, (∀ (i : Nat) (o' : Oper), l[i]? = some o' → o'.dst = some s → i ≠ j → i ∈ ddeps o ∨ j ∈ ddeps o') → tSee l o (es.take j) t s = tGo X 0 l es t s := by
    intro s hs
    unfold tSee
    rw [tGo_take l es j 0 t (fun k' hk => hDfalse k' (by omega))]
    refine tGo_at l es 0 t t rfl fun k o' hk hd => ?_
    rw [Nat.zero_add]
    by_cases hkj : k = j
    · subst hkj
      rw [hDfalse k (Nat.le_refl _), hXj]
    · rcases hs k o' hk hd hkj with h1 | h1
      · rw [hdep k h1]; simpa using h1
      · have hXk : X k = false := by
          cases hx : X k with
          | false => rfl
          | true => have := hcl k o' hk hx j h1; rw [hXj] at this; cases this
        rw [hXk]
        simp only [List.contains_eq_mem, decide_eq_false_iff_not]
        intro hm
        have := hdep k hm
        rw [hXk] at this; cases this
  have hrho : ∀ x ∈ opIn o.op, evT (tSee l o (es.take j) t) x = (stX l es t m ep n pm X).ev x := by
    intro x hx
    rw [ev_eq]
    cases x with
    | tmp s =>
      show tSee l o (es.take j) t s = tGo X 0 l es t s
      refine hslot s fun i o' hi hd hne => ?_
      obtain ⟨e', he'⟩ := hesat i o' hi
      have := (hpair i o' e' hi he' hne).1 _ hx
      simp only [slotOk, hd, beq_self_eq_true, Bool.not_true, Bool.false_or, Bool.or_eq_true, List.contains_eq_mem, decide_eq_true_eq] at this
      exact this
    | _ => rfl
  -- the objects that it looks at
  have hmsee : ∀ id ob, mSee (evT (tSee l o (es.take j) t)) ep o (es.take j) m id = some ob → mGo X 0 es m id = some ob := by
    intro id ob hob
    have hob0 := hob
    unfold mSee at hob
    cases hs : (!(hides (refsOf (evT (tSee l o (es.take j) t)) (opIn o.op)) o.op id && !ownId ep o id) && touchOk (ddeps o) 0 (es.take j) id) with
    | false => rw [hs] at hob; cases hob
    | true =>
      rw [hs] at hob
      simp only [sel] at hob
      rw [mGo_take es j 0 m (fun k' hk => hDfalse k' (by omega))] at hob
      rw [← hob]
      refine mGo_at es 0 m m rfl fun k e' hk hid => ?_
      rw [Nat.zero_add]
      have htouch : ∀ (D : List Nat) (es : List Eff) (i : Nat), touchOk D i es id = true → ∀ (k : Nat) (e' : Eff), es[k]? = some e' → id ∈ ids e' → i + k ∈ D := by
        intro D es
        induction es with
        | nil => intro i _ k e' hk; simp at hk
        | cons e0 es ih =>
          intro i ht k e' hk hid
          simp only [touchOk, Bool.and_eq_true, Bool.or_eq_true, Bool.not_eq_true', List.contains_eq_mem, decide_eq_true_eq, decide_eq_false_iff_not] at ht
          cases k with
          | zero =>
            simp at hk; subst hk
            rcases ht.1 with h1 | h1
            · exact h1
            · exact absurd hid h1
          | succ k =>
            have := ih (i + 1) ht.2 k e' (by simpa using hk) hid
            rwa [show i + 1 + k = i + (k + 1) from by omega] at this
      simp only [Bool.and_eq_true] at hs
      by_cases hkj : k < j
      · have := htouch (ddeps o) (es.take j) 0 hs.2 k e' (by rw [List.getElem?_take, if_pos hkj]; exact hk) hid
        rw [Nat.zero_add] at this
        rw [hdep k this]
        simpa using this
      · rw [hDfalse k (by omega)]
        by_cases hkj' : k = j
        · subst hkj'; exact hXj
        · obtain ⟨o', ho'⟩ := hlat k e' hk
          have := ((hpair k o' e' ho' hk hkj').2.2 id hid).2.2 (by omega)
          rcases this with h1 | h1
          · rw [hob0] at h1; cases h1
          · cases hx : X k with
            | false => rfl
            | true => have := hcl k o' ho' hx j h1; rw [hXj] at this; cases this
  have hfresh : ∀ id, ownId ep o id = true → mSee (evT (tSee l o (es.take j) t)) ep o (es.take j) m id = none → mGo X 0 es m id = none := by
    intro id hown hnone
    have hlate : ∀ (k : Nat) (e' : Eff), es[k]? = some e' → k ≠ j → id ∈ ids e' → j < k ∧ X k = false := fun k e' hk hne hid => by
      obtain ⟨o', ho'⟩ := hlat k e' hk
      rcases ((hpair k o' e' ho' hk hne).2.2 id hid).1 with h1 | h1
      · rw [hown] at h1; cases h1
      · refine ⟨?_, ?_⟩
        · have hk' := hat k o' e' ho' hk
          simp only [Bool.and_eq_true, Nat.zero_add] at hk'
          exact Nat.le_of_ble_eq_true ((List.all_eq_true.1 hk'.1.1.1) j h1)
        · cases hx : X k with
          | false => rfl
          | true => have := hcl k o' ho' hx j h1; rw [hXj] at this; cases this
    have hnot : ∀ (k : Nat) (e' : Eff), es[k]? = some e' → k < j → id ∉ ids e' := fun k e' hk hlt hid => by
      have := (hlate k e' hk (by omega) hid).1
      omega
    have htouch : ∀ (D : List Nat) (es' : List Eff) (i : Nat), (∀ (k : Nat) (e' : Eff), es'[k]? = some e' → id ∉ ids e') → touchOk D i es' id = true := by
      intro D es'
      induction es' with
      | nil => intro i _; rfl
      | cons e0 es' ih =>
        intro i hn
        simp only [touchOk, Bool.and_eq_true, Bool.or_eq_true, Bool.not_eq_true', List.contains_eq_mem, decide_eq_false_iff_not]
        exact ⟨.inr (hn 0 e0 rfl), ih (i + 1) fun k e' hk => hn (k + 1) e' (by simpa using hk)⟩
    unfold mSee at hnone
    rw [htouch _ _ _ (fun k e' hk => by
      rw [List.getElem?_take] at hk
      split at hk
      · rename_i hlt; exact hnot k e' hk hlt
      · cases hk), hown] at hnone
    simp only [Bool.not_true, Bool.and_false, Bool.not_false, Bool.and_self, sel] at hnone
    rw [mGo_take es j 0 m (fun k' hk => hDfalse k' (by omega))] at hnone
    rw [← hnone]
    refine mGo_at es 0 m m rfl fun k e' hk hid => ?_
    rw [Nat.zero_add]
    by_cases hkj : k = j
    · subst hkj; rw [hXj, hDfalse k (Nat.le_refl _)]
    · obtain ⟨h1, h2⟩ := hlate k e' hk hkj hid
      rw [h2, hDfalse k (by omega)]
  have hown : ∀ jj, ownId ep o (rid ep (o.dst.getD 0) jj) = true := fun jj => by simp [ownId, rid, Nat.add_mul_mod_self_right]
  -- the state behind it
  have happ : (stX l es t m ep n pm X).app o.dst e = stX l es t m ep n pm (add X j) := by
    rw [app_eq]
    unfold stX
    have h1 := tGo_add (X := X) (j := j) l es j 0 t o e ho he (by omega) hXj (fun k' o' hk hne s hs hs' => by
      obtain ⟨e', he'⟩ := hesat k' o' hk
      rcases (hpair k' o' e' hk he' (by omega)).2.1 with h1 | h1
      · rw [h1] at hs'; cases hs'
      · exact h1 (hs'.trans hs.symm))
    have h2 := mGo_add (X := X) (j := j) es j 0 m e he (by omega) hXj (fun k' e' hk hlt hx id hid hid' => by
      rw [Nat.zero_add] at hlt hx
      obtain ⟨o', ho'⟩ := hlat k' e' hk
      -- the later one is behind this one, or shares nothing
      have hk'all := hat k' o' e' ho' hk
      simp only [Bool.and_eq_true, Nat.zero_add] at hk'all
      have := (zAll_at hk'all.2).2 j o e ho he
      simp only [Nat.zero_add, pairOk, Bool.or_eq_true, beq_iff_eq, show j ≠ k' from by omega, false_or, Bool.and_eq_true, List.all_eq_true, Bool.not_eq_true'] at this
      obtain ⟨_, r2⟩ := this.2 id hid
      rw [show Nat.blt j k' = true from Nat.ble_eq_true_of_le hlt] at r2
      simp only [sel, Bool.or_eq_true, Bool.not_eq_true', List.contains_eq_mem, decide_eq_true_eq, decide_eq_false_iff_not] at r2
      rcases r2 with r2 | r2
      · have := hcl k' o' ho' hx j r2
        rw [hXj] at this; cases this
      · exact r2 hid')
    rw [h1, h2]
  have hdd : ∀ d, o.dst = some d → d < n := fun d hd => by rw [hd] at hdst; exact Nat.le_of_ble_eq_true hdst
  -- the guard
  have hgv : ∀ g want, o.guard = some (g, want) → ∃ s, gslot ⟨l⟩ g = some s ∧ tGo X 0 l es t s = (es.getD g ⟨.dead, []⟩).v := by
    intro g want hg
    unfold guardOk at hguard
    simp only [hg, Bool.and_eq_true, List.contains_eq_mem, decide_eq_true_eq] at hguard
    obtain ⟨h1, h2⟩ := hguard
    cases hlg : l[g]? with
    | none => rw [hlg] at h2; cases h2
    | some og =>
      rw [hlg] at h2
      obtain ⟨s, hs⟩ := Option.isSome_iff_exists.1 h2
      obtain ⟨eg, heg⟩ := hesat g og hlg
      refine ⟨s, by simp [gslot, hlg, hs], ?_⟩
      have hXg := hdep g h1
      -- its slot is written by it alone
      have hsing : tGo X 0 l es t s = tGo (add (fun _ => false) g) 0 l es t s := by
        refine tGo_at l es 0 t t rfl fun k o' hk hd => ?_
        rw [Nat.zero_add]
        by_cases hkg : k = g
        · subst hkg; rw [hXg]; simp [add]
        · obtain ⟨e', he'⟩ := hesat k o' hk
          have hgall := hat g og eg hlg heg
          simp only [Bool.and_eq_true, Nat.zero_add] at hgall
          have := (zAll_at hgall.2).2 k o' e' hk he'
          simp only [Nat.zero_add, pairOk, Bool.or_eq_true, beq_iff_eq, hkg, false_or, Bool.and_eq_true, List.all_eq_true, Bool.not_eq_true'] at this
          rcases this.1.2 with h3 | h3
          · rw [hd] at h3; cases h3
          · rw [hd, hs] at h3; simp at h3
      have hfalse : ∀ (l : List Oper) (es : List Eff) (i : Nat) (t : Nat → AV), tGo (fun _ => false) i l es t = t := by
        intro l
        induction l with
        | nil => intro es i t; cases es <;> rfl
        | cons o l ih =>
          intro es i t
          cases es with
          | nil => rfl
          | cons e es => exact ih es (i + 1) t
      rw [hsing, tGo_add l es g 0 t og eg hlg heg (by omega) rfl (fun k' o' hk hne s' hs1 hs2 => by
          obtain ⟨e', he'⟩ := hesat k' o' hk
          have hgall := hat g og eg hlg heg
          simp only [Bool.and_eq_true, Nat.zero_add] at hgall
          have := (zAll_at hgall.2).2 k' o' e' hk he'
          simp only [Nat.zero_add, pairOk, Bool.or_eq_true, beq_iff_eq, show k' ≠ g from by omega, false_or, Bool.and_eq_true, List.all_eq_true, Bool.not_eq_true'] at this
          rcases this.1.2 with h3 | h3
          · rw [hs2] at h3; cases h3
          · rw [hs2, hs1] at h3; simp at h3), hfalse, hs]
      show upd t s eg.v s = _
      rw [upd_same]
      simp [List.getD, heg]
  -- the step
  unfold wpOp
  have hat0 : (⟨l⟩ : Array Oper)[j]? = some o := by simpa using ho
  rw [hat0]
  simp only
  have hrun : amOp P T (evT (tSee l o (es.take j) t)) (mSee (evT (tSee l o (es.take j) t)) ep o (es.take j) m) ep o (fun e' => e' = e) → o.wp P a w K Q := fun hk => by
    have hk' := amOp_congr hrho hk
    refine good_op hT h (o := o) hdd (m' := mSee (evT (tSee l o (es.take j) t)) ep o (es.take j) m) hmsee (fun d hd jj hn => ?_) (fun jj hd hn => ?_) hk' _ _ ?_
    · exact hfresh _ (by have := hown jj; rw [hd] at this; exact this) hn
    · exact hfresh _ (by have := hown jj; rw [hd] at this; exact this) hn
    · intro e' he' β' a' w' hs
      subst he'
      rw [happ] at hs
      exact hK β' a' w' hs
  rcases hcame with ⟨hg, hk⟩ | ⟨g, want, hg, hv, rfl⟩
  · rcases hg with hg | ⟨g, want, hg, hv⟩
    · rw [if_pos (by simp [Region.wanted, hg])]
      exact .inl (hrun hk)
    · obtain ⟨s, hs1, hs2⟩ := hgv g want hg
      have hsl := h.slot s
      have e0 : (stX l es t m ep n pm X).t s = .imm (.bool want) := hs2.trans hv
      rw [e0] at hsl
      have hy := yielded_of hs1 (rep_bool hsl)
      rw [if_pos (by simp [Region.wanted, hg, hy])]
      exact .inl (hrun hk)
  · obtain ⟨s, hs1, hs2⟩ := hgv g want hg
    have hsl := h.slot s
    have hskip : K (a.put o.dst Go.undef) w := by
      refine hK β _ w ?_
      rw [← happ]
      have hp := h.put (dst := o.dst) (av := .undef) (v := Go.undef) hdd rfl
      rw [S.app_nil]
      exact hp
    rcases hv with hv | hv
    · have e0 : (stX l es t m ep n pm X).t s = .imm (.bool (!want)) := hs2.trans hv
      rw [e0] at hsl
      have hy := yielded_of hs1 (rep_bool hsl)
      rw [if_neg (by simp [Region.wanted, hg, hy])]
      exact hskip
    · have e0 : (stX l es t m ep n pm X).t s = .undef := hs2.trans hv
      rw [e0] at hsl
      have hy := yielded_undef hs1 hsl
      rw [if_neg (by simp [Region.wanted, hg, hy])]
      exact hskip

include hT in
theorem draw_walk (hc : drawChk l t es ep n m = true) (hcame : ∀ (j : Nat) (o : Oper) (e : Eff), l[j]? = some o → es[j]? = some e → Came P T l t m ep es j o e) {Q : Exit → Act → World → Prop}
    (hQ : ∀ β a w, Sim w0 A locs β (stX l es t m ep n pm fun _ => true) a w → Q .normal a w) : ∀ (fuel : Nat) (listed : Array Bool) (X : Nat → Bool) (β : Nat → Option Loc) (a : Act) (w : World),
    (∀ i, i < l.length → listed.getD i true = X i) → listed.size = l.length → (∀ (i : Nat) (o' : Oper), l[i]? = some o' → X i = true → ∀ i' ∈ ddeps o', X i' = true) → cnt X l.length ≤ fuel →
    Sim w0 A locs β (stX l es t m ep n pm X) a w → wpAny P .any ⟨l⟩ Q fuel listed a w := by
  obtain ⟨hlen, hat⟩ := zAll_at hc
  have hlow : ∀ (j : Nat) (o : Oper), l[j]? = some o → ∀ i ∈ ddeps o, i < j := fun j o ho i hi => by
    have hlt : j < es.length := by rw [← hlen]; exact (List.getElem?_eq_some_iff.1 ho).1
    have := hat j o _ ho (List.getElem?_eq_getElem hlt)
    simp only [Bool.and_eq_true, Nat.zero_add] at this
    exact Nat.le_of_ble_eq_true ((List.all_eq_true.1 this.1.1.1) i hi)
  have hready : ∀ (listed : Array Bool) (X : Nat → Bool), (∀ i, i < l.length → listed.getD i true = X i) → listed.size = l.length → ∀ (i : Nat) (o : Oper), l[i]? = some o →
      (i ∈ Region.ready .any ⟨l⟩ listed ↔ X i = false ∧ ∀ i' ∈ ddeps o, X i' = true) := by
    intro listed X hl hs i o ho
    have hi : i < l.length := (List.getElem?_eq_some_iff.1 ho).1
    have hat0 : (⟨l⟩ : Array Oper)[i]? = some o := by simpa using ho
    unfold Region.ready
    simp only [List.mem_filter, List.mem_range, hat0, Option.map_some, Option.getD_some, Bool.and_eq_true, Bool.not_eq_true', hl i hi]
    have hlt : ∀ i', i' < l.length → listed.getD i' false = X i' := fun i' hi' => by
      rw [← hl i' hi']
      simp [Array.getD, hs, hi']
    constructor
    · rintro ⟨_, h1, h2⟩
      refine ⟨h1, fun i' hi' => ?_⟩
      unfold ddeps at hi'
      obtain ⟨ed, hed, rfl⟩ := List.mem_map.1 hi'
      obtain ⟨hm1, hm2⟩ := List.mem_filter.1 hed
      have := (Array.all_eq_true_iff_forall_mem.1 h2) ed (by simpa using hm1)
      simp only [Bool.or_eq_true, Bool.not_eq_true', hm2, Bool.true_eq_false, false_or] at this
      rw [hlt ed.on (by have := hlow i o ho ed.on hi'; omega)] at this
      exact this
    · rintro ⟨h1, h2⟩
      refine ⟨hi, h1, Array.all_eq_true_iff_forall_mem.2 fun ed hed => ?_⟩
      cases hb : Region.binds .any ed with
      | false => rfl
      | true =>
        have hm : ed.on ∈ ddeps o := List.mem_map.2 ⟨ed, List.mem_filter.2 ⟨by simpa using hed, hb⟩, rfl⟩
        rw [hlt ed.on (by have := hlow i o ho _ hm; omega), h2 _ hm]
        rfl
  have hdone : ∀ (listed : Array Bool) (X : Nat → Bool), (∀ i, i < l.length → listed.getD i true = X i) → listed.size = l.length → Region.ready .any ⟨l⟩ listed = [] → ∀ i, i < l.length → X i = true := by
    intro listed X hl hs hr i
    induction i using Nat.strongRecOn with
    | ind i ih =>
      intro hi
      cases hx : X i with
      | true => rfl
      | false =>
        have ho := List.getElem?_eq_getElem hi
        have := (hready listed X hl hs i _ ho).2 ⟨hx, fun i' hi' => by
          have := hlow i _ ho i' hi'
          exact ih i' this (by omega)⟩
        rw [hr] at this
        cases this
  have hfin : ∀ (X : Nat → Bool) β a w, (∀ i, i < l.length → X i = true) → Sim w0 A locs β (stX l es t m ep n pm X) a w → Q .normal a w := fun X β a w hX h => by
    rw [stX_all (Y := fun _ => true) hlen hX] at h
    exact hQ β a w h
  intro fuel
  induction fuel with
  | zero =>
    intro listed X β a w hl hs hcl hcnt h
    have hX := cnt_zero (Nat.le_zero.1 hcnt)
    refine ⟨?_, hfin X β a w hX h⟩
    refine List.eq_nil_iff_forall_not_mem.2 fun i hi => ?_
    have hi' : i < l.length := by
      unfold Region.ready at hi
      have := (List.mem_filter.1 hi).1
      simpa using this
    have := ((hready listed X hl hs i _ (List.getElem?_eq_getElem hi')).1 hi).1
    rw [hX i hi'] at this; cases this
  | succ fuel ih =>
    intro listed X β a w hl hs hcl hcnt h
    refine ⟨fun hr => hfin X β a w (hdone listed X hl hs hr) h, fun i hi => ?_⟩
    have hi' : i < l.length := by
      unfold Region.ready at hi
      have := (List.mem_filter.1 hi).1
      simpa using this
    have ho := List.getElem?_eq_getElem hi'
    have he := List.getElem?_eq_getElem (l := es) (i := i) (by omega)
    obtain ⟨hXi, hdep⟩ := (hready listed X hl hs i _ ho).1 hi
    refine draw_op hT hc ho he (hcame i _ _ ho he) hXi hdep hcl h fun β' a' w' h' => ?_
    refine ih _ (add X i) β' a' w' (fun k hk => ?_) (by simpa using hs) (fun k o' hk hx i' hi2 => ?_) ?_ h'
    · by_cases e : k = i
      · subst e; simp [add, Array.getD, hs, hk]
      · have := hl k hk
        simp only [add, beq_eq_false_iff_ne.2 e, Bool.false_or]
        rw [← this]
        simp only [Array.getD_eq_getD_getElem?, Array.getElem?_setIfInBounds]
        rw [if_neg (fun h => e h.symm)]
    · simp only [add, Bool.or_eq_true, beq_iff_eq] at hx ⊢
      rcases hx with hx | hx
      · subst hx
        rw [ho] at hk; injection hk with hk; subst hk
        exact .inr (hdep i' hi2)
      · exact .inr (hcl k o' hk hx i' hi2)
    · have := cnt_add hXi l.length
      rw [show Nat.blt i l.length = true from Nat.ble_eq_true_of_le hi'] at this
      simp only [sel] at this
      omega

/-- What is asked behind a region that draws its order. -/
def drawnQ (l : List Oper) (t : Nat → AV) (m : Nat → Option O) (ep n : Nat) (pm : List Nat) (Q : S → Prop) (es : List Eff) : Prop :=
  drawChk l t es ep n m = true ∧ Q (stX l es t m ep n pm fun _ => true)

end

section
variable {P : Program} {T : TypeId → Option TI} (hT : TOk P T) {w0 : World} {A : Nat → Prop} {locs : List (Option Loc)}

include hT in
theorem draw_sound (hm : P.follows .mixedOrders = true) {id : Nat} {l : List Oper} {σ : S} {Q : Exit → Act → World → Prop} {k : S → Prop} (h : amDraw P T l σ.t σ.m σ.ep (drawnQ l σ.t σ.m σ.ep σ.n σ.pm k) l [])
    {β : Nat → Option Loc} {a : Act} {w : World} (hs : Sim w0 A locs β σ a w) (hQ : ∀ σ' β' a' w', k σ' → Sim w0 A locs β' σ' a' w' → Q .normal a' w') : (Code.region id ⟨l⟩ true).wp P Q a w := by
  obtain ⟨es, h1, h2, h3⟩ := amDraw_out l [] h
  simp only [List.nil_append, List.length_nil, Nat.zero_add] at h1 h3
  obtain ⟨hc, hk⟩ := h1
  refine wp_region_any hm ?_
  have hX : stX l es σ.t σ.m σ.ep σ.n σ.pm (fun _ => false) = σ := by
    have h1 : ∀ (l : List Oper) (es : List Eff) (i : Nat) (t : Nat → AV), tGo (fun _ => false) i l es t = t := by
      intro l
      induction l with
      | nil => intro es i t; cases es <;> rfl
      | cons o l ih =>
        intro es i t
        cases es with
        | nil => rfl
        | cons e es => exact ih es (i + 1) t
    have h2 : ∀ (es : List Eff) (i : Nat) (m : Nat → Option O), mGo (fun _ => false) i es m = m := by
      intro es
      induction es with
      | nil => intro i m; rfl
      | cons e es ih => intro i m; exact ih (i + 1) m
    unfold stX
    rw [h1, h2]
  have hs' : Sim w0 A locs β (stX l es σ.t σ.m σ.ep σ.n σ.pm fun _ => false) a { w with drawn := w.drawn + 1 } := by
    rw [hX]
    have kk : Keeps w (Bl A β σ.m) { w with drawn := w.drawn + 1 } (Bl A β σ.m) := Keeps.heap rfl
    exact { size := hs.size, defers := hs.defers, slot := fun i => (hs.slot i).keep kk (Goes.refl _ _), ob := fun id o ho => (hs.ob id o ho).keep kk (Goes.refl _ _) rfl (fun _ _ => rfl), inj := hs.inj, new := hs.new, fr := ⟨hs.fr.os, hs.fr.tape, hs.fr.output, hs.fr.size, hs.fr.blk, hs.fr.tb⟩, lt := hs.lt, pm := hs.pm }
  refine draw_walk hT hc h3 (fun β' a' w' h' => hQ _ β' a' w' hk h') l.length _ (fun _ => false) β a _ (fun i hi => by simp [Array.getD, hi]) (by simp) (fun _ _ _ h => by cases h) ?_ hs'
  have : ∀ n, cnt (fun _ => false) n ≤ n := fun n => by
    induction n with
    | zero => exact Nat.le_refl _
    | succ n ih => simp only [cnt, sel]; omega
  exact this _

end
end Go.Am
