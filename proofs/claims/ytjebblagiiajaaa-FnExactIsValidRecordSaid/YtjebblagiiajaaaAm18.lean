/- The abstract machine, part 18: states written out, what a state may be weakened to, and a function's contract from its body. -/
import Derived.Test.YtjebblagiiajaaaAm17
namespace Go.Am
open Go

def lookT : List (Nat × AV) → Nat → AV
  | [], _ => .dead
  | (j, v) :: r, i => if i = j then v else lookT r i

def lookM : List (Nat × O) → Nat → Option O
  | [], _ => none
  | (j, o) :: r, i => if i = j then some o else lookM r i

/-- A state written out: the slots that are known, the objects. -/
def st (n : Nat) (ts : List (Nat × AV)) (ms : List (Nat × O)) (pm : List Nat) : S := { t := lookT ts, m := lookM ms, ep := 1, n := n, pm := pm }

/-- The first value is the second, its objects' names read by ρ. -/
def WAV (ρ : Nat → Nat) (m1 : Nat → Option O) : AV → AV → Prop
  | .dead, _ => True
  | .undef, a => a = .undef
  | .imm d, a => a = .imm d
  | .own id off len, a => a = .own (ρ id) off len ∧ (m1 id).isSome = true
  | .box id off, a => a = .box (ρ id) off ∧ (m1 id).isSome = true
  | .eptr id r off, a => a = .eptr (ρ id) r off ∧ (m1 id).isSome = true
  | .clo f ids, a => a = .clo f (ids.map ρ) ∧ ∀ id ∈ ids, (m1 id).isSome = true
  | .tup _, _ => False

def WAVs (ρ : Nat → Nat) (m1 : Nat → Option O) : List AV → List AV → Prop
  | [], [] => True
  | x :: l, y :: l' => WAV ρ m1 x y ∧ WAVs ρ m1 l l'
  | _, _ => False

def WO (ρ : Nat → Nat) (m1 : Nat → Option O) : O → Option O → Prop
  | .gone, o => o.isSome = true
  | .arr ty sz rows, o => o = some (.arr ty sz rows)
  | .box ty cells, o => match o with | some (.box ty' cells') => ty' = ty ∧ WAVs ρ m1 cells cells' | _ => False

def wT (ρ : Nat → Nat) (m1 : Nat → Option O) (t : Nat → AV) : List (Nat × AV) → Prop
  | [] => True
  | (i, av) :: r => WAV ρ m1 av (t i) ∧ wT ρ m1 t r

def wM (ρ : Nat → Nat) (m1 : Nat → Option O) (m : Nat → Option O) : List (Nat × O) → Prop
  | [] => True
  | (i, o) :: r => WO ρ m1 o (m (ρ i)) ∧ wM ρ m1 m r

theorem wT_at {ρ : Nat → Nat} {m1 : Nat → Option O} {t : Nat → AV} : ∀ {ts : List (Nat × AV)}, wT ρ m1 t ts → ∀ i, WAV ρ m1 (lookT ts i) (t i)
  | [], _, i => trivial
  | (j, v) :: r, h, i => by
    unfold lookT
    split
    · rename_i e; subst e; exact h.1
    · exact wT_at h.2 i

theorem wM_at {ρ : Nat → Nat} {m1 m : Nat → Option O} : ∀ {ms : List (Nat × O)}, wM ρ m1 m ms → ∀ i o, lookM ms i = some o → WO ρ m1 o (m (ρ i)) ∧ i ∈ ms.map (·.1)
  | [], _, i, o, h => by cases h
  | (j, v) :: r, h, i, o, hi => by
    unfold lookM at hi
    split at hi
    · rename_i e; subst e; injection hi with hi; subst hi; exact ⟨h.1, by simp⟩
    · obtain ⟨h1, h2⟩ := wM_at h.2 i o hi
      exact ⟨h1, by simp only [List.map_cons, List.mem_cons]; exact .inr h2⟩

theorem WAVs_at {ρ : Nat → Nat} {m1 : Nat → Option O} : ∀ {l l' : List AV}, WAVs ρ m1 l l' → l.length = l'.length ∧ ∀ (j : Nat) (x : AV), l[j]? = some x → ∃ y, l'[j]? = some y ∧ WAV ρ m1 x y
  | [], [], _ => ⟨rfl, fun j x h => by simp at h⟩
  | [], _ :: _, h => h.elim
  | _ :: _, [], h => h.elim
  | x :: l, y :: l', h => by
    obtain ⟨h1, h2⟩ := WAVs_at h.2
    refine ⟨by simp [h1], fun j z hj => ?_⟩
    cases j with
    | zero => simp at hj; subst hj; exact ⟨y, rfl, h.1⟩
    | succ j => simpa using h2 j z (by simpa using hj)

theorem wav_box {β : Nat → Option Loc} {ρ : Nat → Nat} {m1 m : Nat → Option O} (hm : ∀ i o, m1 i = some o → WO ρ m1 o (m (ρ i))) {id off : Nat} (hs : (m1 id).isSome = true) {v : Value} (h : BoxAt β m (ρ id) off v) :
    BoxAt (fun i => β (ρ i)) m1 id off v := by
  obtain ⟨o1, ho1⟩ := Option.isSome_iff_exists.1 hs
  have hw := hm id o1 ho1
  unfold BoxAt at h ⊢
  rw [ho1]
  cases o1 with
  | gone => trivial
  | arr ty sz rows => simp only [WO] at hw; rw [hw] at h; exact h
  | box ty cells =>
    simp only [WO] at hw
    split at hw
    · rename_i ty' cells' hmm; rw [hmm] at h; exact h
    · exact hw.elim

theorem wav_rep {w : World} {B B' : Nat → Prop} {β : Nat → Option Loc} {ρ : Nat → Nat} {m1 m : Nat → Option O} (hm : ∀ i o, m1 i = some o → WO ρ m1 o (m (ρ i))) (hB : ∀ b, B' b → B b) {x y : AV} (hw : WAV ρ m1 x y) {v : Value}
    (h : AvRep w B β m y v) : AvRep0 w B' (fun i => β (ρ i)) m1 x v := by
  have kk : Keeps w B w B' := ⟨Nat.le_refl _, fun _ _ _ => rfl, fun b _ hb hb' => hb (hB b hb')⟩
  cases x with
  | dead => trivial
  | undef => simp only [WAV] at hw; subst hw; exact h
  | imm d => simp only [WAV] at hw; subst hw; exact Rep.keep kk h
  | tup l => exact hw.elim
  | box id off =>
    obtain ⟨rfl, hs⟩ := hw
    exact wav_box hm hs h
  | clo f ids =>
    obtain ⟨rfl, hs⟩ := hw
    obtain ⟨vs, h1, h2, h3⟩ := h
    refine ⟨vs, h1, by simpa using h2, fun i id hi => ?_⟩
    exact wav_box hm (hs id (List.mem_of_getElem? hi)) (h3 i (ρ id) (by simp [hi]))
  | own id off len =>
    obtain ⟨rfl, hs⟩ := hw
    obtain ⟨o1, ho1⟩ := Option.isSome_iff_exists.1 hs
    have hw := hm id o1 ho1
    simp only [AvRep, AvRep0] at h ⊢
    rw [ho1]
    cases o1 with
    | gone => trivial
    | arr ty sz rows => simp only [WO] at hw; rw [hw] at h; exact h
    | box ty cells =>
      simp only [WO] at hw
      split at hw
      · rename_i ty' cells' hmm; rw [hmm] at h; exact h.elim
      · exact hw.elim
  | eptr id r off =>
    obtain ⟨rfl, hs⟩ := hw
    obtain ⟨o1, ho1⟩ := Option.isSome_iff_exists.1 hs
    have hw := hm id o1 ho1
    simp only [AvRep, AvRep0] at h ⊢
    rw [ho1]
    cases o1 with
    | gone => trivial
    | arr ty sz rows => simp only [WO] at hw; rw [hw] at h; exact h
    | box ty cells =>
      simp only [WO] at hw
      split at hw
      · rename_i ty' cells' hmm; rw [hmm] at h; exact h.elim
      · exact hw.elim

theorem avRep_of0 {w : World} {B : Nat → Prop} {β : Nat → Option Loc} {m : Nat → Option O} {x : AV} {v : Value} (h : AvRep0 w B β m x v) : AvRep w B β m x v := by
  cases x with
  | tup l => exact h.elim
  | _ => exact h

theorem inj_of_nodup {ρ : Nat → Nat} : ∀ {l : List Nat}, (l.map ρ).Nodup → ∀ i ∈ l, ∀ j ∈ l, ρ i = ρ j → i = j
  | [], _, i, hi, _, _, _ => by cases hi
  | x :: l, h, i, hi, j, hj, e => by
    simp only [List.map_cons, List.nodup_cons] at h
    rcases List.mem_cons.1 hi with h1 | h1 <;> rcases List.mem_cons.1 hj with h2 | h2
    · rw [h1, h2]
    · subst h1; exact absurd (List.mem_map.2 ⟨j, h2, e.symm⟩) h.1
    · subst h2; exact absurd (List.mem_map.2 ⟨i, h1, e⟩) h.1
    · exact inj_of_nodup h.2 i h1 j h2 e

/-- A state may be weakened to one that is written out, under new names for its objects. -/
theorem ref_st (ρ : Nat → Nat) {σ : S} {n : Nat} {ts : List (Nat × AV)} {ms : List (Nat × O)} {pm : List Nat} (hn : σ.n = n) (ht : wT ρ (lookM ms) σ.t ts) (hmm : wM ρ (lookM ms) σ.m ms)
    (hnd : ((ms.map (·.1)).map ρ).Nodup) (hpm : σ.pm = pm.map ρ) (hpl : ∀ i ∈ pm, (lookM ms i).isSome = true) : Ref σ (st n ts ms pm) := by
  intro w0 A locs β a w h
  have hm : ∀ i o, lookM ms i = some o → WO ρ (lookM ms) o (σ.m (ρ i)) := fun i o hi => (wM_at hmm i o hi).1
  have hlive : ∀ i o, lookM ms i = some o → o.live = true → ∃ o', σ.m (ρ i) = some o' ∧ o'.live = true := fun i o hi hl => by
    have hw := hm i o hi
    cases o with
    | gone => simp [O.live] at hl
    | arr ty sz rows => exact ⟨_, hw, rfl⟩
    | box ty cells =>
      simp only [WO] at hw
      split at hw
      · rename_i hmm; exact ⟨_, hmm, rfl⟩
      · exact hw.elim
  have hB : ∀ b, Bl A (fun i => β (ρ i)) (lookM ms) b → Bl A β σ.m b := by
    rintro b (hA | ⟨i, o, l, h1, h2, h3, h4⟩)
    · exact .inl hA
    · obtain ⟨o', e1, e2⟩ := hlive i o h1 h2
      exact .inr ⟨ρ i, o', l, e1, e2, h3, h4⟩
  refine ⟨fun i => β (ρ i), { size := h.size.trans hn, defers := h.defers, slot := ?_, ob := ?_, inj := ?_, new := ?_, fr := h.fr, lt := h.lt, pm := ?_ }⟩
  · intro i
    exact avRep_of0 (wav_rep hm hB (wT_at ht i) (h.slot i))
  · intro i o hi
    have hi' : lookM ms i = some o := hi
    have hw := hm i o hi'
    have kk : Keeps w (Bl A β σ.m) w (Bl A (fun i => β (ρ i)) (lookM ms)) := ⟨Nat.le_refl _, fun _ _ _ => rfl, fun b _ hb hb' => hb (hB b hb')⟩
    cases o with
    | gone => trivial
    | arr ty sz rows =>
      have hob := h.ob _ _ hw
      obtain ⟨q1, q2, q3⟩ := hob
      refine ⟨q1, q2, ?_⟩
      rcases q3 with ⟨q3, q4⟩ | ⟨l, cs, q3, q4, q5, q6, q7, q8⟩
      · exact .inl ⟨q3, q4⟩
      · exact .inr ⟨l, cs, q3, q4, q5, q6, q7, fun j d hj => (q8 j d hj).keep kk⟩
    | box ty cells =>
      simp only [WO] at hw
      split at hw
      · rename_i ty' cells' hmm'
        obtain ⟨rfl, hws⟩ := hw
        obtain ⟨hl, hat⟩ := WAVs_at hws
        obtain ⟨l, cs, q1, q2, q3, q4⟩ := h.ob _ _ hmm'
        refine ⟨l, cs, q1, q2, q3.trans hl.symm, fun j x hj => ?_⟩
        obtain ⟨y, hy, hxy⟩ := hat j x hj
        exact wav_rep hm hB hxy (avRep_of0 (q4 j y hy))
      · exact hw.elim
  · intro i j oi oj li lj h1 h2 h3 h4 h5 h6 h7
    obtain ⟨o1, e1, e2⟩ := hlive i oi h1 h2
    obtain ⟨o2, f1, f2⟩ := hlive j oj h4 h5
    have := h.inj (ρ i) (ρ j) o1 o2 li lj e1 e2 h3 f1 f2 h6 h7
    exact inj_of_nodup hnd i (wM_at hmm i oi h1).2 j (wM_at hmm j oj h4).2 this
  · intro i o l h1 h2 h3
    obtain ⟨o1, e1, e2⟩ := hlive i o h1 h2
    exact h.new (ρ i) o1 l e1 e2 h3
  · have hp := h.pm
    rw [hpm] at hp
    refine ⟨by have := hp.1; simpa [st] using this, fun k i hk => ?_⟩
    have hk' : pm[k]? = some i := hk
    obtain ⟨h1, _⟩ := hp.2 k (ρ i) (by simp [hk'])
    exact ⟨h1, Option.isSome_iff_exists.1 (hpl i (List.mem_of_getElem? hk'))⟩

/-! ### A function's contract from its body -/

/-- Data that lie in no memory. -/
def D.gr : D → Bool
  | .int _ _ | .bool _ | .str _ | .other _ => true
  | .list [] => true
  | _ => false

/-- Plain data whose parts lie in no memory. -/
def D.gr' : D → Bool
  | .agg cs => cs.all D.gr
  | d => d.gr

def O.gr : O → Bool
  | .arr _ _ rows => rows.all fun r => r.all D.gr
  | .box _ cells => cells.all fun c => match c with | .imm d => d.gr | _ => false
  | .gone => true

/-- Where a result is read. -/
def retAV (T : TypeId → Option TI) (σ : S) : ResultVar → AV
  | .tmp t => σ.t t
  | .cell x ty =>
    match σ.t x, T ty with
    | .box id off, some ti =>
      match σ.m id with
      | some (.box _ cells) =>
        match ti.agg with
        | true => if off + ti.size ≤ cells.length then (match imms ((cells.drop off).take ti.size) with | some ds => .imm (.agg ds) | none => .dead) else .dead
        | false => match cells[off]? with | some (.tup _) => .dead | some av => av | none => .dead
      | _ => .dead
    | _, _ => .dead

/-- One result as what is handed back; 'used': the arrays that earlier results took. -/
def Ret1 (σ : S) (sep : Bool) (av : AV) (r : R0) : Prop :=
  match av, r with
  | .imm d', .imm d => d' = d ∧ (sep = true → d.gr' = true)
  | .own id off len, .imm d =>
    match σ.m id with
    | some (.arr _ _ rows) => d = .list ((rows.drop off).take len) ∧ (sep = true → ∀ x ∈ (rows.drop off).take len, x.all D.gr = true) ∧ id ∉ σ.pm
    | _ => False
  | .own id off len, .arr ty sz rows =>
    match σ.m id with
    | some (.arr ty' sz' rows') => ty' = ty ∧ sz' = sz ∧ rows = (rows'.drop off).take len ∧ (sep = true → ∀ x ∈ rows, x.all D.gr = true) ∧ id ∉ σ.pm
    | _ => False
  | _, _ => False

/-- The names of arrays that are handed on. -/
def ownIds : List AV → List Nat
  | [] => []
  | .own id _ _ :: r => id :: ownIds r
  | _ :: r => ownIds r

def RetAll (σ : S) (sep : Bool) : List AV → List R0 → Prop
  | [], [] => True
  | av :: avs, r :: rs => Ret1 σ sep av r ∧ RetAll σ sep avs rs
  | _, _ => False

/-- What was lent, as it comes back. -/
def MutsOk (σ : S) (out : Out) : List Nat → List Nat → Prop
  | [], [] => True
  | i :: is, id :: ids => σ.m id = some (out.muts.getD i .gone) ∧ (out.sep = true → (out.muts.getD i .gone).gr = true) ∧ MutsOk σ out is ids
  | _, _ => False

def RetOk (T : TypeId → Option TI) (fn : Func) (ins : List In) (out : Out) (σ : S) : Prop :=
  RetAll σ out.sep (fn.results.toList.map (retAV T σ)) out.res ∧ (ownIds (fn.results.toList.map (retAV T σ))).Nodup ∧ σ.pm.Nodup ∧ MutsOk σ out (mutIdx ins) σ.pm

def retQ (T : TypeId → Option TI) (fn : Func) (ins : List In) (out : Out) : Exit → S → Prop
  | .normal, σ => RetOk T fn ins out σ
  | .ret, σ => RetOk T fn ins out σ
  | _, _ => False

end Go.Am
