/- The abstract machine: what a state may be turned into while it runs; contracts over objects that are told by their blocks. -/
import Derived.Test.YteoiohkdhdpkoaaAmY
import Derived.Test.YteoiohkdhdpkoaaAmR
import Derived.Test.YteoiohkdhdpkoaaAmX
namespace Go.Am
open Go

section
variable {P : Program} {T : TypeId → Option TI} {t : Nat → AV} {m : Nat → Option O} {ep n : Nat} {pm : List Nat} {k : S → Prop}
variable {ops : Array Oper} {rest : List Oper}

/-- A state may be turned into another one ahead of an operation. -/
theorem go_conv {X : Type} {σ : S} (σx : X → S) (hT : TOk P T) {o : Oper} (hg : o.guard = none)
    (hR : ∀ w0 A locs β a w, Sim w0 A locs β σ a w → ∃ x β', Sim w0 A locs β' (σx x) a w)
    (h : ∀ x, amOps P T ops (o :: rest) (σx x) k) : amOps P T ops (o :: rest) σ k := by
  unfold amOps
  rw [hg]
  refine .inr ?_
  intro w0 A locs β a w hs next Q hnext
  obtain ⟨x, β', hs'⟩ := hR w0 A locs β a w hs
  have h := h x
  unfold amOps at h
  rw [hg] at h
  rcases h with h1 | h1
  · obtain ⟨hd, h2⟩ := h1
    refine good_op hT hs' (fun d hdd => by rw [hdd] at hd; exact hd) (m' := (σx x).m) (fun _ _ h => h) (fun _ _ _ h => h) (fun _ _ h => h) h2 _ _ ?_
    intro e hK β' a' w' hs2
    exact hnext _ hK β' a' w' hs2
  · exact h1 w0 A locs β' a w hs' next Q hnext

/-- A goal over states that may be turned. -/
def Cv (G : S → Prop) : Prop := ∀ (X : Type) (σ : S) (σx : X → S), (∀ w0 A locs β a w, Sim w0 A locs β σ a w → ∃ x β', Sim w0 A locs β' (σx x) a w) → (∀ x, G (σx x)) → G σ
theorem cv_ops (hT : TOk P T) {o : Oper} (hg : o.guard = none) : Cv fun σ => amOps P T ops (o :: rest) σ k := fun _ _ σx hR h => go_conv σx hT hg hR h
theorem cv_ret {Q : Exit → S → Prop} : Cv fun σ => amC P T .ret Q σ := fun _ _ σx hR h w0 A locs β a w hs => by
  obtain ⟨x, β', hs'⟩ := hR _ _ _ _ _ _ hs
  exact h x w0 A locs β' a w hs'
end
end Go.Am

/-! The abstract machine: contracts over objects that are told by their blocks. -/
namespace Go.Am
open Go

/-- A first argument: what it reads as (the very value, or a datum); what is lent with it, and as what it comes back. -/
structure XI where
  d : Value → D
  I : VI
  J : VI
/-- A first result: what it reads as, and what it brings. -/
structure XR where
  d : Value → D
  I : VI

def noI : VI := fun _ _ _ => True
theorem noI_at (v : Value) (w : World) (F : Nat → Prop) : ExtAt (noI v) w F := fun _ _ _ => trivial
def XI.imm (d : D) : XI := ⟨fun _ => d, noI, noI⟩
def XI.ext (I J : VI) : XI := ⟨.other, I, J⟩
def XR.imm (d : D) : XR := ⟨fun _ => d, noI⟩
def XR.ext (I : VI) : XR := ⟨.other, I⟩

/-- Package variables lie as they should, and not in U. -/
def TbX (w : World) (U : Nat → Prop) : Prop := ∀ g cs, (g, cs) ∈ tabs → (∃ ty fz, w.heap[g]? = some (.cells cs ty fz)) ∧ ¬ U g

/-- A call of f with x0 (what lies in U is lent with it) and plain data. -/
def XOk (P : Program) (f : FuncId) (x0 : XI) (ds : List D) (r0 : XR) (rs : List D) : Prop :=
  Enters P f ∧ ∀ (w : World) (U : Nat → Prop) (vs : Array Value), vs.size = ds.length + 1 → (∀ b, U b → b < w.heap.size) → TbX w U →
    (∃ B : Nat → Prop, (∀ b, U b → B b) ∧ Rep w B (vs.getD 0 Go.undef) (x0.d (vs.getD 0 Go.undef))) → ExtAt (x0.I (vs.getD 0 Go.undef)) w U →
    (∀ (i : Nat) (d : D), ds[i]? = some d → ∃ B : Nat → Prop, (∀ b, U b → B b) ∧ Rep w B (vs.getD (i + 1) Go.undef) d) →
    Calls P f vs w fun e w' => ∃ (vals : Array Value) (G H : Nat → Prop), e = .returned (packR vals) ∧ vals.size = rs.length + 1 ∧ StepFr w w' U ∧
      (∀ b, G b ∨ H b → b < w'.heap.size ∧ (w.heap.size ≤ b ∨ U b)) ∧ (∀ b, ¬ (G b ∧ H b)) ∧
      ((∀ (w2 : World) (B : Nat → Prop), Rep w2 B (vals.getD 0 Go.undef) (r0.d (vals.getD 0 Go.undef))) ∧ ExtAt (r0.I (vals.getD 0 Go.undef)) w' G) ∧
      ExtAt (x0.J (vs.getD 0 Go.undef)) w' H ∧
      ∀ (j : Nat) (d : D), rs[j]? = some d → ∀ (w2 : World) (B : Nat → Prop), Rep w2 B (vals.getD (j + 1) Go.undef) d

/-- The callee's first state. -/
def xT (x0 : XI) (ds : List D) (v0 : Value) : Nat → AV
  | 0 => .imm (x0.d v0)
  | i + 1 => match ds[i]? with | some d => .imm d | none => .undef
def xM (x0 : XI) (v0 : Value) : Nat → Option O
  | 0 => some (.ext (x0.I v0))
  | _ + 1 => none
def xS (x0 : XI) (ds : List D) (v0 : Value) (n : Nat) : S := { t := xT x0 ds v0, m := xM x0 v0, ep := 0, n := n, pm := [0] }

/-- What the objects 'ids' say of a value. -/
def CloseX (σ : S) (ids : List Nat) (av : AV) (d : Value → D) (I : VI) : Prop :=
  ∀ (w0 : World) (A : Nat → Prop) (locs : List (Option Loc)) (β : Nat → Option Loc) (a : Act) (w : World) (v : Value), Sim w0 A locs β σ a w → AvRep w (Bl A β σ.m) β σ.m av v →
    (∀ (w2 : World) (B : Nat → Prop), Rep w2 B v (d v)) ∧ ExtAt (I v) w (OfIds β σ.m ids)

def XRet (T : TypeId → Option TI) (fn : Func) (x0 : XI) (v0 : Value) (r0 : XR) (rs : List D) (σ : S) : Prop :=
  ∃ (rv : ResultVar) (rvs : List ResultVar) (idsG idsH : List Nat), fn.results.toList = rv :: rvs ∧ rvs.map (retAV T σ) = rs.map .imm ∧ (rs.all D.gr = true) ∧ retAV T σ rv ≠ .dead ∧
    CloseX σ idsG (retAV T σ rv) r0.d r0.I ∧ CloseX σ idsH (.imm (.other v0)) .other x0.J ∧ (∀ x ∈ idsG, x ∉ idsH)

def xQ (T : TypeId → Option TI) (fn : Func) (x0 : XI) (v0 : Value) (r0 : XR) (rs : List D) : Exit → S → Prop
  | .normal, σ => XRet T fn x0 v0 r0 rs σ
  | .ret, σ => XRet T fn x0 v0 r0 rs σ
  | _, _ => False

/-- A contract from a body. -/
theorem xOk_of {P : Program} {T : TypeId → Option TI} (hT : TOk P T) {f : FuncId} {fn : Func} {c : Code} (hf : P.funcs[f]? = some fn) (hn : (fn.name == "runtime.NumGoroutine") = false) (hb : fn.body = some c)
    {x0 : XI} {ds : List D} {r0 : XR} {rs : List D} (hln : ds.length + 1 ≤ fn.ntmps) (h : ∀ v0, amC P T c (xQ T fn x0 v0 r0 rs) (xS x0 ds v0 fn.ntmps)) : XOk P f x0 ds r0 rs := by
  refine ⟨⟨fn, hf, hn, by rw [hb]; rfl⟩, fun w U vs hsz hU hTb hv0 hI hds => ?_⟩
  obtain ⟨ol, hol⟩ := regLoc_ex U w
  have hfoot := hol.foot
  have hBl : ∀ b, Bl (fun _ => False) (fun i => if i = 0 then ol else none) (xM x0 (vs.getD 0 Go.undef)) b ↔ U b := by
    intro b
    constructor
    · rintro (hA | ⟨i, o, l, h1, h2, h3, h4⟩)
      · exact hA.elim
      · cases i with
        | zero =>
          have h3 : ol = some l := h3
          rw [← hfoot]
          exact ⟨l, h3, h4⟩
        | succ i => cases h1
    · intro hb
      rw [← hfoot] at hb
      obtain ⟨l, h1, h2⟩ := hb
      exact .inr ⟨0, _, l, rfl, rfl, h1, h2⟩
  have hget : ∀ i, (vs ++ Array.replicate (fn.ntmps - vs.size) Go.undef).getD i Go.undef = vs.getD i Go.undef := fun i => by
    by_cases hi : i < vs.size
    · simp [Array.getD_eq_getD_getElem?, Array.getElem?_append_left hi]
    · simp only [Array.getD_eq_getD_getElem?, Array.getElem?_append_right (Nat.le_of_not_lt hi), Array.getElem?_replicate]
      rw [Array.getElem?_eq_none (Nat.le_of_not_lt hi)]
      split <;> rfl
  have hs1 : Sim w (fun _ => False) [ol] (fun i => if i = 0 then ol else none) (xS x0 ds (vs.getD 0 Go.undef) fn.ntmps) { tmps := vs ++ Array.replicate (fn.ntmps - vs.size) Go.undef, defers := [] } w := by
    refine { size := by simp [xS, hsz]; omega, defers := rfl, slot := fun i => ?_, ob := fun id o ho => ?_, inj := fun id id' o o' l l' b h1 _ _ h2 _ _ _ _ => ?_, new := fun id o l h1 _ h3 b hb => ?_, fr := Fr.refl _ _ fun g cs hg => ⟨(hTb g cs hg).1, fun l hl hh => ?_⟩, lt := fun b h => h.elim, pm := ⟨rfl, fun i id hi => ?_⟩ }
    · show AvRep w (Bl _ _ (xM x0 (vs.getD 0 Go.undef))) _ (xM x0 (vs.getD 0 Go.undef)) (xT x0 ds (vs.getD 0 Go.undef) i) _
      simp only [hget]
      cases i with
      | zero =>
        obtain ⟨B, h1, h2⟩ := hv0
        exact Rep.keep ⟨Nat.le_refl _, fun _ _ _ => rfl, fun b _ hB hB' => hB (h1 b ((hBl b).1 hB'))⟩ h2
      | succ i =>
        show AvRep w _ _ _ (match ds[i]? with | some d => AV.imm d | none => AV.undef) _
        cases hd : ds[i]? with
        | none =>
          have : vs.size ≤ i + 1 := by rw [hsz]; have := List.getElem?_eq_none_iff.1 hd; omega
          show vs.getD (i + 1) Go.undef = Go.undef
          simp [Array.getD, Nat.not_lt.2 this]
        | some d =>
          obtain ⟨B, h1, h2⟩ := hds i d hd
          exact Rep.keep ⟨Nat.le_refl _, fun _ _ _ => rfl, fun b _ hB hB' => hB (h1 b ((hBl b).1 hB'))⟩ h2
    · cases id with
      | zero =>
        injection ho with ho
        subst ho
        show ExtAt _ w (foot (if (0 : Nat) = 0 then ol else none))
        rw [if_pos rfl, hfoot]
        exact hI
      | succ id => cases ho
    · cases id with
      | zero => cases id' with
        | zero => rfl
        | succ _ => cases h2
      | succ _ => cases h1
    · cases id with
      | zero =>
        have h3 : ol = some l := by simpa using h3
        have : U b := by rw [← hfoot]; exact ⟨l, h3, hb⟩
        exact ⟨hU b this, fun h => h, .inr ⟨l, by rw [h3]; simp, hb⟩⟩
      | succ _ => cases h1
    · simp only [List.mem_singleton] at hl
      exact (hTb g cs hg).2 (by rw [← hfoot]; exact ⟨l, hl.symm, hh⟩)
    · cases i with
      | zero => injection hi with hi; subst hi; exact ⟨rfl, _, rfl⟩
      | succ i => cases hi
  refine calls_of_wp hf hb (wp_mono (amC_sound hT c _ _ (h _) _ _ w hs1) ?_)
  rintro e a' w' ⟨σ', β', h1, h2⟩
  have hret : (e = .normal ∨ e = .ret) ∧ XRet T fn x0 (vs.getD 0 Go.undef) r0 rs σ' := by
    cases e with
    | normal => exact ⟨.inl rfl, h1⟩
    | ret => exact ⟨.inr rfl, h1⟩
    | _ => exact h1.elim
  obtain ⟨he, rv, rvs, idsG, idsH, e1, e2, e3, e4, e5, e6, e7⟩ := hret
  obtain ⟨v0, r1, r2⟩ := ret_val hT h2 rv e4
  have hrest : ∃ us : List Value, us.length = rvs.length ∧ ∀ (j : Nat) (rv : ResultVar), rvs[j]? = some rv → (retSem a' rv).run P w' = .ok (us.getD j Go.undef) w' ∧ AvRep w' (Bl (fun _ => False) β' σ'.m) β' σ'.m (retAV T σ' rv) (us.getD j Go.undef) := by
    have hnd : ∀ rv ∈ rvs, retAV T σ' rv ≠ .dead := fun rv hrv e => by
      have : retAV T σ' rv ∈ rs.map AV.imm := by rw [← e2]; exact List.mem_map_of_mem hrv
      rw [e] at this
      obtain ⟨d, _, hd⟩ := List.mem_map.1 this
      cases hd
    clear e1 e2
    induction rvs with
    | nil => exact ⟨[], rfl, fun j rv hj => by simp at hj⟩
    | cons x l ih =>
      obtain ⟨us, h3, h4⟩ := ih fun rv' hrv => hnd rv' (by simp [hrv])
      obtain ⟨v, h5, h6⟩ := ret_val hT h2 x (hnd x (by simp))
      refine ⟨v :: us, by simp [h3], fun j rv' hj => ?_⟩
      cases j with
      | zero => simp at hj; subst hj; exact ⟨by simpa using h5, by simpa using h6⟩
      | succ j => simpa using h4 j rv' (by simpa using hj)
  obtain ⟨us, u1, u2⟩ := hrest
  have hrun : (results fn a'.tmps).run P w' = .ok (packR (v0 :: us).toArray) w' := by
    have hm := mapM_run (P := P) (w := w') (retSem a') fn.results.toList (v0 :: us) (by rw [e1]; simp [u1]) (fun j rv' hj => by
      rw [e1] at hj
      cases j with
      | zero => simp at hj; subst hj; simpa using r1
      | succ j => simpa using (u2 j rv' (by simpa using hj)).1)
    rw [results_eq]
    simp only [Array.mapM_eq_mapM_toList, Sem.run_bind, Sem.run_map, hm, Result.andThen_ok, Sem.run_pure]
    show _ = Result.ok (packR (v0 :: us).toArray) w'
    unfold packR
    split
    · rename_i h1
      have h1' : us.length = 0 := by simpa using h1
      match us, h1' with
      | [], _ => rfl
    · rfl
  have hrl : rvs.length = rs.length := by have := congrArg List.length e2; simpa using this
  obtain ⟨q1, q2⟩ := e5 _ _ _ _ _ _ _ h2 r2
  obtain ⟨_, q4⟩ := e6 _ _ _ _ _ _ (vs.getD 0 Go.undef) h2 (.other _)
  have hown : ∀ ids b, OfIds β' σ'.m ids b → b < w'.heap.size ∧ (w.heap.size ≤ b ∨ U b) := fun ids b hb => by
    obtain ⟨id, _, o, l, k2, k3, k4, k5⟩ := hb
    obtain ⟨n1, _, n3⟩ := h2.new id o l k2 k3 k4 b k5
    refine ⟨n1, ?_⟩
    rcases n3 with n3 | ⟨l0, n3, n4⟩
    · exact .inl n3
    · simp only [List.mem_singleton] at n3
      exact .inr (by rw [← hfoot]; exact ⟨l0, n3.symm, n4⟩)
  have fin : ∃ (vals : Array Value) (G H : Nat → Prop), Ending.returned (packR (v0 :: us).toArray) = .returned (packR vals) ∧ vals.size = rs.length + 1 ∧ StepFr w w' U ∧
      (∀ b, G b ∨ H b → b < w'.heap.size ∧ (w.heap.size ≤ b ∨ U b)) ∧ (∀ b, ¬ (G b ∧ H b)) ∧
      ((∀ (w2 : World) (B : Nat → Prop), Rep w2 B (vals.getD 0 Go.undef) (r0.d (vals.getD 0 Go.undef))) ∧ ExtAt (r0.I (vals.getD 0 Go.undef)) w' G) ∧
      ExtAt (x0.J (vs.getD 0 Go.undef)) w' H ∧
      ∀ (j : Nat) (d : D), rs[j]? = some d → ∀ (w2 : World) (B : Nat → Prop), Rep w2 B (vals.getD (j + 1) Go.undef) d := by
    refine ⟨_, OfIds β' σ'.m idsG, OfIds β' σ'.m idsH, rfl, by simp [u1, hrl], ⟨h2.fr.os, h2.fr.tape, h2.fr.output, h2.fr.size, h2.fr.drawn, fun b hb hnU => h2.fr.blk b hb fun l hl hh => hnU ?_⟩, fun b hb => hb.elim (hown _ b) (hown _ b), fun b hb => OfIds.disj h2 e7 hb.1 hb.2, ⟨?_, ?_⟩, q4, fun j d hj w2 B => ?_⟩
    · simp only [List.mem_singleton] at hl
      rw [← hfoot]; exact ⟨l, hl.symm, hh⟩
    · simpa using q1
    · simpa using q2
    · obtain ⟨rvj, hrv⟩ : ∃ rvj, rvs[j]? = some rvj := ⟨_, List.getElem?_eq_getElem (by rw [hrl]; exact (List.getElem?_eq_some_iff.1 hj).1)⟩
      have h3 := (u2 j rvj hrv).2
      have h4 : (rvs.map (retAV T σ'))[j]? = some (retAV T σ' rvj) := by rw [List.getElem?_map, hrv]; rfl
      rw [e2, List.getElem?_map, hj] at h4
      injection h4 with h4
      rw [← h4] at h3
      have h5 : Rep w' _ (us.getD j Go.undef) d := h3
      have hgr : d.gr = true := List.all_eq_true.1 e3 d (List.mem_of_getElem? hj)
      have e9 : (v0 :: us).toArray.getD (j + 1) Go.undef = us.getD j Go.undef := by simp [Array.getD_eq_getD_getElem?, List.getD_eq_getElem?_getD]
      rw [e9]
      exact h5.gr hgr
  rcases he with rfl | rfl
  · exact ⟨h2.defers, _, hrun, fin⟩
  · exact ⟨h2.defers, _, hrun, fin⟩

/-- What a call may look at: data, or what objects told by their blocks hold. -/
def LookA (σ : S) (ids : List Nat) (av : AV) (d : D) : Prop :=
  ∀ (w0 : World) (A : Nat → Prop) (locs : List (Option Loc)) (β : Nat → Option Loc) (a : Act) (w : World) (v : Value), Sim w0 A locs β σ a w → AvRep w (Bl A β σ.m) β σ.m av v → Rep w (fun b => Bl A β σ.m b ∧ ¬ OfIds β σ.m ids b) v d
def LookAll (σ : S) (ids : List Nat) : List AV → List D → Prop
  | [], [] => True
  | av :: avs, d :: ds => LookA σ ids av d ∧ LookAll σ ids avs ds
  | _, _ => False

theorem look_imm (σ : S) (ids : List Nat) (d : D) : LookA σ ids (.imm d) d := fun _ _ _ _ _ _ _ _ hv => Rep.keep ⟨Nat.le_refl _, fun _ _ _ => rfl, fun _ _ hB hB' => hB hB'.1⟩ hv
theorem lookAll_at {σ : S} {ids : List Nat} : ∀ {avs : List AV} {ds : List D}, LookAll σ ids avs ds → avs.length = ds.length ∧ ∀ (i : Nat) (d : D), ds[i]? = some d → ∃ av, avs[i]? = some av ∧ LookA σ ids av d
  | [], [], _ => ⟨rfl, fun i d h => by simp at h⟩
  | av :: avs, d0 :: ds, h => by
    obtain ⟨h1, h2⟩ := lookAll_at h.2
    refine ⟨by simp [h1], fun i d hi => ?_⟩
    cases i with
    | zero => simp at hi; subst hi; exact ⟨av, rfl, h.1⟩
    | succ i => obtain ⟨av', e1, e2⟩ := h2 i d (by simpa using hi); exact ⟨av', by simpa using e1, e2⟩
  | [], _ :: _, h => h.elim
  | _ :: _, [], h => h.elim

/-- What is lent with a first argument, and what stays behind. -/
def SplitX (σ : S) (ids : List Nat) (v : Value) (I : VI) (K : World → (Nat → Prop) → Prop) : Prop :=
  ∀ (w0 : World) (A : Nat → Prop) (locs : List (Option Loc)) (β : Nat → Option Loc) (a : Act) (w : World), Sim w0 A locs β σ a w →
    ∃ U R : Nat → Prop, (∀ b, U b ∨ R b → OfIds β σ.m ids b) ∧ (∀ b, ¬ (U b ∧ R b)) ∧ ExtAt (I v) w U ∧ ExtAt K w R

def resX (r0 : XR) (rs : List D) (r : Value) : AV := packAV (.imm (r0.d r) :: rs.map .imm)

section
variable {P : Program} {Tt : TypeId → Option TI} {t : Nat → AV} {m : Nat → Option O} {ep n : Nat} {pm : List Nat} {k : S → Prop}
variable {ops : Array Oper} {rest : List Oper} {d : Nat} {ty : TypeId} {pos : String} {after : Array Edge}

theorem evT_eval {w0 w : World} {A : Nat → Prop} {locs : List (Option Loc)} {β : Nat → Option Loc} {a : Act} (hs : Sim w0 A locs β ⟨t, m, ep, n, pm⟩ a w) (x : Operand) : AvRep w (Bl A β m) β m (evT t x) (a.eval x) := by
  have := hs.ev x
  rw [ev_eq] at this
  exact this

theorem ext_xcallA {g : Option (Nat × Bool)} {f : FuncId} {x0 : XI} {ds : List D} {r0 : XR} {rs : List D} (hX : XOk P f x0 ds r0 rs) (ids : List Nat) (K : World → (Nat → Prop) → Prop) {args : Array Operand} {ts : Array TypeId} {v : Value}
    (look : List Nat) (ha : LookAll ⟨t, m, ep, n, pm⟩ look (args.toList.map (evT t)) (x0.d v :: ds)) (hlk : ∀ x ∈ ids, x ∉ look) (hv : (∀ (w : World) (B : Nat → Prop) (u : Value), Rep w B u (x0.d v) → u = v) ∨ ∀ u, x0.d u = x0.d v ∧ x0.I u = noI u ∧ x0.J u = x0.J v)
    (hsp : SplitX ⟨t, m, ep, n, pm⟩ ids v x0.I K)
    (hids : ∀ id ∈ ids, ∃ o, m id = some o) (h1 : m (nid ep d) = none) (h2 : m (rid ep d 1) = none) (h3 : m (rid ep d 2) = none) (hd : dstOk (some d) n = true)
    (h : ∀ r, forceM m (kills ids ++ [(nid ep d, .ext (r0.I r)), (rid ep d 1, .ext (x0.J v)), (rid ep d 2, .ext K)]) fun m' => amOps P Tt ops rest ⟨putT t (some d) (resX r0 rs r), m', ep, n, pm⟩ k) :
    ExtOp P ⟨some d, .call { callee := .value (.func f), args := args, argTypes := ts }, ty, pos, after, g⟩ ⟨t, m, ep, n, pm⟩ fun σ' => amOps P Tt ops rest σ' k := by
  simp only [forceM_eq] at h
  intro w0 A locs β a w hs next Q hnext
  obtain ⟨hE, hC⟩ := hX
  obtain ⟨U, R, s1, s2, s3, s4⟩ := hsp w0 A locs β a w hs
  obtain ⟨l1, l2⟩ := lookAll_at ha
  have hlen : args.size = ds.length + 1 := by simpa using l1
  have hat : ∀ (i : Nat) (d : D), (x0.d v :: ds)[i]? = some d → Rep w (fun b => Bl A β m b ∧ ¬ OfIds β m look b) ((args.map a.eval).getD i Go.undef) d := fun i d hi => by
    obtain ⟨av, e1, e2⟩ := l2 i d hi
    rw [List.getElem?_map] at e1
    obtain ⟨x, hx, rfl⟩ := Option.map_eq_some_iff.1 e1
    have h6 : (args.map a.eval).getD i Go.undef = a.eval x := by
      have : args[i]? = some x := by simpa using hx
      simp [Array.getD_eq_getD_getElem?, this]
    rw [h6]
    exact e2 _ _ _ _ _ _ _ hs (evT_eval hs x)
  have hUB : ∀ b, U b → Bl A β m b ∧ ¬ OfIds β m look b := fun b hb => by
    refine ⟨?_, fun hlo => OfIds.disj hs hlk (s1 b (.inl hb)) hlo⟩
    obtain ⟨id, _, o, l, k1, k2, k3, k4⟩ := s1 b (.inl hb)
    exact .inr ⟨id, o, l, k1, k2, k3, k4⟩
  have hUlt : ∀ b, U b → b < w.heap.size := fun b hb => OfIds.lt hs (s1 b (.inl hb))
  have hTb : TbX w U := fun g cs hg => by
    obtain ⟨⟨ty', fz, e1⟩, e2⟩ := hs.fr.tb g cs hg
    have hlt := lt_of_cells e1
    refine ⟨⟨ty', fz, (hs.fr.blk g hlt e2).trans e1⟩, fun hU => ?_⟩
    obtain ⟨id, _, o, l, k1, k2, k3, k4⟩ := s1 g (.inl hU)
    rcases (hs.new id o l k1 k2 k3 g k4).2.2 with n1 | ⟨l0, n1, n2⟩
    · omega
    · exact e2 l0 n1 n2
  have hrep0 := hat 0 (x0.d v) rfl
  have hx0 : (∃ B : Nat → Prop, (∀ b, U b → B b) ∧ Rep w B ((args.map a.eval).getD 0 Go.undef) (x0.d ((args.map a.eval).getD 0 Go.undef))) ∧ ExtAt (x0.I ((args.map a.eval).getD 0 Go.undef)) w U ∧ x0.J ((args.map a.eval).getD 0 Go.undef) = x0.J v := by
    rcases hv with hv | hv
    · have e1 : (args.map a.eval).getD 0 Go.undef = v := hv _ _ _ hrep0
      rw [e1]
      rw [e1] at hrep0
      exact ⟨⟨_, hUB, hrep0⟩, s3, rfl⟩
    · obtain ⟨e1, e2, e3⟩ := hv ((args.map a.eval).getD 0 Go.undef)
      rw [e1, e2, e3]
      exact ⟨⟨_, hUB, hrep0⟩, noI_at _ w U, rfl⟩
  unfold Oper.wp
  have hrun : (execOp a.eval ⟨some d, .call { callee := .value (.func f), args := args, argTypes := ts }, ty, pos, after, g⟩).run P w = .ok (.enter f (args.map a.eval)) w := by
    obtain ⟨fn, hfn, hname, hbody⟩ := hE
    have hcf : ∀ (vs : Array Value), (callFunc f vs).run P w = .ok (.enter f vs) w := fun vs => by
      have hb : ¬ fn.body = none := fun e => by rw [e] at hbody; cases hbody
      have hname' : ¬ fn.name = "runtime.NumGoroutine" := by simpa using hname
      simp [callFunc, hfn, hname', hb]
    have hfe : a.eval (.func f) = .func (.func f) #[] #[] := rfl
    simp only [execOp, resolve, Deferred.ofValue, hfe, Sem.run_bind, Sem.run_pure, Result.andThen_ok, invoke, Array.empty_append, hcf, Array.append_empty]
  rw [hrun, Oper.upon_enter]
  refine (hC w U (args.map a.eval) (by simpa using hlen) hUlt hTb hx0.1 hx0.2.1 (fun i dd hi => ⟨_, hUB, hat (i + 1) dd (by simpa using hi)⟩)).mono ?_
  rintro e w' ⟨vals, G, H, rfl, hvs, hfr, hGH, hdis, ⟨hr1, hr2⟩, hJ, hrs⟩
  rw [hx0.2.2] at hJ
  have hRsame : ∀ b, R b → w'.heap[b]? = w.heap[b]? := fun b hb => hfr.blk b (OfIds.lt hs (s1 b (.inr hb))) fun hu => s2 b ⟨hu, hb⟩
  have hfr' : StepFr w w' (OfIds β m ids) := ⟨hfr.os, hfr.tape, hfr.output, hfr.size, hfr.drawn, fun b hb hn => hfr.blk b hb fun hu => hn (s1 b (.inl hu))⟩
  have hGlt : ∀ b, G b ∨ H b → ¬ R b := fun b hb hR => by
    rcases (hGH b hb).2 with h5 | h5
    · have := OfIds.lt hs (s1 b (.inr hR)); omega
    · exact s2 b ⟨h5, hR⟩
  have n12 : nid ep d ≠ rid ep d 1 := by unfold rid; omega
  have n13 : nid ep d ≠ rid ep d 2 := by unfold rid; omega
  have n23 : rid ep d 1 ≠ rid ep d 2 := by unfold rid; omega
  obtain ⟨β', hs2, _⟩ := hs.exts (w' := w') (ids := ids) [(nid ep d, r0.I (vals.getD 0 Go.undef), G), (rid ep d 1, x0.J v, H), (rid ep d 2, K, R)]
    (by simp [n12, n13, n23]) (fun x hx => by
      simp only [List.mem_cons, List.not_mem_nil, or_false] at hx
      rcases hx with rfl | rfl | rfl
      · exact h1
      · exact h2
      · exact h3) hids hfr' (fun x hx => by
      simp only [List.mem_cons, List.not_mem_nil, or_false] at hx
      rcases hx with rfl | rfl | rfl
      · exact ⟨hr2, fun b hb => by
          obtain ⟨h5, h6⟩ := hGH b (.inl hb)
          exact ⟨h5, h6.imp_right fun hu => s1 b (.inl hu)⟩⟩
      · exact ⟨hJ, fun b hb => by
          obtain ⟨h5, h6⟩ := hGH b (.inr hb)
          exact ⟨h5, h6.imp_right fun hu => s1 b (.inl hu)⟩⟩
      · exact ⟨s4.keep hRsame hfr.size, fun b hb => ⟨Nat.lt_of_lt_of_le (OfIds.lt hs (s1 b (.inr hb))) hfr.size, .inr (s1 b (.inr hb))⟩⟩)
    (fun x hx y hy b hb hb2 => by
      simp only [List.mem_cons, List.not_mem_nil, or_false] at hx hy
      rcases hx with rfl | rfl | rfl <;> rcases hy with rfl | rfl | rfl
      · rfl
      · exact (hdis b ⟨hb, hb2⟩).elim
      · exact (hGlt b (.inl hb) hb2).elim
      · exact (hdis b ⟨hb2, hb⟩).elim
      · rfl
      · exact (hGlt b (.inr hb) hb2).elim
      · exact (hGlt b (.inl hb2) hb).elim
      · exact (hGlt b (.inr hb2) hb).elim
      · rfl)
  refine hnext _ (h (vals.getD 0 Go.undef)) β' _ _ ?_
  refine hs2.put (dst := some d) (fun d' e => by injection e with e; subst e; exact dstOk_at hd) ?_
  unfold resX
  refine packAV_rep (by simp [hvs]) fun j av hj => ?_
  cases j with
  | zero =>
    simp only [List.getElem?_cons_zero, Option.some.injEq] at hj
    subst hj
    exact hr1 _ _
  | succ j =>
    simp only [List.getElem?_cons_succ, List.getElem?_map, Option.map_eq_some_iff] at hj
    obtain ⟨dd, hj, rfl⟩ := hj
    exact hrs j dd hj _ _
theorem ext_xcall {g : Option (Nat × Bool)} {f : FuncId} {x0 : XI} {ds : List D} {r0 : XR} {rs : List D} (hX : XOk P f x0 ds r0 rs) (ids : List Nat) (K : World → (Nat → Prop) → Prop) {args : Array Operand} {ts : Array TypeId} {v : Value}
    (look : List Nat) (ha : LookAll ⟨t, m, ep, n, pm⟩ look (args.toList.map (evT t)) (x0.d v :: ds)) (hlk : ∀ x ∈ ids, x ∉ look) (hv : x0.d v = .other v ∨ ∀ u, x0.d u = x0.d v ∧ x0.I u = noI u ∧ x0.J u = x0.J v)
    (hsp : SplitX ⟨t, m, ep, n, pm⟩ ids v x0.I K)
    (hids : ∀ id ∈ ids, ∃ o, m id = some o) (h1 : m (nid ep d) = none) (h2 : m (rid ep d 1) = none) (h3 : m (rid ep d 2) = none) (hd : dstOk (some d) n = true)
    (h : ∀ r, forceM m (kills ids ++ [(nid ep d, .ext (r0.I r)), (rid ep d 1, .ext (x0.J v)), (rid ep d 2, .ext K)]) fun m' => amOps P Tt ops rest ⟨putT t (some d) (resX r0 rs r), m', ep, n, pm⟩ k) :
    ExtOp P ⟨some d, .call { callee := .value (.func f), args := args, argTypes := ts }, ty, pos, after, g⟩ ⟨t, m, ep, n, pm⟩ fun σ' => amOps P Tt ops rest σ' k :=
  ext_xcallA hX ids K look ha hlk (hv.imp_left fun e w B u hu => by
    rw [e] at hu
    generalize hd0 : D.other v = dd at hu
    cases hu <;> first | (injection hd0 with hd0; exact hd0.symm) | cases hd0) hsp hids h1 h2 h3 hd h

end
end Go.Am

