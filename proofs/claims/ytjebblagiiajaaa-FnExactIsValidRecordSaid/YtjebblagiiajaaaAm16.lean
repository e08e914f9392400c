/- The abstract machine, part 16: one operation, whatever it is. -/
import Derived.Test.YtjebblagiiajaaaAmE
import Derived.Lib.SliceRun
import Derived.Orders
namespace Go.Am
open Go

def fnOf : AV → Option (FuncId × List AV)
  | .imm (.fn f caps) => some (f, caps.map .imm)
  | .clo f ids => some (f, ids.map fun i => .box i 0)
  | _ => none

def opNil (m : Nat → Option O) (x : AV) (K : Eff → Prop) : Prop :=
  match x with
  | .box id off => match m id with | some (.box _ _) => K ⟨.box id off, []⟩ | _ => False
  | .eptr id r off => match m id with | some (.arr _ _ _) => K ⟨.eptr id r off, []⟩ | _ => False
  | .imm (.ptr ds) => K ⟨.imm (.ptr ds), []⟩
  | .imm (.fn f caps) => K ⟨.imm (.fn f caps), []⟩
  | .clo f ids => K ⟨.clo f ids, []⟩
  | _ => False

def opBuiltin (T : TypeId → Option TI) (m : Nat → Option O) (ep : Nat) (o : Oper) (b : Builtin) (args : List AV) (ts : List TypeId) (K : Eff → Prop) : Prop :=
  match b, args, ts with
  | .len, [x], [t] => opLen T m t x K
  | .append, [x, y], [t, t'] => t' = t ∧ opAppend T m ep o t x y K
  | .min, [x, y], [_, _] => opMinMax false x y K
  | .max, [x, y], [_, _] => opMinMax true x y K
  | _, _, _ => False

/-- Whether a slice is nil: of one without elements it may be either. -/
def nilness (m : Nat → Option O) (x : AV) (K : Bool → Prop) : Prop :=
  match x with
  | .imm (.list rows) => ∀ b, (rows ≠ [] → b = false) → K b
  | .own id _ len => (match m id with | some (.arr _ _ _) => True | _ => False) ∧ ∀ b, (0 < len → b = false) → K b
  | _ => False

def opNilCmp (T : TypeId → Option TI) (m : Nat → Option O) (op : BinOp) (t : TypeId) (x : AV) (K : Eff → Prop) : Prop :=
  match T t with
  | some ⟨.slice _, _, _, _⟩ =>
    match op with
    | .eql => nilness m x fun b => K ⟨.imm (.bool b), []⟩
    | .neq => nilness m x fun b => K ⟨.imm (.bool (!b)), []⟩
    | _ => False
  | _ => False

def opCmpV (P : Program) (T : TypeId → Option TI) (op : BinOp) (t : TypeId) (xv yv : AV) (K : Eff → Prop) : Prop :=
  match xv, yv with
  | .imm (.agg ds), .imm (.agg ds') => opAggEq P op t ds ds' K
  | _, _ => opBin T op t xv yv K

def opCmp (P : Program) (T : TypeId → Option TI) (m : Nat → Option O) (op : BinOp) (t : TypeId) (y : Operand) (xv yv : AV) (K : Eff → Prop) : Prop :=
  match y with
  | .const (.slice none 0 0) => opNilCmp T m op t xv K
  | _ => opCmpV P T op t xv yv K

def amOp (P : Program) (T : TypeId → Option TI) (ρ : Operand → AV) (m : Nat → Option O) (ep : Nat) (o : Oper) (K : Eff → Prop) : Prop :=
  match o.op with
  | .move x => opMove T m ep o x (ρ x) K
  | .assign x => opMove T m ep o x (ρ x) K
  | .pick c a b => opPick (ρ c) (ρ a) (ρ b) K
  | .alloc t => opAlloc T m ep o t K
  | .box t x => opBox m ep o t (ρ x) K
  | .build t parts => opBuild T m t (parts.toList.map fun x => (x.1, ρ x.2)) K
  | .buildSlice t len parts => opBuildSlice T m ep o t len (parts.toList.map fun x => (x.1, ρ x.2)) K
  | .load t x => opLoad T m t (ρ x) K
  | .store t x y => opStore T m t (ρ x) (ρ y) K
  | .nilCheck x => opNil m (ρ x) K
  | .binOp op t x y _ => opCmp P T m op t y (ρ x) (ρ y) K
  | .unOp op _ x => opUn op (ρ x) K
  | .convert src dst x => opConvB T m src dst (ρ x) K
  | .makeFunc fn first captured => opFunc fn (first.toList.map ρ) (captured.toList.map ρ) K
  | .makeSlice t l c => opMake T m ep o t (ρ l) (ρ c) K
  | .slice t x lo hi mx => opSlice T m t (ρ x) (lo.map ρ) (hi.map ρ) (mx.map ρ) K
  | .fieldAddr t x f => opFieldAddr T m t (ρ x) f K
  | .field t x f => opField T t (ρ x) f K
  | .indexAddr t x i => opIndexAddr T m t (ρ x) (ρ i) K
  | .index t x i => opIndex T t (ρ x) (ρ i) K
  | .extract x i => opExtract (ρ x) i K
  | .call c =>
    match c.callee with
    | .builtin b => opBuiltin T m ep o b (c.args.toList.map ρ) c.argTypes.toList K
    | .value f => match fnOf (ρ f) with | some (fid, caps) => opCall P m ep o fid (c.args.toList.map ρ ++ caps) K | none => False
    | _ => False
  | _ => False

/-- An operation comes to one of the effects that K takes. -/
def GoodOp (P : Program) (w0 : World) (A : Nat → Prop) (locs : List (Option Loc)) (σ : S) (a : Act) (w : World) (o : Oper) (K : Eff → Prop) : Prop :=
  ∀ (next : Act → World → Prop) (Q : Exit → Act → World → Prop), (∀ e, K e → ∀ β' a' w', Sim w0 A locs β' (σ.app o.dst e) a' w' → next a' w') → o.wp P a w next Q

section
variable {P : Program} {T : TypeId → Option TI} (hT : TOk P T) {w0 w : World} {A : Nat → Prop} {locs : List (Option Loc)} {β : Nat → Option Loc} {σ : S} {a : Act}
variable (h : Sim w0 A locs β σ a w) {o : Oper} (hd : ∀ d, o.dst = some d → d < σ.n) {K : Eff → Prop} {m' : Nat → Option O} (hm : ∀ id ob, m' id = some ob → σ.m id = some ob)

theorem Good.op (hg : Good P w0 A locs σ a w o K) : GoodOp P w0 A locs σ a w o K := by
  intro next Q hk
  obtain ⟨e, β', v, w', hK, hrun, hs⟩ := hg
  unfold Oper.wp
  rcases hrun with hrun | ⟨hrun, rfl⟩
  · rw [hrun]; exact hk e hK β' _ w' hs
  · rw [hrun]; exact hk e hK β' _ w' hs

include h hd hm in
theorem good_nil {x : Operand} (ho : o.op = .nilCheck x) (hk : opNil m' (σ.ev x) K) : Good P w0 A locs σ a w o K := by
  have hx := h.ev x
  unfold opNil at hk
  split at hk
  · rename_i id off e
    split at hk
    · rename_i ty cells hmm
      rw [e] at hx
      have hx' := hx
      simp only [AvRep, AvRep0, BoxAt, hm _ _ hmm] at hx'
      obtain ⟨l, _, hv⟩ := hx'
      exact h.val hd hk (v := a.eval x) (by simp [execOp, ho, hv]) hx
    · exact hk.elim
  · rename_i id r off e
    split at hk
    · rename_i ty sz rows hmm
      rw [e] at hx
      have hx' := hx
      simp only [AvRep, AvRep0, hm _ _ hmm] at hx'
      obtain ⟨_, l, _, hv⟩ := hx'
      exact h.val hd hk (v := a.eval x) (by simp [execOp, ho, hv]) hx
    · exact hk.elim
  · rename_i ds e
    rw [e] at hx
    obtain ⟨ad, g, hv, _⟩ := rep_ptr hx
    exact h.val hd hk (v := a.eval x) (by simp [execOp, ho, hv]) hx
  · rename_i f caps e
    rw [e] at hx
    have hx' : Rep w (Bl A β σ.m) (a.eval x) (.fn f caps) := hx
    have hv : ∃ vs, a.eval x = .func (.func f) #[] vs := by
      generalize a.eval x = v at hx'
      cases hx'
      exact ⟨_, rfl⟩
    obtain ⟨vs, hv⟩ := hv
    exact h.val hd hk (v := a.eval x) (by simp [execOp, ho, hv]) hx
  · rename_i f ids e
    rw [e] at hx
    obtain ⟨vs, hv, r⟩ := id hx
    exact h.val hd hk (v := a.eval x) (by simp [execOp, ho, hv]) hx
  · exact hk.elim

include hT h hd hm in
theorem good_nilCmp {op : BinOp} {t t' : TypeId} {x : Operand} (ho : o.op = .binOp op t x (.const (.slice none 0 0)) t') (hk : opNilCmp T m' op t (σ.ev x) K) : Good P w0 A locs σ a w o K := by
  unfold opNilCmp at hk
  split at hk
  · rename_i e sz by' z ht
    have hu : P.underlying t = some (.slice e) := hT.slice ht rfl
    have hx := h.ev x
    -- the slot holds a slice; its nilness is one that K takes
    have key : ∀ F : Bool → Prop, nilness m' (σ.ev x) F → ∃ ad n c, a.eval x = .slice ad n c ∧ F ad.isNone := by
      intro F hF
      unfold nilness at hF
      split at hF
      · rename_i rows e1
        rw [e1] at hx
        have hx' : Rep w (Bl A β σ.m) (a.eval x) (.list rows) := hx
        generalize a.eval x = v at hx'
        cases hx' with
        | nil ad c => exact ⟨ad, 0, c, rfl, hF _ fun h => absurd rfl h⟩
        | list ad n c _ sz g _ _ _ _ _ _ _ _ => exact ⟨some ad, n, c, rfl, hF _ fun _ => rfl⟩
      · rename_i id off len e1
        obtain ⟨hmm, hF⟩ := hF
        split at hmm
        · rename_i ty sz rows hmm'
          rw [e1] at hx
          simp only [AvRep, AvRep0, hm _ _ hmm'] at hx
          obtain ⟨hle, hx⟩ := hx
          rcases hx with ⟨hβ, hv⟩ | ⟨l, ad, _, hv, _, _⟩
          · refine ⟨none, 0, 0, hv, hF _ fun hlen => ?_⟩
            obtain ⟨_, _, hob⟩ := h.ob id _ (hm _ _ hmm')
            rcases hob with ⟨_, hr⟩ | ⟨l, _, hl, _⟩
            · rw [hr] at hle; simp at hle; omega
            · rw [hβ] at hl; cases hl
          · exact ⟨some ad, _, _, hv, hF _ fun _ => rfl⟩
        · exact hmm.elim
      · exact hF.elim
    have hy : a.eval (.const (.slice none 0 0)) = .slice none 0 0 := rfl
    split at hk
    · obtain ⟨ad, n, c, hv, hK⟩ := key _ hk
      refine h.val hd hK (v := .bool ad.isNone) ?_ (.bool _)
      have e1 : ∀ w : World, (Op.equal t (.slice ad n c) (.slice none 0 0)).run P w = .ok ad.isNone w := fun w => Lib.run_equalIn_slice_nil w 9999 t e ad n c 0 0 hu
      have e2 : binOp .eql t (.slice ad n c) (.slice none 0 0) = (do pure (.bool (← Op.equal t (.slice ad n c) (.slice none 0 0)))) := rfl
      unfold execOp
      simp only [ho, hv, hy, eqGuard_at_slice, e2, Sem.run_bind, Sem.run_pure, Result.andThen_ok, e1]
    · obtain ⟨ad, n, c, hv, hK⟩ := key _ hk
      refine h.val hd hK (v := .bool (!ad.isNone)) ?_ (.bool _)
      have e1 : ∀ w : World, (Op.equal t (.slice ad n c) (.slice none 0 0)).run P w = .ok ad.isNone w := fun w => Lib.run_equalIn_slice_nil w 9999 t e ad n c 0 0 hu
      have e2 : binOp .neq t (.slice ad n c) (.slice none 0 0) = (do pure (.bool (!(← Op.equal t (.slice ad n c) (.slice none 0 0))))) := rfl
      unfold execOp
      simp only [ho, hv, hy, eqGuard_at_slice, e2, Sem.run_bind, Sem.run_pure, Result.andThen_ok, e1]
    · exact hk.elim
  · exact hk.elim

theorem argIn_sub {m₁ m₂ : Nat → Option O} (hsub : ∀ id ob, m₁ id = some ob → m₂ id = some ob) {k : Nat} {av : AV} {r : In × List Nat × List Nat × Option Nat} (hc : argIn m₁ k av = some r) : argIn m₂ k av = some r := by
  have hvc : ∀ id off ds, viewCells m₁ id off = some ds → viewCells m₂ id off = some ds := fun id off ds hv => by
    unfold viewCells at hv ⊢
    split at hv
    · rename_i hmm; rw [hsub _ _ hmm]; exact hv
    · cases hv
  have hvl : ∀ ids ds, viewClo m₁ ids = some ds → viewClo m₂ ids = some ds := by
    intro ids
    induction ids with
    | nil => intro ds h; exact h
    | cons id r ih =>
      intro ds h
      simp only [viewClo] at h ⊢
      split at h
      · rename_i cs rest h1 h2
        rw [hvc _ _ _ h1, ih _ h2]; exact h
      · cases h
  unfold argIn at hc ⊢
  split at hc
  · exact hc
  · split at hc
    · rename_i hmm; rw [hsub _ _ hmm]; exact hc
    · cases hc
  · split at hc
    · rename_i hmm; rw [hsub _ _ hmm]; exact hc
    · cases hc
  · split at hc
    · rename_i hmm; rw [hsub _ _ hmm]; exact hc
    · cases hc
  · split at hc
    · rename_i hmm; rw [hvc _ _ _ hmm]; exact hc
    · cases hc
  · split at hc
    · rename_i hmm; rw [hsub _ _ hmm]; exact hc
    · cases hc
  · split at hc
    · rename_i hmm; rw [hvl _ _ hmm]; exact hc
    · cases hc
  · cases hc

theorem argsIn_sub {m₁ m₂ : Nat → Option O} (hsub : ∀ id ob, m₁ id = some ob → m₂ id = some ob) : ∀ (args : List AV) (md : List Nat) (r : List In × List Nat × List Nat × List (Option Nat)), argsIn m₁ md args = some r → argsIn m₂ md args = some r
  | [], md, r, hc => hc
  | av :: l, md, r, hc => by
    simp only [argsIn] at hc ⊢
    split at hc
    · rename_i h1 h2
      rw [argIn_sub hsub h1, argsIn_sub hsub l _ _ h2]; exact hc
    · cases hc

theorem freshAll_sub {m₁ m₂ : Nat → Option O} : ∀ (l : List (Nat × O)), (∀ x ∈ l, m₁ x.1 = none → m₂ x.1 = none) → freshAll m₁ l → freshAll m₂ l
  | [], _, _ => trivial
  | (i, o) :: l, hn, h => ⟨hn (i, o) (by simp) h.1, freshAll_sub l (fun x hx => hn x (by simp [hx])) h.2⟩

include h hd hm in
theorem good_call {f : Operand} {args : Array Operand} {ts : Array TypeId} (ho : o.op = .call { callee := .value f, args := args, argTypes := ts }) {fid : FuncId} {caps : List AV} (hf : fnOf (σ.ev f) = some (fid, caps))
    (hn : ∀ j, m' (rid σ.ep (o.dst.getD 0) j) = none → σ.m (rid σ.ep (o.dst.getD 0) j) = none)
    (hk : opCall P m' σ.ep o fid (args.toList.map σ.ev ++ caps) K) : GoodOp P w0 A locs σ a w o K := by
  intro next Q hnext
  obtain ⟨md, out, hk⟩ := hk
  split at hk
  · rename_i ins vs fz gs hin
    obtain ⟨hok, hsep, ⟨hnd, hv⟩, hfr, hK⟩ := hk
    have hin' := argsIn_sub hm _ _ _ hin
    have hfr' : freshAll σ.m (resUp σ.ep (o.dst.getD 0) 0 out.res) := freshAll_sub _ (fun x hx => by
      rw [resUp_trip] at hx
      obtain ⟨t, ht, rfl⟩ := List.mem_map.1 hx
      obtain ⟨k, ty, sz, rows, _, rfl⟩ := mem_tripRes ht
      exact hn _) hfr
    obtain ⟨⟨fn, hfn, hname, hbody⟩, hlen, hmut, hcall⟩ := hok
    -- the function's value, its captured variables
    have hfv : ∃ cvs : Array Value, a.eval f = .func (.func fid) #[] cvs ∧ cvs.size = caps.length ∧ ∀ (i : Nat) (av : AV), caps[i]? = some av → AvRep w (Bl A β σ.m) β σ.m av (cvs.getD i Go.undef) := by
      have hx := h.ev f
      unfold fnOf at hf
      split at hf
      · rename_i f' cs e
        simp only [Option.some.injEq, Prod.mk.injEq] at hf
        obtain ⟨rfl, rfl⟩ := hf
        rw [e] at hx
        have hx' : Rep w (Bl A β σ.m) (a.eval f) (.fn f' cs) := hx
        generalize a.eval f = v at hx'
        cases hx' with
        | fn f'' cvs ds hs hj =>
          refine ⟨cvs, rfl, by simpa using hs, fun i av hi => ?_⟩
          simp only [List.getElem?_map, Option.map_eq_some_iff] at hi
          obtain ⟨d, hd', rfl⟩ := hi
          exact hj i d hd'
      · rename_i f' ids e
        simp only [Option.some.injEq, Prod.mk.injEq] at hf
        obtain ⟨rfl, rfl⟩ := hf
        rw [e] at hx
        obtain ⟨cvs, hv1, hv2, hv3⟩ := hx
        refine ⟨cvs, hv1, by simpa using hv2, fun i av hi => ?_⟩
        simp only [List.getElem?_map, Option.map_eq_some_iff] at hi
        obtain ⟨id, hid, rfl⟩ := hi
        exact hv3 i id hid
      · cases hf
    obtain ⟨cvs, hfe, hcs, hcv⟩ := hfv
    have hvals : ∀ (i : Nat) (av : AV), (args.toList.map σ.ev ++ caps)[i]? = some av → AvRep w (Bl A β σ.m) β σ.m av ((args.map a.eval ++ cvs).getD i Go.undef) := by
      intro i av hi
      rw [List.getElem?_append, List.length_map, Array.length_toList] at hi
      simp only [Array.getD_eq_getD_getElem?, Array.getElem?_append, Array.size_map]
      split at hi
      · rename_i hlt
        rw [if_pos hlt]
        simp only [List.getElem?_map, Option.map_eq_some_iff] at hi
        obtain ⟨x, hx, rfl⟩ := hi
        have : args[i]? = some x := by simpa using hx
        simp only [Array.getElem?_map, this, Option.map_some, Option.getD_some]
        exact h.ev x
      · rename_i hlt
        rw [if_neg hlt]
        have := hcv _ av hi
        simpa [Array.getD_eq_getD_getElem?] using this
    have hsz : (args.map a.eval ++ cvs).size = (args.toList.map σ.ev ++ caps).length := by simp [hcs]
    have hcs' := callee_sim h hin' hnd hv (args.map a.eval ++ cvs) hsz hvals
    have hrun : (execOp a.eval o).run P w = .ok (.enter fid (args.map a.eval ++ cvs)) w := by
      have hcf : ∀ (vs : Array Value), (callFunc fid vs).run P w = .ok (.enter fid vs) w := fun vs => by
        have hb : ¬ fn.body = none := fun e => by rw [e] at hbody; cases hbody
        have hname' : ¬ fn.name = "runtime.NumGoroutine" := by simpa using hname
        simp [callFunc, hfn, hname', hb]
      simp only [execOp, ho, resolve, Deferred.ofValue, hfe, Sem.run_bind, Sem.run_pure, Result.andThen_ok, invoke, Array.empty_append, hcf]
    unfold Oper.wp
    rw [hrun, Oper.upon_enter]
    have hln : (args.map a.eval ++ cvs).size = ins.length := by rw [hsz, (argsIn_at _ _ _ _ _ _ hin').1]
    refine (hcall w _ _ _ _ hcs' hln).mono fun e w' ⟨vals, β', he, hs⟩ => ?_
    subst he
    obtain ⟨β'', hs', hv'⟩ := call_back h hin' hnd hv (ep := σ.ep) (d := o.dst.getD 0) hsep hfr' hmut hlen hs
    exact hnext _ hK β'' _ w' (Sim.app hd hs' hv')
  · exact hk.elim

include hT h hd hm in
/-- Every operation that the abstract machine takes stands for the model's. -/
theorem good_op (hn : ∀ d, o.dst = some d → ∀ j, m' (rid σ.ep d j) = none → σ.m (rid σ.ep d j) = none) (hn0 : ∀ j, o.dst = none → m' (rid σ.ep 0 j) = none → σ.m (rid σ.ep 0 j) = none)
    (hk : amOp P T σ.ev m' σ.ep o K) : GoodOp P w0 A locs σ a w o K := by
  have hn' : ∀ d, o.dst = some d → m' (nid σ.ep d) = none → σ.m (nid σ.ep d) = none := fun d hdd hz => by
    have := hn d hdd 0
    simp only [rid, Nat.zero_mul, Nat.add_zero] at this
    exact this hz
  unfold amOp at hk
  split at hk
  · rename_i x ho; exact (good_move h hd hn' (.inl ho) hk).op
  · rename_i x ho; exact (good_move h hd hn' (.inr ho) hk).op
  · rename_i c x y ho; exact (good_pick h hd ho hk).op
  · rename_i t ho; exact (good_alloc hT h hd hn' ho hk).op
  · rename_i t x ho; exact (good_box h hd hm hn' ho hk).op
  · rename_i t parts ho; exact (good_build hT h hd hm ho hk).op
  · rename_i t len parts ho; exact (good_buildSlice hT h hd hm hn' ho hk).op
  · rename_i t x ho; exact (good_load hT h hd hm ho hk).op
  · rename_i t x y ho; exact (good_store hT h hd hm ho hk).op
  · rename_i x ho; exact (good_nil h hd hm ho hk).op
  · rename_i op t x y t' ho
    unfold opCmp at hk
    split at hk
    · exact (good_nilCmp hT h hd hm ho hk).op
    · unfold opCmpV at hk
      split at hk
      · rename_i e1 e2
        exact (good_aggEq h hd ho e1 e2 hk).op
      · exact (good_bin hT h hd ho hk).op
  · rename_i op t x ho; exact (good_un h hd ho hk).op
  · rename_i src dst x ho; exact (good_convB hT h hd hm ho hk).op
  · rename_i fn first captured ho; exact (good_func h hd ho hk).op
  · rename_i t l c ho; exact (good_make hT h hd hn' ho hk).op
  · rename_i t x lo hi mx ho; exact (good_slice hT h hd hm ho hk).op
  · rename_i t x f ho; exact (good_fieldAddr hT h hd hm ho hk).op
  · rename_i t x f ho; exact (good_field hT h hd ho hk).op
  · rename_i t x i ho; exact (good_indexAddr hT h hd hm ho hk).op
  · rename_i t x i ho; exact (good_index hT h hd ho hk).op
  · rename_i x i ho; exact (good_extract h hd ho hk).op
  · rename_i c ho
    obtain ⟨callee, args, ts⟩ := c
    simp only at hk
    split at hk
    · rename_i b
      unfold opBuiltin at hk
      split at hk
      · rename_i x t e1 e2
        obtain ⟨y, rfl, rfl⟩ : ∃ y, args = #[y] ∧ x = σ.ev y := by
          cases args with
          | mk l => match l, e1 with
            | [y], e1 => simp at e1; exact ⟨y, rfl, e1.symm⟩
        obtain rfl : ts = #[t] := by cases ts; simp at e2; simp [e2]
        exact (good_len hT h hd hm ho hk).op
      · rename_i x y t t' e1 e2
        obtain ⟨rfl, hk⟩ := hk
        obtain ⟨x', y', rfl, rfl, rfl⟩ : ∃ x' y', args = #[x', y'] ∧ x = σ.ev x' ∧ y = σ.ev y' := by
          cases args with
          | mk l => match l, e1 with
            | [x', y'], e1 => simp at e1; exact ⟨x', y', rfl, e1.1.symm, e1.2.symm⟩
        obtain rfl : ts = #[t', t'] := by cases ts; simp at e2; simp [e2]
        exact (good_append hT h hd hm hn' ho hk).op
      · rename_i x y t t' e1 e2
        obtain ⟨x', y', rfl, rfl, rfl⟩ : ∃ x' y', args = #[x', y'] ∧ x = σ.ev x' ∧ y = σ.ev y' := by
          cases args with
          | mk l => match l, e1 with
            | [x', y'], e1 => simp at e1; exact ⟨x', y', rfl, e1.1.symm, e1.2.symm⟩
        obtain rfl : ts = #[t, t'] := by cases ts; simp at e2; simp [e2]
        exact (good_min h hd ho hk).op
      · rename_i x y t t' e1 e2
        obtain ⟨x', y', rfl, rfl, rfl⟩ : ∃ x' y', args = #[x', y'] ∧ x = σ.ev x' ∧ y = σ.ev y' := by
          cases args with
          | mk l => match l, e1 with
            | [x', y'], e1 => simp at e1; exact ⟨x', y', rfl, e1.1.symm, e1.2.symm⟩
        obtain rfl : ts = #[t, t'] := by cases ts; simp at e2; simp [e2]
        exact (good_max h hd ho hk).op
      · exact hk.elim
    · rename_i f
      split at hk
      · rename_i fid caps hf
        refine good_call h hd hm ho hf (fun j => ?_) hk
        cases hdst : o.dst with
        | none => exact hn0 j hdst
        | some d => exact hn d hdst j
      · exact hk.elim
    · exact hk.elim
  · exact hk.elim

end
end Go.Am
