/- The abstract machine: more turns: a part of a mixed value, the beginning of an array, a variable of very values as plain data. -/
import Derived.Test.YteoiohkdhdpkoaaAmHB
namespace Go.Am
open Go

section
variable {t : Nat → AV} {m : Nat → Option O} {ep n : Nat} {pm : List Nat} {G : S → Prop}
/-- A part of a mixed value as an array of our own. -/
theorem gx_ownCellM (hC : Cv G) {s j id id' ty sz : Nat} {l : List AV} {rows : List (List D)} {v : Value} {I : World → (Nat → Prop) → Prop} (hs : t s = .mix l) (hj : l[j]? = some (.imm (.other v))) (hm : m id = some (.ext I)) (hI : ∀ w F, I w F → FlatI ty sz rows v w F) (hf : m id' = none)
    (h : forceM m [(id, .gone), (id', .arr ty sz rows)] fun m' => G ⟨putT t (some s) (.mix (l.set j (.own id' 0 rows.length))), m', ep, n, pm⟩) :
    G ⟨t, m, ep, n, pm⟩ := by
  rw [forceM_eq] at h
  refine hC Unit ⟨t, m, ep, n, pm⟩ (fun _ => ⟨putT t (some s) (.mix (l.set j (.own id' 0 rows.length))), upm m [(id, .gone), (id', .arr ty sz rows)], ep, n, pm⟩) ?_ (fun _ => h)
  intro w0 A locs β a w hS
  obtain ⟨β', h1, h2⟩ := hS.owned hm hI hf
  refine ⟨(), β', h1.slotAs (s := s) ?_⟩
  have hv := h1.slot s
  change AvRep w _ β' _ (t s) _ at hv
  rw [hs] at hv
  obtain ⟨vs, e1, e2, e3⟩ := hv
  refine ⟨vs, e1, by simp [e2], fun i c hi => ?_⟩
  rw [List.getElem?_set] at hi
  by_cases e : j = i
  · subst e
    rw [if_pos rfl] at hi
    split at hi
    · injection hi with hi
      subst hi
      have := rep_oth (show Rep w _ _ (.other v) from e3 j _ hj)
      rw [this]
      exact h2
    · cases hi
  · rw [if_neg e] at hi
    exact e3 i c hi

/-- The beginning of an array of our own becomes the very value of its slice, and its blocks. -/
theorem gx_exactP (hC : Cv G) {s id id' len ty sz : Nat} {rows rows2 : List (List D)} (hs : t s = .own id 0 len) (hm : m id = some (.arr ty sz rows)) (hr : rows.take len = rows2) (hl : rows2.length = len) (hg : rows2.all (fun r => r.all D.gr) = true) (hf : m id' = none)
    (h : ∀ (oad : Option Addr) (cap : Nat), forceM m [(id, .gone), (id', .ext (FlatI ty sz rows2 (.slice oad rows2.length cap)))] fun m' => G ⟨putT t (some s) (.imm (.other (.slice oad rows2.length cap))), m', ep, n, pm⟩) :
    G ⟨t, m, ep, n, pm⟩ := by
  simp only [forceM_eq] at h
  refine hC { v : Value // ∃ (oad : Option Addr) (cap : Nat), v = .slice oad rows2.length cap } ⟨t, m, ep, n, pm⟩ (fun v => ⟨putT t (some s) (.imm (.other v.1)), upm m [(id, .gone), (id', .ext (FlatI ty sz rows2 v.1))], ep, n, pm⟩) ?_ (fun ⟨v, oad, cap, e⟩ => by subst e; exact h oad cap)
  intro w0 A locs β a w hS
  have hv := hS.slot s
  rw [show (⟨t, m, ep, n, pm⟩ : S).t s = .own id 0 len from hs] at hv
  have hv : AvRep0 w (Bl A β m) β m (.own id 0 len) (a.tmps.getD s Go.undef) := hv
  have hfl : FlatI ty sz rows2 (a.tmps.getD s Go.undef) w (OfIds β m [id]) := by
    obtain ⟨h1, h2, h3⟩ := hS.ob id _ hm
    simp only [AvRep0, hm] at hv
    obtain ⟨hle, hv⟩ := hv
    rw [Nat.zero_add] at hle
    subst hr
    have hsz : ∀ r ∈ rows.take len, r.length = sz := fun r hr => h1 r (List.mem_of_mem_take hr)
    have hgr : ∀ (j : Nat) (d : D), (rows.take len).flatten[j]? = some d → d.gr = true := fun j d hj => by
      obtain ⟨r, hr, hd⟩ := List.mem_flatten.1 (List.mem_of_getElem? hj)
      exact List.all_eq_true.1 (List.all_eq_true.1 hg r hr) d hd
    have hpre : ∀ (j : Nat) (d : D), (rows.take len).flatten[j]? = some d → rows.flatten[j]? = some d := fun j d hj => by
      have e : rows.flatten = (rows.take len).flatten ++ (rows.drop len).flatten := by rw [← List.flatten_append, List.take_append_drop]
      rw [e, List.getElem?_append_left (List.getElem?_eq_some_iff.1 hj).1]
      exact hj
    refine ⟨hsz, h2, ?_⟩
    rcases hv with ⟨hβ, e⟩ | ⟨l, ad, hβ, e, _, had⟩
    · rcases h3 with ⟨_, hrn⟩ | ⟨l, cs, hβ', _⟩
      · exact .inl ⟨by rw [hrn]; simp, e⟩
      · rw [hβ] at hβ'; cases hβ'
    · rcases h3 with ⟨hβ', _⟩ | ⟨l', cs, hβ', q1, q2, q3, q4, q5⟩
      · rw [hβ] at hβ'; cases hβ'
      · rw [hβ] at hβ'; injection hβ' with hβ'; subst hβ'
        refine .inr ⟨l.b, l.base, l.tot, cs, ad, ⟨id, by simp, _, l, hm, rfl, hβ, l.self⟩, by rw [hl, e]; simp, fun h0 => ?_, q1, q2, by rw [hl]; omega, q4, fun j d hj w2 B => (q5 j d (hpre j d hj)).gr (hgr j d hj)⟩
        have := had h0
        simpa using this
  obtain ⟨β', h1, _⟩ := hS.exts (w' := w) (ids := [id]) [(id', FlatI ty sz rows2 (a.tmps.getD s Go.undef), OfIds β m [id])] (by simp) (fun x hx => by rw [List.mem_singleton] at hx; subst hx; exact hf) (fun i hi => by rw [List.mem_singleton] at hi; subst hi; exact ⟨_, hm⟩) (StepFr.refl _ _)
    (fun x hx => by rw [List.mem_singleton] at hx; subst hx; exact ⟨hfl.ext, fun b hb => ⟨OfIds.lt hS hb, .inr hb⟩⟩) (fun x hx y hy b _ _ => by rw [List.mem_singleton] at hx hy; subst hx hy; rfl)
  refine ⟨⟨a.tmps.getD s Go.undef, ?_⟩, β', h1.slotAs (s := s) (av := .imm (.other (a.tmps.getD s Go.undef))) (.other _)⟩
  rcases hfl.2.2 with ⟨e1, e2⟩ | ⟨b, base, tot, cs, ad, _, e2, _⟩
  · exact ⟨none, 0, by rw [e2, e1]; rfl⟩
  · exact ⟨some ad, tot, e2⟩

/-- A cell that is a very value is what an object tells of it. -/
def PlainC (I : World → (Nat → Prop) → Prop) (d d' : D) : Prop := d' = d ∨ ∃ u, d = .other u ∧ ∀ w F B, ExtAt I w F → (∀ b, F b → ¬ B b) → Rep w B u d'
def PlainAll (I : World → (Nat → Prop) → Prop) : List D → List D → Prop
  | [], [] => True
  | d :: ds, d' :: ds' => PlainC I d d' ∧ PlainAll I ds ds'
  | _, _ => False
theorem plainAll_at {I : World → (Nat → Prop) → Prop} : ∀ {ds ds' : List D}, PlainAll I ds ds' → ds'.length = ds.length ∧ ∀ (j : Nat) (d' : D), ds'[j]? = some d' → ∃ d, ds[j]? = some d ∧ PlainC I d d'
  | [], [], _ => ⟨rfl, fun j d h => by simp at h⟩
  | d :: ds, d' :: ds', h => by
    obtain ⟨h1, h2⟩ := plainAll_at h.2
    refine ⟨by simp [h1], fun j e hj => ?_⟩
    cases j with
    | zero => simp at hj; subst hj; exact ⟨d, rfl, h.1⟩
    | succ j => simpa using h2 j e (by simpa using hj)
  | [], _ :: _, h => h.elim
  | _ :: _, [], h => h.elim

/-- A variable whose cells are very values: the object that tells of them is given up, and they are plain data. -/
theorem gx_plainBox (hC : Cv G) {bid id : Nat} {bt : TypeId} {ds ds' : List D} {I : World → (Nat → Prop) → Prop} (hb : m bid = some (.box bt (ds.map .imm))) (hm : m id = some (.ext I)) (hI : PlainAll I ds ds')
    (h : forceM m [(id, .gone), (bid, .box bt (ds'.map .imm))] fun m' => G ⟨t, m', ep, n, pm⟩) : G ⟨t, m, ep, n, pm⟩ := by
  rw [forceM_eq] at h
  have hne : bid ≠ id := fun e => by rw [e, hm] at hb; cases hb
  refine hC Unit ⟨t, m, ep, n, pm⟩ (fun _ => ⟨t, upm m [(id, .gone), (bid, .box bt (ds'.map .imm))], ep, n, pm⟩) ?_ (fun _ => h)
  intro w0 A locs β a w hS
  have hob : ExtAt I w (foot (β id)) := hS.ob id _ hm
  have hk : Sim w0 A locs β ⟨t, upd m id (some .gone), ep, n, pm⟩ a w := hS.kill hm
  have hb' : (upd m id (some .gone)) bid = some (.box bt (ds.map .imm)) := by rw [upd_other _ _ hne]; exact hb
  obtain ⟨cs, e3, e4⟩ := hk.boxSet (bid := bid) hb'
  obtain ⟨hl, hat⟩ := plainAll_at hI
  refine ⟨(), β, e4 (ds'.map .imm) (by simp [hl]) fun j c hj => ?_⟩
  rw [List.getElem?_map, Option.map_eq_some_iff] at hj
  obtain ⟨d', hd', rfl⟩ := hj
  obtain ⟨d, hd, hp⟩ := hat j d' hd'
  have h5 : Rep w (Bl A β (upd m id (some .gone))) (cs.getD j Go.undef) d := e3 j (.imm d) (by rw [List.getElem?_map, hd]; rfl)
  rcases hp with rfl | ⟨u, rfl, hu⟩
  · exact h5
  · have := rep_oth h5
    rw [this]
    refine hu w (foot (β id)) _ hob fun b hbF hB => ?_
    rcases hB with hA | ⟨i, o, l, q1, q2, q3, q4⟩
    · obtain ⟨l, p1, p2⟩ := hbF
      exact (hS.new id _ l hm rfl p1 b p2).2.1 hA
    · have q1 : upd m id (some .gone) i = some o := q1
      by_cases e : i = id
      · subst e
        rw [upd_same] at q1
        injection q1 with q1
        subst q1
        cases q2
      · rw [upd_other _ _ e] at q1
        obtain ⟨l2, p1, p2⟩ := hbF
        exact e (hS.inj i id o _ l l2 b q1 q2 q3 hm rfl p1 q4 p2)
end

section
variable {P : Program} {T : TypeId → Option TI} {t : Nat → AV} {m : Nat → Option O} {ep n : Nat} {pm : List Nat} {k : S → Prop}
variable {ops : Array Oper} {rest : List Oper} {dst : Option Nat} {op : Op} {oty : TypeId} {pos : String} {after : Array Edge}
theorem go_ownCellM (hT : TOk P T) {s j id id' ty sz : Nat} {l : List AV} {rows : List (List D)} {v : Value} {I : World → (Nat → Prop) → Prop} (hs : t s = .mix l) (hj : l[j]? = some (.imm (.other v))) (hm : m id = some (.ext I)) (hI : ∀ w F, I w F → FlatI ty sz rows v w F) (hf : m id' = none)
    (h : forceM m [(id, .gone), (id', .arr ty sz rows)] fun m' => amOps P T ops (⟨dst, op, oty, pos, after, none⟩ :: rest) ⟨putT t (some s) (.mix (l.set j (.own id' 0 rows.length))), m', ep, n, pm⟩ k) :
    amOps P T ops (⟨dst, op, oty, pos, after, none⟩ :: rest) ⟨t, m, ep, n, pm⟩ k := gx_ownCellM (cv_ops hT rfl) hs hj hm hI hf h
theorem go_exactP (hT : TOk P T) {s id id' len ty sz : Nat} {rows rows2 : List (List D)} (hs : t s = .own id 0 len) (hm : m id = some (.arr ty sz rows)) (hr : rows.take len = rows2) (hl : rows2.length = len) (hg : rows2.all (fun r => r.all D.gr) = true) (hf : m id' = none)
    (h : ∀ (oad : Option Addr) (cap : Nat), forceM m [(id, .gone), (id', .ext (FlatI ty sz rows2 (.slice oad rows2.length cap)))] fun m' => amOps P T ops (⟨dst, op, oty, pos, after, none⟩ :: rest) ⟨putT t (some s) (.imm (.other (.slice oad rows2.length cap))), m', ep, n, pm⟩ k) :
    amOps P T ops (⟨dst, op, oty, pos, after, none⟩ :: rest) ⟨t, m, ep, n, pm⟩ k := gx_exactP (cv_ops hT rfl) hs hm hr hl hg hf h
theorem ret_plainBox {Q : Exit → S → Prop} {bid id : Nat} {bt : TypeId} {ds ds' : List D} {I : World → (Nat → Prop) → Prop} (hb : m bid = some (.box bt (ds.map .imm))) (hm : m id = some (.ext I)) (hI : PlainAll I ds ds')
    (h : forceM m [(id, .gone), (bid, .box bt (ds'.map .imm))] fun m' => amC P T .ret Q ⟨t, m', ep, n, pm⟩) : amC P T .ret Q ⟨t, m, ep, n, pm⟩ := gx_plainBox cv_ret hb hm hI h
end

section
variable {P : Program} {T : TypeId → Option TI} {t : Nat → AV} {m : Nat → Option O} {ep n : Nat} {pm : List Nat} {k : S → Prop}
variable {ops : Array Oper} {rest : List Oper} {dst : Option Nat} {op : Op} {oty : TypeId} {pos : String} {after : Array Edge}
variable {d : Nat}
/-- A call that looks at objects told by their blocks. -/
theorem ext_xlookN {g : Option (Nat × Bool)} {f : FuncId} {ds : List D} {rs : List D} {sp : Bool} (hC : CallOk P f (ds.map .imm) { res := rs.map .imm, sep := sp }) (hr : rs.all D.gr = true) (ids : List Nat) {args : Array Operand} {ts : Array TypeId}
    (ha : LookAll ⟨t, m, ep, n, pm⟩ ids (args.toList.map (evT t)) ds) (hd : dstOk (some d) n = true)
    (h : amOps P T ops rest ⟨putT t (some d) (packAV (rs.map .imm)), m, ep, n, pm⟩ k) :
    ExtOp P ⟨some d, .call { callee := .value (.func f), args := args, argTypes := ts }, oty, pos, after, g⟩ ⟨t, m, ep, n, pm⟩ fun σ' => amOps P T ops rest σ' k := by
  intro w0 A locs β a w hs next Q hnext
  obtain ⟨hE, _, _, hC⟩ := hC
  obtain ⟨l1, l2⟩ := lookAll_at ha
  have hlen : args.size = ds.length := by simpa using l1
  have hat : ∀ (i : Nat) (d : D), ds[i]? = some d → Rep w (fun b => Bl A β m b ∧ ¬ OfIds β m ids b) ((args.map a.eval).getD i Go.undef) d := fun i d hi => by
    obtain ⟨av, e1, e2⟩ := l2 i d hi
    rw [List.getElem?_map] at e1
    obtain ⟨x, hx, rfl⟩ := Option.map_eq_some_iff.1 e1
    have h6 : (args.map a.eval).getD i Go.undef = a.eval x := by
      have : args[i]? = some x := by simpa using hx
      simp [Array.getD_eq_getD_getElem?, this]
    rw [h6]
    exact e2 _ _ _ _ _ _ _ hs (evT_eval hs x)
  unfold Oper.wp
  have hrun : (execOp a.eval ⟨some d, .call { callee := .value (.func f), args := args, argTypes := ts }, oty, pos, after, g⟩).run P w = .ok (.enter f (args.map a.eval)) w := by
    obtain ⟨fn, hfn, hname, hbody⟩ := hE
    have hcf : ∀ (vs : Array Value), (callFunc f vs).run P w = .ok (.enter f vs) w := fun vs => by
      have hb : ¬ fn.body = none := fun e => by rw [e] at hbody; cases hbody
      have hname' : ¬ fn.name = "runtime.NumGoroutine" := by simpa using hname
      simp [callFunc, hfn, hname', hb]
    have hfe : a.eval (.func f) = .func (.func f) #[] #[] := rfl
    simp only [execOp, resolve, Deferred.ofValue, hfe, Sem.run_bind, Sem.run_pure, Result.andThen_ok, invoke, Array.empty_append, hcf, Array.append_empty]
  rw [hrun, Oper.upon_enter]
  have hins : ∀ j, (ds.map In.imm)[j]? = (ds[j]?).map In.imm := fun j => List.getElem?_map
  have hinM : inM (ds.map In.imm) = fun _ => none := by
    funext i
    unfold inM
    rw [hins]
    cases ds[i]? <;> rfl
  have hmi : mutIdx (ds.map In.imm) = [] := by
    unfold mutIdx
    refine List.filter_eq_nil_iff.2 fun i _ => ?_
    rw [hins]
    cases ds[i]? <;> simp [In.isMut]
  have hBl : ∀ b, Bl (fun b => Bl A β m b ∧ ¬ OfIds β m ids b) (fun _ => none) (fun _ => none) b → Bl A β m b ∧ ¬ OfIds β m ids b := fun b hb => by
    rcases hb with hb | ⟨_, _, _, hb, _⟩
    · exact hb
    · cases hb
  have hsim : Sim w (fun b => Bl A β m b ∧ ¬ OfIds β m ids b) [] (fun _ => none) (inS (ds.map In.imm) (args.map a.eval).size) ⟨args.map a.eval, []⟩ w := by
    refine { size := rfl, defers := rfl, slot := fun i => ?_, ob := fun id o ho => ?_, inj := fun id id' o o' l l' b h1 => ?_, new := fun id o l h1 => ?_, fr := Fr.refl _ _ (hs.tb (fun l hl => by cases hl)), lt := fun b h => hs.live_lt b h.1, pm := ?_ }
    · show AvRep w (Bl _ _ (inM (ds.map In.imm))) _ (inM (ds.map In.imm)) (inT (ds.map In.imm) i) ((args.map a.eval).getD i Go.undef)
      rw [hinM]
      unfold inT
      rw [hins]
      cases hdd : ds[i]? with
      | none =>
        have : (args.map a.eval).size ≤ i := by rw [Array.size_map, hlen]; exact List.getElem?_eq_none_iff.1 hdd
        show (args.map a.eval).getD i Go.undef = Go.undef
        simp only [Array.getD_eq_getD_getElem?, Array.getElem?_eq_none this, Option.getD_none]
      | some dd => exact Rep.keep ⟨Nat.le_refl _, fun _ _ _ => rfl, fun b _ hB hB' => hB (hBl b hB')⟩ (hat i dd hdd)
    · have : inM (ds.map In.imm) id = some o := ho
      rw [hinM] at this; cases this
    · have : inM (ds.map In.imm) id = some o := h1
      rw [hinM] at this; cases this
    · have : inM (ds.map In.imm) id = some o := h1
      rw [hinM] at this; cases this
    · refine ⟨by rw [show (inS (ds.map In.imm) (args.map a.eval).size).pm = [] from hmi]; rfl, fun i id h => ?_⟩
      rw [show (inS (ds.map In.imm) (args.map a.eval).size).pm = [] from hmi] at h
      cases h
  refine (hC w _ [] _ _ hsim (by simp [hlen])).mono ?_
  rintro e w' ⟨vals, β', rfl, hS⟩
  have hsz : vals.size = rs.length := by have := hS.size; simpa [outS] using this
  have hfr : StepFr w w' (OfIds β m []) := ⟨hS.fr.os, hS.fr.tape, hS.fr.output, hS.fr.size, hS.fr.drawn, fun b hb _ => hS.fr.blk b hb fun l hl => by cases hl⟩
  obtain ⟨β2, hs2, _⟩ := hs.exts (w' := w') (ids := []) [] (by simp) (fun x hx => by cases hx) (fun i hi => by cases hi) hfr (fun x hx => by cases hx) (fun x hx => by cases hx)
  refine hnext _ h β2 _ _ ?_
  refine hs2.put (dst := some d) (fun d' e => by injection e with e; subst e; exact dstOk_at hd) ?_
  refine packAV_rep (by simp [hsz]) fun j av hj => ?_
  rw [List.getElem?_map, Option.map_eq_some_iff] at hj
  obtain ⟨r, hj, rfl⟩ := hj
  have h0 := hS.slot j
  have e : (outS (ds.map In.imm) { res := rs.map .imm, sep := sp }).t j = .imm r := by
    show outT { res := rs.map .imm, sep := sp } j = _
    unfold outT
    simp [hj]
  rw [e] at h0
  have h0 : Rep w' _ (vals.getD j Go.undef) r := h0
  exact h0.gr (List.all_eq_true.1 hr r (List.mem_of_getElem? hj))
end
end Go.Am

/-! What was lent comes back of its make. -/
namespace Go.Am
open Go
theorem subL_cons {m : Nat → Option O} {id : Nat} {o o' : O} {r : List (Nat × O)} (h1 : m id = some o) (h2 : o.sub o') (h3 : SubL m r) : SubL m ((id, o') :: r) := ⟨by rw [h1]; exact h2, h3⟩
theorem sub_arr {ty ty' : TypeId} {sz : Nat} {rows rows' : List (List D)} (h : rows.length ≤ rows'.length) : (O.arr ty sz rows).sub (.arr ty' sz rows') := .inr ⟨_, _, rfl, h⟩
theorem sub_box {ty ty' : TypeId} {cells cells' : List AV} : (O.box ty cells).sub (.box ty' cells') := .inr ⟨_, _, rfl⟩
theorem sub_ext {I I' : World → (Nat → Prop) → Prop} : (O.ext I).sub (.ext I') := .inr ⟨_, rfl⟩
end Go.Am

