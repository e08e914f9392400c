/- The abstract machine: the very value of a slice, indexed, loaded, stored through the blocks that an object tells of; contracts over one lent array. -/
import Derived.Test.YteoiohkdhdpkoaaAmHF
import Derived.Test.YteoiohkdhdpkoaaAmS
namespace Go.Am
open Go

section
variable {P : Program} {T : TypeId → Option TI} {t : Nat → AV} {m : Nat → Option O} {ep n : Nat} {pm : List Nat} {k : S → Prop}
variable {ops : Array Oper} {rest : List Oper} {d : Nat} {oty : TypeId} {pos : String} {after : Array Edge} {g : Option (Nat × Bool)}

theorem dst_lt' {d n : Nat} (h : dstOk (some d) n = true) : ∀ d', some d = some d' → d' < n := fun d' e => by
  injection e with e
  subst e
  exact dstOk_at h

theorem evT_other {w0 w : World} {A : Nat → Prop} {locs : List (Option Loc)} {β : Nat → Option Loc} {a : Act} (hs : Sim w0 A locs β ⟨t, m, ep, n, pm⟩ a w) {x : Operand} {v : Value} (hx : evT t x = .imm (.other v)) : a.eval x = v := by
  have h := evT_eval hs x
  rw [hx] at h
  exact rep_oth h

/-- A value reckoned out, memory as it was. -/
theorem ext_val {op : Op} {av : AV} (hd : dstOk (some d) n = true)
    (hrun : ∀ w0 A locs β a w, Sim w0 A locs β ⟨t, m, ep, n, pm⟩ a w → ∃ v, (execOp a.eval ⟨some d, op, oty, pos, after, g⟩).run P w = .ok (.value v) w ∧ AvRep w (Bl A β m) β m av v)
    (h : amOps P T ops rest ⟨putT t (some d) av, m, ep, n, pm⟩ k) : ExtOp P ⟨some d, op, oty, pos, after, g⟩ ⟨t, m, ep, n, pm⟩ fun σ' => amOps P T ops rest σ' k := by
  intro w0 A locs β a w hs next Q hnext
  obtain ⟨v, h1, h2⟩ := hrun _ _ _ _ _ _ hs
  unfold Oper.wp
  rw [h1]
  exact hnext _ h _ _ _ (hs.put (dst := some d) (dst_lt' hd) h2)

theorem ext_lenX (hT : TOk P T) {x : Operand} {tt e : TypeId} {ad : Option Addr} {len cap a1 b1 : Nat} {z1 : List D} (hx : evT t x = .imm (.other (.slice ad len cap))) (ht : T tt = some ⟨.slice e, a1, b1, z1⟩) (hd : dstOk (some d) n = true)
    (h : amOps P T ops rest ⟨putT t (some d) (.imm (.int .i64 len)), m, ep, n, pm⟩ k) :
    ExtOp P ⟨some d, .call { callee := .builtin .len, args := #[x], argTypes := #[tt] }, oty, pos, after, g⟩ ⟨t, m, ep, n, pm⟩ fun σ' => amOps P T ops rest σ' k := by
  refine ext_val (av := .imm (.int .i64 len)) hd (fun w0 A locs β a w hs => ⟨.int .i64 len, ?_, Rep.int _ _⟩) h
  have hu := hT.slice ht rfl
  have hv := evT_other hs hx
  have hr : (Builtin.len_ #[tt] oty #[.slice ad len cap]).run P w = .ok (.int .i64 len) w := by simp [Builtin.len_, run_underlying hu, goInt]
  simp only [execOp, resolve, invoke, builtin, Sem.run_bind, Sem.run_pure, Result.andThen_ok, List.map_toArray, List.map_cons, List.map_nil, hv, hr]

theorem ext_idxX (hT : TOk P T) {x i : Operand} {tt e : TypeId} {ad : Addr} {len cap a1 b1 : Nat} {z1 : List D} {te : TI} {kd : IntKind} {j : Int} (hx : evT t x = .imm (.other (.slice (some ad) len cap))) (hi : evT t i = .imm (.int kd j)) (ht : T tt = some ⟨.slice e, a1, b1, z1⟩) (hE : T e = some te)
    (h0 : 0 ≤ j) (h1 : j < len) (hd : dstOk (some d) n = true)
    (h : amOps P T ops rest ⟨putT t (some d) (.imm (.other (.pointer (some (ad.add (j.toNat * te.size)))))), m, ep, n, pm⟩ k) :
    ExtOp P ⟨some d, .indexAddr tt x i, oty, pos, after, g⟩ ⟨t, m, ep, n, pm⟩ fun σ' => amOps P T ops rest σ' k := by
  refine ext_val (av := .imm (.other (.pointer (some (ad.add (j.toNat * te.size)))))) hd (fun w0 A locs β a w hs => ⟨.pointer (some (ad.add (j.toNat * te.size))), ?_, Rep.other _⟩) h
  have hu := hT.slice ht rfl
  have hv := evT_other hs hx
  have hiv : a.eval i = .int kd j := by
    have h := evT_eval hs i
    rw [hi] at h
    exact rep_int h
  have hsz : ∀ w : World, (sizeOf e).run P w = .ok te.size w := fun w => hT.sizeOf hE w
  simp [execOp, hv, hiv, Instr.indexAt, asIntOf, run_underlying hu, h0, h1, hsz]

theorem ext_fieldX (hT : TOk P T) {x : Operand} {tt : TypeId} {f off nn a1 b1 : Nat} {bb : Bool} {fs : List (Nat × Nat × Bool)} {z1 : List D} {ad : Addr} (hx : evT t x = .imm (.other (.pointer (some ad)))) (ht : T tt = some ⟨.struct fs, a1, b1, z1⟩) (hf : fs[f]? = some (off, nn, bb)) (hd : dstOk (some d) n = true)
    (h : amOps P T ops rest ⟨putT t (some d) (.imm (.other (.pointer (some (ad.add off))))), m, ep, n, pm⟩ k) :
    ExtOp P ⟨some d, .fieldAddr tt x f, oty, pos, after, g⟩ ⟨t, m, ep, n, pm⟩ fun σ' => amOps P T ops rest σ' k := by
  refine ext_val (av := .imm (.other (.pointer (some (ad.add off))))) hd (fun w0 A locs β a w hs => ⟨.pointer (some (ad.add off)), ?_, Rep.other _⟩) h
  have hv := evT_other hs hx
  obtain ⟨fields, hu, hff⟩ := hT.struct ht rfl
  obtain ⟨fd, h1, h2, h3, h4, h5⟩ := hff f _ hf
  have hsz : ∀ w : World, (sizeOf fd.type).run P w = .ok nn w := fun w => by
    cases hi : P.info? fd.type with
    | none => simp [hi] at h3
    | some i => simp [hi] at h3; simp [sizeOf, typeInfo, hi, h3]
  have h4' : ¬ nn = 0 := h4
  simp [execOp, hv, Instr.fieldAt, run_underlying hu, h1, Instr.sureAddr, fieldPlace, hsz, h4', h2]

/-- One cell is read through what an object tells. -/
theorem ext_loadX (hT : TOk P T) {x : Operand} {tt : TypeId} {ti : TI} {id b o : Nat} {ad : Addr} {I : World → (Nat → Prop) → Prop} {dd : D} (hx : evT t x = .imm (.other (.pointer (some ad)))) (had : ad = ⟨b, o, none⟩) (ht : T tt = some ti) (hag : ti.agg = false) (hm : m id = some (.ext I))
    (hI : ∀ w F, I w F → ∃ (cs : Array Value) (tb : TypeId) (fz : Nat × Nat), w.heap[b]? = some (.cells cs tb fz) ∧ o < cs.size ∧ ∀ (w2 : World) (B : Nat → Prop), Rep w2 B (cs.getD o Go.undef) dd) (hd : dstOk (some d) n = true)
    (h : amOps P T ops rest ⟨putT t (some d) (.imm dd), m, ep, n, pm⟩ k) :
    ExtOp P ⟨some d, .load tt x, oty, pos, after, g⟩ ⟨t, m, ep, n, pm⟩ fun σ' => amOps P T ops rest σ' k := by
  subst had
  refine ext_val hd (fun w0 A locs β a w hs => ?_) h
  have hv := evT_other hs hx
  have hob : ExtAt I w (foot (β id)) := hs.ob id _ hm
  obtain ⟨cs, tb, fz, h1, h2, h3⟩ := hI _ _ hob.now
  refine ⟨cs.getD o Go.undef, ?_, h3 _ _⟩
  have := run_loadAt (w := w) hT ht ⟨b, o, none⟩ (fun j => cs.getD (o + j) Go.undef) (fun j hj => by
    rw [hag] at hj
    have : j = 0 := by simpa using hj
    subst this
    rw [Addr.add_zero']
    exact run_load_at h1 h2)
  rw [hag] at this
  simp only [Bool.false_eq_true, if_false, Nat.add_zero] at this
  simp only [execOp, hv, Sem.run_bind, this, Result.andThen_ok, Sem.run_pure]

/-- One cell is written through what an object tells. -/
theorem ext_storeX (hT : TOk P T) {x y : Operand} {tt : TypeId} {ti : TI} {id id' b o : Nat} {ad : Addr} {I I' : World → (Nat → Prop) → Prop} {dd : D} (hx : evT t x = .imm (.other (.pointer (some ad)))) (had : ad = ⟨b, o, none⟩) (hy : evT t y = .imm dd) (h1 : dd.one = true) (hgr : dd.gr = true) (ht : T tt = some ti) (hsz : Nat.beq ti.size 1 = true) (hm : m id = some (.ext I)) (hf : m id' = none)
    (hI : ∀ w F, I w F → F b ∧ ∃ (cs : Array Value) (tb : TypeId), w.heap[b]? = some (.cells cs tb (0, 0)) ∧ o < cs.size ∧
      ∀ (w' : World) (u : Value), (∀ (w2 : World) (B : Nat → Prop), Rep w2 B u dd) → w'.heap[b]? = some (.cells (cs.setIfInBounds o u) tb (0, 0)) → (∀ b', b' ≠ b → w'.heap[b']? = w.heap[b']?) → ExtAt I' w' F)
    (h : forceM m [(id, .gone), (id', .ext I')] fun m' => amOps P T ops rest ⟨t, m', ep, n, pm⟩ k) :
    ExtOp P ⟨none, .store tt x y, oty, pos, after, g⟩ ⟨t, m, ep, n, pm⟩ fun σ' => amOps P T ops rest σ' k := by
  subst had
  rw [forceM_eq] at h
  intro w0 A locs β a w hs next Q hnext
  have hv := evT_other hs hx
  have hyv := evT_eval hs y
  rw [hy] at hyv
  have hyr : Rep w _ (a.eval y) dd := hyv
  have hob : ExtAt I w (foot (β id)) := hs.ob id _ hm
  obtain ⟨hF, cs, tb, q1, q2, q3⟩ := hI _ _ hob.now
  obtain ⟨w', r1, r2, r3, r4, r5, r6, r7, r8⟩ := run_store1 (P := P) (w := w) hT ht (Nat.eq_of_beq_eq_true hsz) b o (a.eval y) q1 q2 (thaw q1) (Rep.one hyr h1)
  have hrun : (execOp a.eval ⟨none, .store tt x y, oty, pos, after, g⟩).run P w = .ok .skip w' := by
    simp only [execOp, hv, Sem.run_bind, r1, Result.andThen_ok, Sem.run_pure]
  have hof : ∀ b, OfIds β m [id] b ↔ foot (β id) b := OfIds.one hm rfl
  obtain ⟨β', hs2, _⟩ := hs.exts (w' := w') (ids := [id]) [(id', I', foot (β id))] (by simp) (fun x hx => by rw [List.mem_singleton] at hx; subst hx; exact hf) (fun i hi => by rw [List.mem_singleton] at hi; subst hi; exact ⟨_, hm⟩)
    ⟨r5, r6, r7, Nat.le_of_eq r4.symm, Nat.le_of_eq r8.symm, fun b' _ hn => r3 b' fun e => hn ((hof b').2 (by rw [e]; exact hF))⟩
    (fun x hx => by
      rw [List.mem_singleton] at hx
      subst hx
      exact ⟨q3 w' (a.eval y) (fun w2 B => hyr.gr hgr) r2 r3, fun b' hb' => ⟨by rw [r4]; exact OfIds.lt hs ((hof b').2 hb'), .inr ((hof b').2 hb')⟩⟩)
    (fun x hx y hy b _ _ => by rw [List.mem_singleton] at hx hy; subst hx hy; rfl)
  unfold Oper.wp
  rw [hrun]
  exact hnext _ h β' _ _ hs2
end

/-- What a flat array tells of one of its cells. -/
theorem FlatI.cell {ty sz : Nat} {rows : List (List D)} {ad : Addr} {len cap : Nat} {w : World} {F : Nat → Prop} (h : FlatI ty sz rows (.slice (some ad) len cap) w F) {j : Nat} {d : D} (hj : rows.flatten[j]? = some d) :
    ad.spot = none ∧ F ad.block ∧ ∃ cs : Array Value, w.heap[ad.block]? = some (.cells cs ty (0, 0)) ∧ ad.off + j < cs.size ∧ ∀ (w2 : World) (B : Nat → Prop), Rep w2 B (cs.getD (ad.off + j) Go.undef) d := by
  obtain ⟨h1, h2, h3⟩ := h
  rcases h3 with ⟨rfl, _⟩ | ⟨b, base, tot, cs, ad', q1, e, q3, q4, q5, q6, q7, q8⟩
  · simp at hj
  · injection e with e1 e2 e3
    injection e1 with e1
    subst e1
    have hjl := (List.getElem?_eq_some_iff.1 hj).1
    have hfl : rows.flatten.length = rows.length * sz := flat_len rows h1
    have hmul : rows.length * sz ≤ tot * sz := Nat.mul_le_mul_right _ q6
    have hpos : 0 < tot := by
      rcases Nat.eq_zero_or_pos tot with h0 | h0
      · subst h0; omega
      · exact h0
    have := q3 hpos
    subst this
    exact ⟨rfl, q1, cs, q4, by show base + j < _; omega, q8 j d hj⟩
theorem flat_load {ty sz : Nat} {rows : List (List D)} {b o o' : Nat} {len cap : Nat} {w : World} {F : Nat → Prop} {j : Nat} {d : D} (hj : rows.flatten[j]? = some d) (he : o' = o + j) (h : FlatI ty sz rows (.slice (some ⟨b, o, none⟩) len cap) w F) :
    ∃ (cs : Array Value) (tb : TypeId) (fz : Nat × Nat), w.heap[b]? = some (.cells cs tb fz) ∧ o' < cs.size ∧ ∀ (w2 : World) (B : Nat → Prop), Rep w2 B (cs.getD o' Go.undef) d := by
  subst he
  obtain ⟨_, _, cs, q1, q2, q3⟩ := h.cell hj
  exact ⟨cs, _, _, q1, q2, q3⟩
theorem look2 {σ : S} {ids : List Nat} {a0 a1 : AV} {d0 d1 : D} (h0 : LookA σ ids a0 d0) (h1 : LookA σ ids a1 d1) : LookAll σ ids [a0, a1] [d0, d1] := ⟨h0, h1, trivial⟩
theorem look3 {σ : S} {ids : List Nat} {a0 a1 a2 : AV} {d0 d1 d2 : D} (h0 : LookA σ ids a0 d0) (h1 : LookA σ ids a1 d1) (h2 : LookA σ ids a2 d2) : LookAll σ ids [a0, a1, a2] [d0, d1, d2] := ⟨h0, h1, h2, trivial⟩
theorem have1 {m : Nat → Option O} {id : Nat} {o : O} (h : m id = some o) : ∀ i ∈ [id], ∃ o, m i = some o := fun i hi => by rw [List.mem_singleton] at hi; subst hi; exact ⟨o, h⟩
theorem have0 {m : Nat → Option O} : ∀ i ∈ ([] : List Nat), ∃ o, m i = some o := fun i hi => by cases hi
theorem FlatI.shape {ty sz : Nat} {rows : List (List D)} {v : Value} {w : World} {F : Nat → Prop} (h : FlatI ty sz rows v w F) : (rows = [] ∧ v = .slice none 0 0) ∨ ∃ ad cap, v = .slice (some ad) rows.length cap ∧ (rows ≠ [] → ad.spot = none) := by
  obtain ⟨h1, h2, h3⟩ := h
  rcases h3 with h3 | ⟨b, base, tot, cs, ad', q1, e, q3, q4, q5, q6, q7, q8⟩
  · exact .inl h3
  · refine .inr ⟨ad', tot, e, fun hr => ?_⟩
    have hpos : 0 < tot := by
      cases rows with
      | nil => exact absurd rfl hr
      | cons r rs => simp at q6; omega
    rw [q3 hpos]

/-- A contract over one array that is lent and written, told by the array's blocks. -/
theorem xOk_lent {P : Program} {f : FuncId} {ty sz : Nat} {rows rows' : List (List D)} {ds : List D} {r : D} {sp : Bool} (hC : CallOk P f (.arr ty sz rows :: ds.map .imm) { res := [.imm r], muts := [.arr ty sz rows'], sep := sp })
    (hr : r.gr = true) (hl : rows'.length = rows.length) (hg : rows'.all (fun r => r.all D.gr) = true) : XOk P f (XI.ext (FlatI ty sz rows) (FlatI ty sz rows')) ds (XR.imm r) [] := by
  obtain ⟨hE, _, _, hC⟩ := hC
  refine ⟨hE, fun w U vs hsz hU hTb _ hI hds => ?_⟩
  obtain ⟨q1, q2, q3⟩ := (show ExtAt (FlatI ty sz rows (vs.getD 0 Go.undef)) w U from hI).now
  have hex : ∃ ol : Option Loc, (∀ l, ol = some l → ∀ b, l.has b → U b) ∧ (∀ (A : Nat → Prop) (β' : Nat → Option Loc) (m' : Nat → Option O), β' 0 = ol → m' 0 = some (.arr ty sz rows) → ObRep w A β' m' 0 (.arr ty sz rows) ∧ AvRep0 w A β' m' (.own 0 0 rows.length) (vs.getD 0 Go.undef)) ∧
      ((ol = none ∧ vs.getD 0 Go.undef = .slice none 0 0) ∨ ∃ b base tot ad, ol = some ⟨b, base, tot, none⟩ ∧ U b ∧ vs.getD 0 Go.undef = .slice (some ad) rows.length tot ∧ (0 < tot → ad = ⟨b, base, none⟩)) := by
    rcases q3 with ⟨rfl, e⟩ | ⟨b, base, tot, cs, ad, f1, e, f3, f4, f5, f6, f7, f8⟩
    · refine ⟨none, (fun l e => by cases e), fun A β' m' e1 e2 => ⟨⟨q1, q2, .inl ⟨e1, rfl⟩⟩, ?_⟩, .inl ⟨rfl, e⟩⟩
      simp only [AvRep0, e2]
      exact ⟨by simp, .inl ⟨e1, e⟩⟩
    · refine ⟨some ⟨b, base, tot, none⟩, fun l e b' hb' => ?_, fun A β' m' e1 e2 => ⟨⟨q1, q2, .inr ⟨_, cs, e1, f4, f5, f6, f7, fun j d hj => f8 j d hj _ _⟩⟩, ?_⟩, .inr ⟨b, base, tot, ad, rfl, f1, e, f3⟩⟩
      · injection e with e
        subst e
        have := Loc.has_none (l := ⟨b, base, tot, none⟩) rfl hb'
        change b = b' at this
        subst this
        exact f1
      · simp only [AvRep0, e2]
        exact ⟨by simp, .inr ⟨_, ad, e1, by simp [e], Nat.zero_le _, fun h0 => by simpa using f3 h0⟩⟩
  obtain ⟨ol, g1, g2, g3⟩ := hex
  have hm0 : ∀ i o, inM (In.arr ty sz rows :: ds.map In.imm) i = some o → i = 0 ∧ o = .arr ty sz rows := fun i o hi => by
    cases i with
    | zero => injection hi with hi; exact ⟨rfl, hi.symm⟩
    | succ i =>
      unfold inM at hi
      rw [lent_ins] at hi
      cases h : ds[i]? <;> rw [h] at hi <;> cases hi
  have hBl : ∀ b, Bl (fun _ => False) (fun i => if i = 0 then ol else none) (inM (In.arr ty sz rows :: ds.map In.imm)) b → U b := fun b hb => by
    rcases hb with hb | ⟨i, o, l, h1, _, h3, h4⟩
    · exact hb.elim
    · obtain ⟨rfl, _⟩ := hm0 i o h1
      exact g1 l h3 b h4
  have hsim : Sim w (fun _ => False) [ol] (fun i => if i = 0 then ol else none) (inS (In.arr ty sz rows :: ds.map In.imm) vs.size) ⟨vs, []⟩ w := by
    refine { size := rfl, defers := rfl, slot := fun i => ?_, ob := fun id o ho => ?_, inj := fun id id' o o' l l' b h1 _ _ h2 _ _ _ _ => (hm0 _ _ h1).1.trans (hm0 _ _ h2).1.symm, new := fun id o l h1 _ h3 b hb => ?_, fr := Fr.refl _ _ fun g cs hgg => ⟨(hTb g cs hgg).1, fun l hll hh => ?_⟩, lt := fun b h => h.elim, pm := ?_ }
    · cases i with
      | zero => exact (g2 (Bl (fun _ => False) (fun i => if i = 0 then ol else none) (inM (In.arr ty sz rows :: ds.map In.imm))) (fun i => if i = 0 then ol else none) (inM (In.arr ty sz rows :: ds.map In.imm)) rfl rfl).2
      | succ i =>
        show AvRep w _ _ (inM (In.arr ty sz rows :: ds.map In.imm)) (inT (In.arr ty sz rows :: ds.map In.imm) (i + 1)) _
        unfold inT
        rw [lent_ins]
        cases hd : ds[i]? with
        | none =>
          have : vs.size ≤ i + 1 := by rw [hsz]; have := List.getElem?_eq_none_iff.1 hd; omega
          show vs.getD (i + 1) Go.undef = Go.undef
          simp [Array.getD, Nat.not_lt.2 this]
        | some d =>
          obtain ⟨B, h1, h2⟩ := hds i d hd
          exact Rep.keep ⟨Nat.le_refl _, fun _ _ _ => rfl, fun b _ hB hB' => hB (h1 b (hBl b hB'))⟩ h2
    · obtain ⟨rfl, rfl⟩ := hm0 id o ho
      exact (g2 (Bl (fun _ => False) (fun i => if i = 0 then ol else none) (inM (In.arr ty sz rows :: ds.map In.imm))) (fun i => if i = 0 then ol else none) (inM (In.arr ty sz rows :: ds.map In.imm)) rfl rfl).1
    · obtain ⟨rfl, rfl⟩ := hm0 id o h1
      have h3 : ol = some l := h3
      exact ⟨hU b (g1 l h3 b hb), fun h => h, .inr ⟨l, by rw [h3]; simp, hb⟩⟩
    · simp only [List.mem_singleton] at hll
      exact (hTb g cs hgg).2 (g1 l hll.symm g hh)
    · have hpme : (inS (In.arr ty sz rows :: ds.map In.imm) vs.size).pm = [0] := lent_mutIdx
      refine ⟨by rw [hpme]; rfl, fun i id hi => ?_⟩
      rw [hpme] at hi
      cases i with
      | zero => injection hi with hi; subst hi; exact ⟨rfl, _, rfl⟩
      | succ i => cases hi
  refine (hC w _ [ol] _ vs hsim (by simp [hsz])).mono ?_
  rintro e w' ⟨vals, β', rfl, hS⟩
  have hv1 : vals.size = 1 := hS.size
  have h0 : Rep w' _ (vals.getD 0 Go.undef) r := hS.slot 0
  have hpm : β' 0 = ol := by
    have hpme : (outS (In.arr ty sz rows :: ds.map In.imm) { res := [.imm r], muts := [O.arr ty sz rows'], sep := sp }).pm = [0] := lent_mutIdx
    have := (hS.pm.2 0 0 (by rw [hpme]; rfl)).1
    injection this with this
    exact this.symm
  have hob : ObRep w' _ β' _ 0 (.arr ty sz rows') := hS.ob 0 _ rfl
  obtain ⟨p1, p2, p3⟩ := hob
  have hgr : ∀ (j : Nat) (d : D), rows'.flatten[j]? = some d → d.gr = true := fun j d hj => by
    obtain ⟨r, hr, hd⟩ := List.mem_flatten.1 (List.mem_of_getElem? hj)
    exact List.all_eq_true.1 (List.all_eq_true.1 hg r hr) d hd
  have hJ : FlatI ty sz rows' (vs.getD 0 Go.undef) w' (foot ol) := by
    refine ⟨p1, p2, ?_⟩
    rcases g3 with ⟨e1, e2⟩ | ⟨b, base, tot, ad, e1, e2, e3, e4⟩
    · rcases p3 with ⟨_, e5⟩ | ⟨l, cs, e5, _⟩
      · exact .inl ⟨e5, e2⟩
      · rw [hpm, e1] at e5; cases e5
    · rcases p3 with ⟨e5, _⟩ | ⟨l, cs, e5, f1, f2, f3, f4, f5⟩
      · rw [hpm, e1] at e5; cases e5
      · rw [hpm, e1] at e5
        injection e5 with e5
        subst e5
        exact .inr ⟨b, base, tot, cs, ad, ⟨_, e1, .inl rfl⟩, by rw [e3, hl], e4, f1, f2, f3, f4, fun j d hj w2 B => (f5 j d hj).gr (hgr j d hj)⟩
  have hfl : ∀ b, foot ol b → U b := fun b ⟨l, h1, h2⟩ => g1 l h1 b h2
  refine ⟨vals, fun _ => False, foot ol, rfl, by rw [hv1]; rfl, ⟨hS.fr.os, hS.fr.tape, hS.fr.output, hS.fr.size, hS.fr.drawn, fun b hb hn => hS.fr.blk b hb fun l hll hh => hn ?_⟩, fun b hb => ?_, fun b hb => hb.1, ⟨fun w2 B => h0.gr hr, noI_at (vals.getD 0 Go.undef) _ _⟩, hJ.ext, fun j d hj => by simp at hj⟩
  · simp only [List.mem_singleton] at hll
    exact g1 l hll.symm b hh
  · rcases hb with hb | hb
    · exact hb.elim
    · exact ⟨Nat.lt_of_lt_of_le (hU b (hfl b hb)) hS.fr.size, .inr (hfl b hb)⟩

section
variable {σ : S} {ids : List Nat}
/-- An array of our own, looked at. -/
theorem look_own {id off len ty sz : Nat} {rows : List (List D)} (hm : σ.m id = some (.arr ty sz rows)) (hid : id ∈ ids) : LookA σ ids (.own id off len) (.list ((rows.drop off).take len)) := by
  intro w0 A locs β a w v hS hv
  refine own_view hS hm hv (fun b _ hB hB' => hB hB'.1) fun l hl hB' => hB'.2 ⟨id, hid, _, l, hm, rfl, hl, l.self⟩
/-- A clean region, looked at. -/
theorem look_tv {id : Nat} {d : D} (hm : σ.m id = some (.reg true)) (hid : id ∈ ids) : LookA σ ids (.tv id d) d := by
  intro w0 A locs β a w v hS hv
  have hrd := tv_rd hm hv
  cases hβi : β id with
  | none => rw [hβi] at hrd; exact hrd _ _
  | some l =>
    rw [hβi] at hrd
    obtain ⟨r, hrg, hrep⟩ := hrd
    rcases hS.ob id _ hm with hn | ⟨l', r', s1, s2, s3, s4⟩
    · rw [hβi] at hn; cases hn
    · rw [hβi] at s1; injection s1 with s1; subst s1
      rw [hrg] at s2; injection s2 with s2; subst s2
      refine Rep.keep ⟨s3, fun b _ hb => ?_, fun b _ hb hB' => hB'.2 ⟨id, hid, _, l, hm, rfl, hβi, .inr ⟨r, hrg, Classical.byContradiction hb⟩⟩⟩ hrep
      rcases s4 b (Classical.byContradiction hb) with s5 | ⟨s5, _⟩
      · exact s5
      · cases s5
end
end Go.Am

