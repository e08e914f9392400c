/- The abstract machine: strings.Builder as an object that is told by its blocks alone. -/
import Derived.Test.YtekilollacmajaaGreatDoorAmY
import Derived.Test.YtekilollacmajaaGreatDoorAmX
import Derived.Test.YtekilollacmajaaGreatDoorAmU
namespace Go.Am
open Go Go.Proofs Go.Shelf Go.RowKit

theorem ownsRowF_blocks {w w' : World} {base : Nat} {e : TypeId} {v : Value} {n : Nat} {xs : List Value} (h : w.ownsRowF base e 1 v n xs) (hb : ∀ g, v.ownBlock = some g → w'.heap[g]? = w.heap[g]?) : w'.ownsRowF base e 1 v n xs := by
  obtain ⟨h1, h2⟩ := h
  refine ⟨h1, ?_⟩
  rcases h2 with h2 | ⟨g, cap, cur, fz, rfl, h3, h4, h5⟩
  · exact .inl h2
  · exact .inr ⟨g, cap, cur, fz, rfl, h3, (hb g rfl).trans h4, h5⟩

theorem rep_other {w : World} {B : Nat → Prop} {v x : Value} (h : Rep w B v (.other x)) : v = x := by
  generalize hd : D.other x = d at h
  cases h <;> first | (injection hd with hd; exact hd.symm) | cases hd

/-- A builder in block b that holds these bytes. -/
def BldI (T e : TypeId) (b : Nat) (acc : List UInt8) : World → Loc → Prop := fun w l =>
  l.b = b ∧ ∃ p v, Bld T e b p v (Lib.byteCells acc) w ∧ (p = .pointer none ∨ p = .pointer (some ⟨b, 0, none⟩)) ∧ (acc = [] → v = .slice none 0 0) ∧ ∀ k, v.ownBlock = some k → l.has k

theorem bldI_ext {T e : TypeId} {b : Nat} {acc : List UInt8} {w : World} {l : Loc} (h : BldI T e b acc w l) : ExtAt (BldI T e b acc) w l := by
  intro w' hb hs
  obtain ⟨h1, p, v, ⟨h2, h3, h4⟩, h5, h6, h7⟩ := h
  exact ⟨h1, p, v, ⟨(hb b (by rw [← h1]; exact l.self)).trans h2, ownsRowF_blocks h3 fun g hg => hb g (h7 g hg), h4⟩, h5, h6, h7⟩

section
variable {P : Program} {Tt : TypeId → Option TI} {t : Nat → AV} {m : Nat → Option O} {ep n : Nat} {pm : List Nat} {k : S → Prop} {ρ : Ren}
variable {ops : Array Oper} {rest : List Oper} {d : Nat} {ty : TypeId} {pos : String} {after : Array Edge}

theorem dst_lt {d n : Nat} (h : dstOk (some d) n = true) : ∀ d', some d = some d' → d' < n := fun d' e => by
  injection e with e
  subst e
  exact dstOk_at h

theorem goneM_one (m : Nat → Option O) (id : Nat) : goneM m [id] = upd m id (some .gone) := by
  funext i
  unfold goneM upd
  by_cases e : i = id
  · simp [e]
  · simp [e]
theorem goneM_nil (m : Nat → Option O) : goneM m [] = m := by funext i; simp [goneM]

theorem go_bldA {T e : TypeId} (hz : ∀ w, (zeroValue T).run P w = .ok (Value.agg #[Value.pointer none, Value.slice none 0 0]) w) (hd : dstOk (some d) n = true) (hm : m (nid ep d) = none)
    (h : ∀ b, amOps P Tt ops rest ⟨putT t (some d) (.imm (.other (.pointer (some ⟨b, 0, none⟩)))), upd m (nid ep d) (some (.ext (BldI T e b []))), ep, n, pm⟩ k) :
    amOps P Tt ops (⟨some d, .alloc T, ty, pos, after, none⟩ :: rest) ⟨t, m, ep, n, pm⟩ k := by
  refine go_ext ?_
  intro w0 A locs β a w hs next Q hnext
  have hw1 : (w.alloc (.cells #[.pointer none, .slice none 0 0] T)).heap[w.heap.size]? = some (.cells #[.pointer none, .slice none 0 0] T (0, 0)) := heap_alloc_at _ _
  have hs2 := hs.regroup (w' := w.alloc (.cells #[.pointer none, .slice none 0 0] T)) (ids := []) (id' := nid ep d) (o' := .ext (BldI T e w.heap.size [])) (l' := ⟨w.heap.size, 0, 0, none⟩) hm (by simp)
    (by rw [size_alloc]; omega) rfl rfl rfl (Nat.le_refl _) (fun b hb _ => heap_alloc_lt _ _ hb) (fun b hb => by
      have hb := Loc.has_none (l := ⟨w.heap.size, 0, 0, none⟩) rfl hb
      change w.heap.size = b at hb
      subst hb
      exact ⟨by rw [size_alloc]; omega, .inl (Nat.le_refl _)⟩)
    (fun B' β' m' _ _ hβ _ => ⟨_, hβ, bldI_ext ⟨rfl, _, _, ⟨hw1, ⟨rfl, .inl ⟨rfl, rfl⟩⟩, by simp [Value.ownBlock]⟩, .inl rfl, fun _ => rfl, fun k hk => by simp [Value.ownBlock] at hk⟩⟩)
  simp only [goneM_nil] at hs2
  have hrun : (execOp a.eval ⟨some d, .alloc T, ty, pos, after, none⟩).run P w = .ok (.value (.pointer (some ⟨w.heap.size, 0, none⟩))) (w.alloc (.cells #[.pointer none, .slice none 0 0] T)) := by
    simp [execOp, Instr.alloc, hz, newVar, newRow, Value.cells]
  unfold Oper.wp
  rw [hrun]
  exact hnext _ (h w.heap.size) _ _ _ (hs2.put (dst := some d) (av := .imm (.other (.pointer (some ⟨w.heap.size, 0, none⟩)))) (v := .pointer (some ⟨w.heap.size, 0, none⟩)) (dst_lt hd) (.other _))

/-- A call of a function whose value is written out. -/
theorem call_run {f : FuncId} (he : Am.Enters P f) {a : Act} {w : World} {dst : Option Nat} {args : Array Operand} {ts : Array TypeId} :
    (execOp a.eval ⟨dst, .call { callee := .value (.func f), args := args, argTypes := ts }, ty, pos, after, none⟩).run P w = .ok (.enter f (args.map a.eval)) w := by
  obtain ⟨fn, hfn, hname, hbody⟩ := he
  have hcf : ∀ (vs : Array Value), (callFunc f vs).run P w = .ok (.enter f vs) w := fun vs => by
    have hb : ¬ fn.body = none := fun e => by rw [e] at hbody; cases hbody
    have hname' : ¬ fn.name = "runtime.NumGoroutine" := by simpa using hname
    simp [callFunc, hfn, hname', hb]
  have hfe : a.eval (.func f) = .func (.func f) #[] #[] := rfl
  simp only [execOp, resolve, Deferred.ofValue, hfe, Sem.run_bind, Sem.run_pure, Result.andThen_ok, invoke, Array.empty_append, hcf, Array.append_empty]

/-- What a builder's writing does to its object. -/
theorem bld_step {w0 w w' : World} {A : Nat → Prop} {locs : List (Option Loc)} {β : Nat → Option Loc} {σ : S} {a : Act} (hs : Sim w0 A locs β σ a w) {T e : TypeId} {b id id' : Nat} {acc acc' : List UInt8} {l : Loc} {v v' : Value}
    (hm : σ.m id = some (.ext (BldI T e b acc))) (hm' : σ.m id' = none) (hβ : β id = some l) (hlb : l.b = b) (hin : ∀ k, v.ownBlock = some k → l.has k)
    (h1 : Bld T e b (.pointer (some ⟨b, 0, none⟩)) v' (Lib.byteCells acc') w') (h2 : BldFr b v w w') (h3 : ∀ k, v'.ownBlock = some k → v.ownBlock = some k ∨ w.heap.size ≤ k) (h4 : acc' = [] → v' = .slice none 0 0) (hd : w.drawn ≤ w'.drawn) :
    Sim w0 A locs (upd β id' (some ⟨b, 0, 0, some (fun k => v'.ownBlock = some k, w)⟩)) { σ with m := upd (upd σ.m id (some .gone)) id' (some (.ext (BldI T e b acc'))) } a w' := by
  have hof : ∀ k, l.has k → OfIds β σ.m [id] k := fun k hk => ⟨id, by simp, _, l, hm, rfl, hβ, hk⟩
  rw [← goneM_one]
  refine hs.regroup (w' := w') (ids := [id]) (id' := id') (o' := .ext (BldI T e b acc')) (l' := ⟨b, 0, 0, some (fun k => v'.ownBlock = some k, w)⟩) hm' (fun i hi => by simp at hi; subst hi; exact ⟨_, hm⟩) h2.size h2.os h2.tape h2.output hd ?_ ?_ ?_
  · intro k hk hn
    refine h2.block k hk (fun e => hn (hof k ?_)) (fun e => hn (hof k (hin k e)))
    rw [e, ← hlb]
    exact l.self
  · rintro k (hk | ⟨r, hr, hk⟩)
    · change b = k at hk
      subst hk
      exact ⟨h1.lt, .inr (hof _ (by rw [← hlb]; exact l.self))⟩
    · injection hr with hr
      subst hr
      refine ⟨(h1.own.lt k hk).2, ?_⟩
      rcases h3 k hk with h5 | h5
      · exact .inr (hof k (hin k h5))
      · exact .inl h5
  · intro B' β' m' _ _ hβ' _
    exact ⟨_, hβ', bldI_ext ⟨rfl, _, _, h1, .inr rfl, h4, fun k hk => .inr ⟨_, rfl, hk⟩⟩⟩

theorem go_bldW (L : Lays.n166 P ρ) (X : Builder.Extra P ρ) (he : Am.Enters P (ρ.f 166)) {F : FuncId} {T e : TypeId} (hF : ρ.f 166 = F) (hT : ρ.t 72 = T) (hE : ρ.t 5 = e) {x y : Operand} {ts : Array TypeId} {b id : Nat} {acc : List UInt8} {s : ByteArray}
    (hx : evT t x = .imm (.other (.pointer (some ⟨b, 0, none⟩)))) (hy : evT t y = .imm (.str s)) (hm : m id = some (.ext (BldI T e b acc))) (hm' : m (nid ep d) = none) (hd : dstOk (some d) n = true) (hlen : acc.length + s.size ≤ 140737488355328)
    (h : forceM m [(id, .gone), (nid ep d, .ext (BldI T e b (acc ++ s.data.toList)))] fun m' => amOps P Tt ops rest ⟨putT t (some d) .dead, m', ep, n, pm⟩ k) :
    amOps P Tt ops (⟨some d, .call { callee := .value (.func F), args := #[x, y], argTypes := ts }, ty, pos, after, none⟩ :: rest) ⟨t, m, ep, n, pm⟩ k := by
  subst hF hT hE
  rw [forceM_eq] at h
  refine go_ext ?_
  intro w0 A locs β a w hs next Q hnext
  have vx := hs.ev x
  have vy := hs.ev y
  rw [ev_eq] at vx vy
  change AvRep _ _ _ _ (evT t x) _ at vx
  change AvRep _ _ _ _ (evT t y) _ at vy
  rw [hx] at vx
  rw [hy] at vy
  have ex : a.eval x = .pointer (some ⟨b, 0, none⟩) := rep_other vx
  have ey : a.eval y = .string s := rep_str vy
  obtain ⟨l, hβ, hI⟩ := hs.ob id _ hm
  obtain ⟨hlb, p, v, hB, hp, hnil, hin⟩ := hI.now
  unfold Oper.wp
  rw [call_run he, Oper.upon_enter]
  have hargs : (#[x, y].map a.eval) = #[.pointer (some ⟨b, 0, none⟩), .string s] := by simp [ex, ey]
  rw [hargs]
  refine (calls_drawn (writeString_x L X b s w hB hp (by rw [Lib.byteCells_length]; exact hlen))).mono ?_
  rintro e w' ⟨⟨rfl, v', h1, h2, h3, h4⟩, hdr⟩
  rw [Lib.strCells_eq, ← Lib.byteCells_append] at h1
  have hs2 := bld_step (a := a) (acc' := acc ++ s.data.toList) hs hm hm' hβ hlb hin h1 h2 h3 (fun e0 => by
    have e1 := List.append_eq_nil_iff.1 e0
    refine h4.2 ⟨hnil e1.1, ?_⟩
    have : s.data.size = 0 := by simpa using congrArg List.length e1.2
    exact this) (hdr _ rfl)
  exact hnext _ h _ _ _ (hs2.put (dst := some d) (av := .dead) (dst_lt hd) trivial)

theorem go_bldB (L : Lays.n167 P ρ) (X : Builder.Extra P ρ) (he : Am.Enters P (ρ.f 167)) {F : FuncId} {T e : TypeId} (hF : ρ.f 167 = F) (hT : ρ.t 72 = T) (hE : ρ.t 5 = e) {x y : Operand} {ts : Array TypeId} {b id : Nat} {acc : List UInt8} {c : UInt8}
    (hx : evT t x = .imm (.other (.pointer (some ⟨b, 0, none⟩)))) (hy : evT t y = .imm (.int .u8 (c.toNat : Int))) (hm : m id = some (.ext (BldI T e b acc))) (hm' : m (nid ep d) = none) (hd : dstOk (some d) n = true) (hlen : acc.length + 1 ≤ 140737488355328)
    (h : forceM m [(id, .gone), (nid ep d, .ext (BldI T e b (acc ++ [c])))] fun m' => amOps P Tt ops rest ⟨putT t (some d) .dead, m', ep, n, pm⟩ k) :
    amOps P Tt ops (⟨some d, .call { callee := .value (.func F), args := #[x, y], argTypes := ts }, ty, pos, after, none⟩ :: rest) ⟨t, m, ep, n, pm⟩ k := by
  subst hF hT hE
  rw [forceM_eq] at h
  refine go_ext ?_
  intro w0 A locs β a w hs next Q hnext
  have vx := hs.ev x
  have vy := hs.ev y
  rw [ev_eq] at vx vy
  change AvRep _ _ _ _ (evT t x) _ at vx
  change AvRep _ _ _ _ (evT t y) _ at vy
  rw [hx] at vx
  rw [hy] at vy
  have ex : a.eval x = .pointer (some ⟨b, 0, none⟩) := rep_other vx
  have ey : a.eval y = .int .u8 (c.toNat : Int) := rep_int vy
  obtain ⟨l, hβ, hI⟩ := hs.ob id _ hm
  obtain ⟨hlb, p, v, hB, hp, hnil, hin⟩ := hI.now
  unfold Oper.wp
  rw [call_run he, Oper.upon_enter]
  have hargs : (#[x, y].map a.eval) = #[.pointer (some ⟨b, 0, none⟩), .int .u8 (c.toNat : Int)] := by simp [ex, ey]
  rw [hargs]
  refine (calls_drawn (writeByte_x L X b (c.toNat : Int) w hB hp (by rw [Lib.byteCells_length]; exact hlen))).mono ?_
  rintro e w' ⟨⟨rfl, v', h1, h2, h3, h4⟩, hdr⟩
  have e1 : Lib.byteCells acc ++ [Value.int .u8 (c.toNat : Int)] = Lib.byteCells (acc ++ [c]) := by rw [Lib.byteCells_append]; rfl
  rw [e1] at h1
  have hs2 := bld_step (a := a) (acc' := acc ++ [c]) hs hm hm' hβ hlb hin h1 h2 h3 (fun e0 => by simp at e0) (hdr _ rfl)
  exact hnext _ h _ _ _ (hs2.put (dst := some d) (av := .dead) (dst_lt hd) trivial)

theorem go_bldS (L : Lays.n169 P ρ) (X : Builder.Extra P ρ) (he : Am.Enters P (ρ.f 169)) {F : FuncId} {T e : TypeId} (hF : ρ.f 169 = F) (hT : ρ.t 72 = T) (hE : ρ.t 5 = e) {x : Operand} {ts : Array TypeId} {b id : Nat} {acc : List UInt8}
    (hx : evT t x = .imm (.other (.pointer (some ⟨b, 0, none⟩)))) (hm : m id = some (.ext (BldI T e b acc))) (hd : dstOk (some d) n = true)
    (h : forceM m [(id, .gone)] fun m' => amOps P Tt ops rest ⟨putT t (some d) (.imm (.str ⟨acc.toArray⟩)), m', ep, n, pm⟩ k) :
    amOps P Tt ops (⟨some d, .call { callee := .value (.func F), args := #[x], argTypes := ts }, ty, pos, after, none⟩ :: rest) ⟨t, m, ep, n, pm⟩ k := by
  subst hF hT hE
  rw [forceM_eq] at h
  refine go_ext ?_
  intro w0 A locs β a w hs next Q hnext
  have vx := hs.ev x
  rw [ev_eq] at vx
  change AvRep _ _ _ _ (evT t x) _ at vx
  rw [hx] at vx
  have ex : a.eval x = .pointer (some ⟨b, 0, none⟩) := rep_other vx
  obtain ⟨l, hβ, hI⟩ := hs.ob id _ hm
  obtain ⟨hlb, p, v, hB, hp, hnil, hin⟩ := hI.now
  unfold Oper.wp
  rw [call_run he, Oper.upon_enter]
  have hargs : (#[x].map a.eval) = #[.pointer (some ⟨b, 0, none⟩)] := by simp [ex]
  rw [hargs]
  have hc : Calls P (ρ.f 169) #[.pointer (some ⟨b, 0, none⟩)] w fun e w' => e = .returned (.string ⟨acc.toArray⟩) ∧ BldFr b v w w' := by
    by_cases h0 : acc = []
    · subst h0
      obtain rfl := hnil rfl
      exact string_nil_x L X b w hB
    · exact string_x L X b acc w hB h0
  refine (calls_drawn hc).mono ?_
  rintro e w' ⟨⟨rfl, h2⟩, hdr⟩
  have hof : ∀ k, l.has k → OfIds β m [id] k := fun k hk => ⟨id, by simp, _, l, hm, rfl, hβ, hk⟩
  have hs2 := hs.lose (w' := w') (ids := [id]) (fun i hi => by simp at hi; subst hi; exact ⟨_, hm⟩) h2.size h2.os h2.tape h2.output (hdr _ rfl) (fun k hk hn => by
    refine h2.block k hk (fun e => hn (hof k ?_)) (fun e => hn (hof k (hin k e)))
    rw [e, ← hlb]
    exact l.self)
  rw [goneM_one] at hs2
  refine hnext _ h β _ _ ?_
  exact hs2.put (dst := some d) (av := .imm (.str ⟨acc.toArray⟩)) (dst_lt hd) (.str _)
end
end Go.Am

