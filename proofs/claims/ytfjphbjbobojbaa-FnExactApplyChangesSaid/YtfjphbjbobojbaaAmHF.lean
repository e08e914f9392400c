/- The abstract machine: flat arrays as objects that are told by their blocks, with the very value of the slice; many of them at once. -/
import Derived.Test.YtfjphbjbobojbaaAmH
namespace Go.Am
open Go

theorem rep_oth {w : World} {B : Nat → Prop} {v x : Value} (h : Rep w B v (.other x)) : v = x := by
  generalize hd : D.other x = d at h
  cases h <;> first | (injection hd with hd; exact hd.symm) | cases hd

/-- The slice v holds these rows, in a block of its own. -/
def FlatI (ty sz : Nat) (rows : List (List D)) : VI := fun v w F =>
  (∀ r ∈ rows, r.length = sz) ∧ 0 < sz ∧ ((rows = [] ∧ v = .slice none 0 0) ∨
    ∃ (b base tot : Nat) (cs : Array Value) (ad : Addr), F b ∧ v = .slice (some ad) rows.length tot ∧ (0 < tot → ad = ⟨b, base, none⟩) ∧ w.heap[b]? = some (.cells cs ty (0, 0)) ∧
      cs.size = base + tot * sz ∧ rows.length ≤ tot ∧ tot ≤ maxLen ∧ ∀ (j : Nat) (d : D), rows.flatten[j]? = some d → ∀ (w2 : World) (B : Nat → Prop), Rep w2 B (cs.getD (base + j) Go.undef) d)

section
variable {ty sz : Nat} {rows : List (List D)} {v : Value} {w : World} {F F' : Nat → Prop}
theorem FlatI.ext (h : FlatI ty sz rows v w F) : ExtAt (FlatI ty sz rows v) w F := by
  intro w' hb _
  obtain ⟨h1, h2, h3⟩ := h
  refine ⟨h1, h2, ?_⟩
  rcases h3 with h3 | ⟨b, base, tot, cs, ad, q1, q2, q3, q4, q5⟩
  · exact .inl h3
  · exact .inr ⟨b, base, tot, cs, ad, q1, q2, q3, (hb b q1).trans q4, q5⟩
theorem FlatI.mono (h : FlatI ty sz rows v w F) (hF : ∀ b, F b → F' b) : FlatI ty sz rows v w F' := by
  obtain ⟨h1, h2, h3⟩ := h
  refine ⟨h1, h2, ?_⟩
  rcases h3 with h3 | ⟨b, base, tot, cs, ad, q1, q2⟩
  · exact .inl h3
  · exact .inr ⟨b, base, tot, cs, ad, hF b q1, q2⟩
theorem FlatI.one (h : FlatI ty sz rows v w F) : v.oneCell' = true := by
  rcases h.2.2 with ⟨_, rfl⟩ | ⟨b, base, tot, cs, ad, _, rfl, _⟩ <;> rfl
theorem FlatI.rep (h : FlatI ty sz rows v w F) {B : Nat → Prop} (hB : ∀ b, F b → ¬ B b) : Rep w B v (.list rows) := by
  obtain ⟨h1, h2, h3⟩ := h
  rcases h3 with ⟨rfl, rfl⟩ | ⟨b, base, tot, cs, ad, q1, rfl, q3, q4, q5, q6, q7, q8⟩
  · exact .nil _ _
  · by_cases h0 : rows.length = 0
    · have : rows = [] := List.eq_nil_of_length_eq_zero h0
      subst this
      exact .nil _ _
    · have had := q3 (by omega)
      subst had
      have hfl : rows.flatten.length = rows.length * sz := flat_len rows h1
      have hmul : rows.length * sz ≤ tot * sz := Nat.mul_le_mul_right _ q6
      refine .list _ _ _ rows sz (fun j => cs.getD (base + j) Go.undef) rfl q6 h1 (lt_of_cells q4) (hB b q1) rfl (fun j d hj => ?_) (fun j d hj => q8 j d hj _ _)
      have hjl := (List.getElem?_eq_some_iff.1 hj).1
      rw [add_spot rfl]
      exact ⟨run_load_at q4 (by show base + j < _; omega), thaw q4⟩
end

section
variable {w0 w : World} {A : Nat → Prop} {locs : List (Option Loc)} {β : Nat → Option Loc} {σ : S} {a : Act}

/-- An array of our own, told by its blocks. -/
theorem arr_flat (h : Sim w0 A locs β σ a w) {id ty sz len : Nat} {rows : List (List D)} {v : Value} (hm : σ.m id = some (.arr ty sz rows)) (hl : len = rows.length) (hg : rows.all (fun r => r.all D.gr) = true)
    (hv : AvRep0 w (Bl A β σ.m) β σ.m (.own id 0 len) v) : FlatI ty sz rows v w (OfIds β σ.m [id]) := by
  subst hl
  obtain ⟨h1, h2, h3⟩ := h.ob id _ hm
  simp only [AvRep0, hm] at hv
  obtain ⟨_, hv⟩ := hv
  refine ⟨h1, h2, ?_⟩
  have hgr : ∀ (j : Nat) (d : D), rows.flatten[j]? = some d → d.gr = true := fun j d hj => by
    obtain ⟨r, hr, hd⟩ := List.mem_flatten.1 (List.mem_of_getElem? hj)
    exact List.all_eq_true.1 (List.all_eq_true.1 hg r hr) d hd
  rcases hv with ⟨hβ, rfl⟩ | ⟨l, ad, hβ, rfl, _, had⟩
  · rcases h3 with ⟨_, hr⟩ | ⟨l, cs, hβ', _⟩
    · exact .inl ⟨hr, rfl⟩
    · rw [hβ] at hβ'; cases hβ'
  · rcases h3 with ⟨hβ', _⟩ | ⟨l', cs, hβ', q1, q2, q3, q4, q5⟩
    · rw [hβ] at hβ'; cases hβ'
    · rw [hβ] at hβ'; injection hβ' with hβ'; subst hβ'
      refine .inr ⟨l.b, l.base, l.tot, cs, ad, ⟨id, by simp, _, l, hm, rfl, hβ, l.self⟩, by simp, fun h0 => ?_, q1, q2, q3, q4, fun j d hj w2 B => (q5 j d hj).gr (hgr j d hj)⟩
      have := had h0
      simpa using this
end

section
variable {P : Program} {T : TypeId → Option TI} {t : Nat → AV} {m : Nat → Option O} {ep n : Nat} {pm : List Nat} {k : S → Prop}
variable {ops : Array Oper} {rest : List Oper} {dst : Option Nat} {op : Op} {oty : TypeId} {pos : String} {after : Array Edge}

/-- An object's data, looked at. -/
theorem look_ext {σ : S} {ids : List Nat} {id : Nat} {I : World → (Nat → Prop) → Prop} {v : Value} {d : D} (hm : σ.m id = some (.ext I)) (hid : id ∈ ids) (hI : ∀ w F B, I w F → (∀ b, F b → ¬ B b) → Rep w B v d) : LookA σ ids (.imm (.other v)) d := by
  intro w0 A locs β a w u hS hu
  have hu : u = v := rep_oth hu
  subst hu
  have hob : ExtAt I w (foot (β id)) := hS.ob id _ hm
  refine hI w (foot (β id)) _ hob.now fun b hb hn => hn.2 ?_
  obtain ⟨l, h1, h2⟩ := hb
  exact ⟨id, hid, _, l, hm, rfl, h1, h2⟩

variable {d : Nat}
/-- A call that looks at objects told by their blocks. -/
theorem ext_xlook {g : Option (Nat × Bool)} {f : FuncId} {ds : List D} {r : D} {sp : Bool} (hC : CallOk P f (ds.map .imm) { res := [.imm r], sep := sp }) (hr : r.gr = true) (ids : List Nat) {args : Array Operand} {ts : Array TypeId}
    (ha : LookAll ⟨t, m, ep, n, pm⟩ ids (args.toList.map (evT t)) ds) (hd : dstOk (some d) n = true)
    (h : amOps P T ops rest ⟨putT t (some d) (.imm r), m, ep, n, pm⟩ k) :
    ExtOp P ⟨some d, .call { callee := .value (.func f), args := args, argTypes := ts }, oty, pos, after, g⟩ ⟨t, m, ep, n, pm⟩ fun σ' => amOps P T ops rest σ' k := by
  intro w0 A locs β a w hs next Q hnext
  obtain ⟨hE, _, _, hC⟩ := hC
  obtain ⟨l1, l2⟩ := lookAll_at ha
  have hlen : args.size = ds.length := by simpa using l1
  have hat : ∀ (i : Nat) (d : D), ds[i]? = some d → Rep w (fun b => Bl A β m b ∧ ¬ OfIds β m ids b) ((args.map a.eval).getD i Go.undef) d := fun i d hi => by
    obtain ⟨av, e1, e2⟩ := l2 i d hi
    rw [List.getElem?_map] at e1
    obtain ⟨x, hx, rfl⟩ := Option.map_eq_some_iff.1 e1
    have h6 : (args.map a.eval).getD i Go.undef = a.eval x := by
      have : args[i]? = some x := by simpa using hx
      simp [Array.getD_eq_getD_getElem?, this]
    rw [h6]
    exact e2 _ _ _ _ _ _ _ hs (evT_eval hs x)
  unfold Oper.wp
  have hrun : (execOp a.eval ⟨some d, .call { callee := .value (.func f), args := args, argTypes := ts }, oty, pos, after, g⟩).run P w = .ok (.enter f (args.map a.eval)) w := by
    obtain ⟨fn, hfn, hname, hbody⟩ := hE
    have hcf : ∀ (vs : Array Value), (callFunc f vs).run P w = .ok (.enter f vs) w := fun vs => by
      have hb : ¬ fn.body = none := fun e => by rw [e] at hbody; cases hbody
      have hname' : ¬ fn.name = "runtime.NumGoroutine" := by simpa using hname
      simp [callFunc, hfn, hname', hb]
    have hfe : a.eval (.func f) = .func (.func f) #[] #[] := rfl
    simp only [execOp, resolve, Deferred.ofValue, hfe, Sem.run_bind, Sem.run_pure, Result.andThen_ok, invoke, Array.empty_append, hcf, Array.append_empty]
  rw [hrun, Oper.upon_enter]
  have hins : ∀ j, (ds.map In.imm)[j]? = (ds[j]?).map In.imm := fun j => List.getElem?_map
  have hinM : inM (ds.map In.imm) = fun _ => none := by
    funext i
    unfold inM
    rw [hins]
    cases ds[i]? <;> rfl
  have hmi : mutIdx (ds.map In.imm) = [] := by
    unfold mutIdx
    refine List.filter_eq_nil_iff.2 fun i _ => ?_
    rw [hins]
    cases ds[i]? <;> simp [In.isMut]
  have hBl : ∀ b, Bl (fun b => Bl A β m b ∧ ¬ OfIds β m ids b) (fun _ => none) (fun _ => none) b → Bl A β m b ∧ ¬ OfIds β m ids b := fun b hb => by
    rcases hb with hb | ⟨_, _, _, hb, _⟩
    · exact hb
    · cases hb
  have hsim : Sim w (fun b => Bl A β m b ∧ ¬ OfIds β m ids b) [] (fun _ => none) (inS (ds.map In.imm) (args.map a.eval).size) ⟨args.map a.eval, []⟩ w := by
    refine { size := rfl, defers := rfl, slot := fun i => ?_, ob := fun id o ho => ?_, inj := fun id id' o o' l l' b h1 => ?_, new := fun id o l h1 => ?_, fr := Fr.refl _ _ (hs.tb (fun l hl => by cases hl)), lt := fun b h => hs.live_lt b h.1, pm := ?_ }
    · show AvRep w (Bl _ _ (inM (ds.map In.imm))) _ (inM (ds.map In.imm)) (inT (ds.map In.imm) i) ((args.map a.eval).getD i Go.undef)
      rw [hinM]
      unfold inT
      rw [hins]
      cases hdd : ds[i]? with
      | none =>
        have : (args.map a.eval).size ≤ i := by rw [Array.size_map, hlen]; exact List.getElem?_eq_none_iff.1 hdd
        show (args.map a.eval).getD i Go.undef = Go.undef
        simp only [Array.getD_eq_getD_getElem?, Array.getElem?_eq_none this, Option.getD_none]
      | some dd => exact Rep.keep ⟨Nat.le_refl _, fun _ _ _ => rfl, fun b _ hB hB' => hB (hBl b hB')⟩ (hat i dd hdd)
    · have : inM (ds.map In.imm) id = some o := ho
      rw [hinM] at this; cases this
    · have : inM (ds.map In.imm) id = some o := h1
      rw [hinM] at this; cases this
    · have : inM (ds.map In.imm) id = some o := h1
      rw [hinM] at this; cases this
    · refine ⟨by rw [show (inS (ds.map In.imm) (args.map a.eval).size).pm = [] from hmi]; rfl, fun i id h => ?_⟩
      rw [show (inS (ds.map In.imm) (args.map a.eval).size).pm = [] from hmi] at h
      cases h
  refine (hC w _ [] _ _ hsim (by simp [hlen])).mono ?_
  rintro e w' ⟨vals, β', rfl, hS⟩
  have hsz : vals.size = 1 := hS.size
  have h0 : Rep w' _ (vals.getD 0 Go.undef) r := hS.slot 0
  have hfr : StepFr w w' (OfIds β m []) := ⟨hS.fr.os, hS.fr.tape, hS.fr.output, hS.fr.size, hS.fr.drawn, fun b hb _ => hS.fr.blk b hb fun l hl => by cases hl⟩
  obtain ⟨β2, hs2, _⟩ := hs.exts (w' := w') (ids := []) [] (by simp) (fun x hx => by cases hx) (fun i hi => by cases hi) hfr (fun x hx => by cases hx) (fun x hx => by cases hx)
  refine hnext _ h β2 _ _ ?_
  refine hs2.put (dst := some d) (fun d' e => by injection e with e; subst e; exact dstOk_at hd) ?_
  show Rep w' _ (packR vals) r
  unfold packR
  rw [if_pos hsz]
  exact h0.gr hr
end

/-! Many flat arrays, each in a block of its own. -/

def InnI (ty sz : Nat) (xs : List (Value × List (List D))) : World → (Nat → Prop) → Prop := fun w F =>
  ∃ G : Nat → Nat → Prop, (∀ j b, G j b → F b) ∧ (∀ i j b, G i b → G j b → i = j) ∧ ∀ (j : Nat) (x : Value × List (List D)), xs[j]? = some x → FlatI ty sz x.2 x.1 w (G j)
/-- All but one. -/
def InnO (ty sz : Nat) (xs : List (Value × List (List D))) (k : Nat) : World → (Nat → Prop) → Prop := fun w F =>
  ∃ G : Nat → Nat → Prop, (∀ j b, G j b → F b) ∧ (∀ i j b, G i b → G j b → i = j) ∧ ∀ (j : Nat) (x : Value × List (List D)), j ≠ k → xs[j]? = some x → FlatI ty sz x.2 x.1 w (G j)

section
variable {ty sz : Nat} {xs : List (Value × List (List D))} {w : World} {F F' F1 F2 : Nat → Prop} {k : Nat} {x : Value × List (List D)}
theorem InnI.ext (h : InnI ty sz xs w F) : ExtAt (InnI ty sz xs) w F := by
  obtain ⟨G, h1, h2, h3⟩ := h
  exact fun w' hb hs => ⟨G, h1, h2, fun j x hx => (h3 j x hx).ext w' (fun b hG => hb b (h1 j b hG)) hs⟩
theorem InnO.ext (h : InnO ty sz xs k w F) : ExtAt (InnO ty sz xs k) w F := by
  obtain ⟨G, h1, h2, h3⟩ := h
  exact fun w' hb hs => ⟨G, h1, h2, fun j x hk hx => (h3 j x hk hx).ext w' (fun b hG => hb b (h1 j b hG)) hs⟩
theorem InnI.nil (ty sz : Nat) (w : World) (F : Nat → Prop) : InnI ty sz [] w F := ⟨fun _ _ => False, fun _ _ h => h.elim, fun _ _ _ h => h.elim, fun j x h => by simp at h⟩
theorem InnI.mono (h : InnI ty sz xs w F) (hF : ∀ b, F b → F' b) : InnI ty sz xs w F' := by
  obtain ⟨G, h1, h2, h3⟩ := h
  exact ⟨G, fun j b hb => hF b (h1 j b hb), h2, h3⟩
theorem InnI.take (h : InnI ty sz xs w F) (hx : xs[k]? = some x) : ∃ U R : Nat → Prop, (∀ b, U b ∨ R b → F b) ∧ (∀ b, ¬ (U b ∧ R b)) ∧ FlatI ty sz x.2 x.1 w U ∧ InnO ty sz xs k w R := by
  obtain ⟨G, h1, h2, h3⟩ := h
  refine ⟨G k, fun b => ∃ j, j ≠ k ∧ G j b, fun b hb => ?_, fun b hb => ?_, h3 k x hx, fun j b => j ≠ k ∧ G j b, fun j b hb => ⟨j, hb⟩, fun i j b hi hj => h2 i j b hi.2 hj.2, fun j y hj hy => (h3 j y hy).mono fun b hb => ⟨hj, hb⟩⟩
  · rcases hb with hb | ⟨j, _, hb⟩
    · exact h1 k b hb
    · exact h1 j b hb
  · obtain ⟨hb, j, hj, hb2⟩ := hb
    exact hj (h2 j k b hb2 hb)
def updG (G : Nat → Nat → Prop) (k : Nat) (H : Nat → Prop) (j b : Nat) : Prop := (j = k ∧ H b) ∨ (j ≠ k ∧ G j b)
theorem updG_disj {G : Nat → Nat → Prop} (h1 : ∀ j b, G j b → F1 b) (h2 : ∀ i j b, G i b → G j b → i = j) (hd : ∀ b, ¬ (F2 b ∧ F1 b)) : ∀ i j b, updG G k F2 i b → updG G k F2 j b → i = j := by
  rintro i j b (⟨e1, hi⟩ | ⟨e1, hi⟩) (⟨e2, hj⟩ | ⟨e2, hj⟩)
  · omega
  · exact (hd b ⟨hi, h1 j b hj⟩).elim
  · exact (hd b ⟨hj, h1 i b hi⟩).elim
  · exact h2 i j b hi hj
theorem InnO.put {v : Value} {r : List (List D)} (h : InnO ty sz xs k w F1) (hf : FlatI ty sz r v w F2) (hd : ∀ b, ¬ (F2 b ∧ F1 b)) : InnI ty sz (xs.set k (v, r)) w (fun b => F1 b ∨ F2 b) := by
  obtain ⟨G, h1, h2, h3⟩ := h
  refine ⟨updG G k F2, ?_, updG_disj h1 h2 hd, fun j y hy => ?_⟩
  · rintro j b (⟨_, hb⟩ | ⟨_, hb⟩)
    · exact .inr hb
    · exact .inl (h1 j b hb)
  · rw [List.getElem?_set] at hy
    by_cases e : k = j
    · rw [if_pos e] at hy
      split at hy
      · injection hy with hy
        subst hy
        exact hf.mono fun b hb => .inl ⟨e.symm, hb⟩
      · cases hy
    · rw [if_neg e] at hy
      exact (h3 j y (Ne.symm e) hy).mono fun b hb => .inr ⟨Ne.symm e, hb⟩
theorem InnI.add {v : Value} {r : List (List D)} (h : InnI ty sz xs w F1) (hf : FlatI ty sz r v w F2) (hd : ∀ b, ¬ (F2 b ∧ F1 b)) : InnI ty sz (xs ++ [(v, r)]) w (fun b => F1 b ∨ F2 b) := by
  obtain ⟨G, h1, h2, h3⟩ := h
  refine ⟨updG G xs.length F2, ?_, updG_disj h1 h2 hd, fun j y hy => ?_⟩
  · rintro j b (⟨_, hb⟩ | ⟨_, hb⟩)
    · exact .inr hb
    · exact .inl (h1 j b hb)
  · rw [List.getElem?_append] at hy
    split at hy
    · rename_i hl
      exact (h3 j y hy).mono fun b hb => .inr ⟨by omega, hb⟩
    · rename_i hl
      have h4 := (List.getElem?_eq_some_iff.1 hy).1
      simp only [List.length_cons, List.length_nil] at h4
      have : j - xs.length = 0 := by omega
      rw [this] at hy
      injection hy with hy
      subst hy
      exact hf.mono fun b hb => .inl ⟨by omega, hb⟩
end
end Go.Am

