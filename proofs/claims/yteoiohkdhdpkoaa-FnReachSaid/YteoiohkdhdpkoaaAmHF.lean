/- The abstract machine: flat arrays as objects that are told by their blocks, with the very value of the slice; many of them at once. -/
import Derived.Test.YteoiohkdhdpkoaaAmH
namespace Go.Am
open Go

section
variable {w0 w : World} {A : Nat → Prop} {locs : List (Option Loc)} {β : Nat → Option Loc} {σ : S} {a : Act}

/-- An array of our own, told by its blocks. -/
theorem arr_flat (h : Sim w0 A locs β σ a w) {id ty sz len : Nat} {rows : List (List D)} {v : Value} (hm : σ.m id = some (.arr ty sz rows)) (hl : len = rows.length) (hg : rows.all (fun r => r.all D.gr) = true)
    (hv : AvRep0 w (Bl A β σ.m) β σ.m (.own id 0 len) v) : FlatI ty sz rows v w (OfIds β σ.m [id]) := by
  subst hl
  obtain ⟨h1, h2, h3⟩ := h.ob id _ hm
  simp only [AvRep0, hm] at hv
  obtain ⟨_, hv⟩ := hv
  refine ⟨h1, h2, ?_⟩
  have hgr : ∀ (j : Nat) (d : D), rows.flatten[j]? = some d → d.gr = true := fun j d hj => by
    obtain ⟨r, hr, hd⟩ := List.mem_flatten.1 (List.mem_of_getElem? hj)
    exact List.all_eq_true.1 (List.all_eq_true.1 hg r hr) d hd
  rcases hv with ⟨hβ, rfl⟩ | ⟨l, ad, hβ, rfl, _, had⟩
  · rcases h3 with ⟨_, hr⟩ | ⟨l, cs, hβ', _⟩
    · exact .inl ⟨hr, rfl⟩
    · rw [hβ] at hβ'; cases hβ'
  · rcases h3 with ⟨hβ', _⟩ | ⟨l', cs, hβ', q1, q2, q3, q4, q5⟩
    · rw [hβ] at hβ'; cases hβ'
    · rw [hβ] at hβ'; injection hβ' with hβ'; subst hβ'
      refine .inr ⟨l.b, l.base, l.tot, cs, ad, ⟨id, by simp, _, l, hm, rfl, hβ, l.self⟩, by simp, fun h0 => ?_, q1, q2, q3, q4, fun j d hj w2 B => (q5 j d hj).gr (hgr j d hj)⟩
      have := had h0
      simpa using this
end

section
variable {P : Program} {T : TypeId → Option TI} {t : Nat → AV} {m : Nat → Option O} {ep n : Nat} {pm : List Nat} {k : S → Prop}
variable {ops : Array Oper} {rest : List Oper} {dst : Option Nat} {op : Op} {oty : TypeId} {pos : String} {after : Array Edge}

/-- An array of our own becomes the very value of its slice, and its blocks. -/
theorem gx_exact {G : S → Prop} (hC : Cv G) {s id id' len ty sz : Nat} {rows : List (List D)} (hs : t s = .own id 0 len) (hm : m id = some (.arr ty sz rows)) (hl : len = rows.length) (hg : rows.all (fun r => r.all D.gr) = true) (hf : m id' = none)
    (h : ∀ (oad : Option Addr) (cap : Nat), forceM m [(id, .gone), (id', .ext (FlatI ty sz rows (.slice oad rows.length cap)))] fun m' => G ⟨putT t (some s) (.imm (.other (.slice oad rows.length cap))), m', ep, n, pm⟩) :
    G ⟨t, m, ep, n, pm⟩ := by
  simp only [forceM_eq] at h
  refine hC { v : Value // ∃ (oad : Option Addr) (cap : Nat), v = .slice oad rows.length cap } ⟨t, m, ep, n, pm⟩ (fun v => ⟨putT t (some s) (.imm (.other v.1)), upm m [(id, .gone), (id', .ext (FlatI ty sz rows v.1))], ep, n, pm⟩) ?_ (fun ⟨v, oad, cap, e⟩ => by subst e; exact h oad cap)
  intro w0 A locs β a w hS
  have hv := hS.slot s
  rw [show (⟨t, m, ep, n, pm⟩ : S).t s = .own id 0 len from hs] at hv
  have hfl := arr_flat hS hm hl hg hv
  obtain ⟨β', h1, _⟩ := hS.exts (w' := w) (ids := [id]) [(id', FlatI ty sz rows (a.tmps.getD s Go.undef), OfIds β m [id])] (by simp) (fun x hx => by rw [List.mem_singleton] at hx; subst hx; exact hf) (fun i hi => by rw [List.mem_singleton] at hi; subst hi; exact ⟨_, hm⟩) (StepFr.refl _ _)
    (fun x hx => by rw [List.mem_singleton] at hx; subst hx; exact ⟨hfl.ext, fun b hb => ⟨OfIds.lt hS hb, .inr hb⟩⟩) (fun x hx y hy b _ _ => by rw [List.mem_singleton] at hx hy; subst hx hy; rfl)
  refine ⟨⟨a.tmps.getD s Go.undef, ?_⟩, β', h1.slotAs (s := s) (av := .imm (.other (a.tmps.getD s Go.undef))) (.other _)⟩
  rcases hfl.2.2 with ⟨e1, e2⟩ | ⟨b, base, tot, cs, ad, _, e2, _⟩
  · exact ⟨none, 0, by rw [e2, e1]; rfl⟩
  · exact ⟨some ad, tot, e2⟩
theorem go_exact (hT : TOk P T) {s id id' len ty sz : Nat} {rows : List (List D)} (hs : t s = .own id 0 len) (hm : m id = some (.arr ty sz rows)) (hl : len = rows.length) (hg : rows.all (fun r => r.all D.gr) = true) (hf : m id' = none)
    (h : ∀ (oad : Option Addr) (cap : Nat), forceM m [(id, .gone), (id', .ext (FlatI ty sz rows (.slice oad rows.length cap)))] fun m' => amOps P T ops (⟨dst, op, oty, pos, after, none⟩ :: rest) ⟨putT t (some s) (.imm (.other (.slice oad rows.length cap))), m', ep, n, pm⟩ k) :
    amOps P T ops (⟨dst, op, oty, pos, after, none⟩ :: rest) ⟨t, m, ep, n, pm⟩ k :=
  gx_exact (cv_ops hT rfl) hs hm hl hg hf h

/-- The other way about. -/
theorem gx_owned {G : S → Prop} (hC : Cv G) {s id id' ty sz : Nat} {rows : List (List D)} {v : Value} {I : World → (Nat → Prop) → Prop} (hs : t s = .imm (.other v)) (hm : m id = some (.ext I)) (hI : ∀ w F, I w F → FlatI ty sz rows v w F) (hf : m id' = none)
    (h : forceM m [(id, .gone), (id', .arr ty sz rows)] fun m' => G ⟨putT t (some s) (.own id' 0 rows.length), m', ep, n, pm⟩) :
    G ⟨t, m, ep, n, pm⟩ := by
  rw [forceM_eq] at h
  refine hC Unit ⟨t, m, ep, n, pm⟩ (fun _ => ⟨putT t (some s) (.own id' 0 rows.length), upm m [(id, .gone), (id', .arr ty sz rows)], ep, n, pm⟩) ?_ (fun _ => h)
  intro w0 A locs β a w hS
  have hv := hS.slot s
  rw [show (⟨t, m, ep, n, pm⟩ : S).t s = .imm (.other v) from hs] at hv
  have hv : a.tmps.getD s Go.undef = v := rep_oth hv
  have hob : ExtAt I w (foot (β id)) := hS.ob id _ hm
  obtain ⟨q1, q2, q3⟩ := hI _ _ hob.now
  have hex : ∃ ol : Option Loc, (∀ l, ol = some l → ∀ b, l.has b → foot (β id) b) ∧ ∀ (B' : Nat → Prop) (β' : Nat → Option Loc) (m' : Nat → Option O), β' id' = ol → m' id' = some (.arr ty sz rows) → ObRep w B' β' m' id' (.arr ty sz rows) ∧ AvRep0 w B' β' m' (.own id' 0 rows.length) v := by
    rcases q3 with ⟨rfl, rfl⟩ | ⟨b, base, tot, cs, ad, f1, rfl, f3, f4, f5, f6, f7, f8⟩
    · refine ⟨none, (fun l e => by cases e), fun B' β' m' e1 e2 => ⟨⟨q1, q2, .inl ⟨e1, rfl⟩⟩, ?_⟩⟩
      simp only [AvRep0, e2]
      exact ⟨by simp, .inl ⟨e1, trivial⟩⟩
    · refine ⟨some ⟨b, base, tot, none⟩, fun l e b' hb' => ?_, fun B' β' m' e1 e2 => ⟨⟨q1, q2, .inr ⟨_, cs, e1, f4, f5, f6, f7, fun j d hj => f8 j d hj _ _⟩⟩, ?_⟩⟩
      · injection e with e
        subst e
        have := Loc.has_none (l := ⟨b, base, tot, none⟩) rfl hb'
        change b = b' at this
        subst this
        exact f1
      · simp only [AvRep0, e2]
        exact ⟨by simp, .inr ⟨_, ad, e1, by simp, Nat.zero_le _, fun h0 => by simpa using f3 h0⟩⟩
  obtain ⟨ol, g1, g2⟩ := hex
  have hof : ∀ b, foot (β id) b → OfIds β m [id] b := fun b hb => (OfIds.one hm rfl b).2 hb
  obtain ⟨h1, h2, _⟩ := hS.regroups (w' := w) (ids := [id]) (N := [(id', .arr ty sz rows, ol)]) (by simp) (fun x hx => by rw [List.mem_singleton] at hx; subst hx; exact hf) (fun i hi => by rw [List.mem_singleton] at hi; subst hi; exact ⟨_, hm⟩) (StepFr.refl _ _)
    (fun x hx l e b hb => by rw [List.mem_singleton] at hx; subst hx; have := hof b (g1 l e b hb); exact ⟨OfIds.lt hS this, .inr this⟩) (fun x hx y hy _ _ _ _ _ _ _ => by rw [List.mem_singleton] at hx hy; subst hx hy; rfl)
    (fun B' β' m' _ _ hb x hx => by
      have hb2 := hb x hx
      rw [List.mem_singleton] at hx
      subst hx
      exact (g2 B' β' m' hb2.1 hb2.2).1)
  obtain ⟨e1, e2⟩ := h2 (id', .arr ty sz rows, ol) (by simp)
  refine ⟨(), _, h1.slotAs (s := s) (av := .own id' 0 rows.length) ?_⟩
  rw [hv]
  exact (g2 (Bl A (newsβ β [(id', .arr ty sz rows, ol)]) (upm m [(id, .gone), (id', .arr ty sz rows)])) _ _ e1 e2).2
theorem go_owned (hT : TOk P T) {s id id' ty sz : Nat} {rows : List (List D)} {v : Value} {I : World → (Nat → Prop) → Prop} (hs : t s = .imm (.other v)) (hm : m id = some (.ext I)) (hI : ∀ w F, I w F → FlatI ty sz rows v w F) (hf : m id' = none)
    (h : forceM m [(id, .gone), (id', .arr ty sz rows)] fun m' => amOps P T ops (⟨dst, op, oty, pos, after, none⟩ :: rest) ⟨putT t (some s) (.own id' 0 rows.length), m', ep, n, pm⟩ k) :
    amOps P T ops (⟨dst, op, oty, pos, after, none⟩ :: rest) ⟨t, m, ep, n, pm⟩ k :=
  gx_owned (cv_ops hT rfl) hs hm hI hf h
/-- At a return. -/
theorem ret_owned {Q : Exit → S → Prop} {s id id' ty sz : Nat} {rows : List (List D)} {v : Value} {I : World → (Nat → Prop) → Prop} (hs : t s = .imm (.other v)) (hm : m id = some (.ext I)) (hI : ∀ w F, I w F → FlatI ty sz rows v w F) (hf : m id' = none)
    (h : forceM m [(id, .gone), (id', .arr ty sz rows)] fun m' => amC P T .ret Q ⟨putT t (some s) (.own id' 0 rows.length), m', ep, n, pm⟩) :
    amC P T .ret Q ⟨t, m, ep, n, pm⟩ :=
  gx_owned cv_ret hs hm hI hf h

/-- An object's data, looked at. -/
theorem look_ext {σ : S} {ids : List Nat} {id : Nat} {I : World → (Nat → Prop) → Prop} {v : Value} {d : D} (hm : σ.m id = some (.ext I)) (hid : id ∈ ids) (hI : ∀ w F B, I w F → (∀ b, F b → ¬ B b) → Rep w B v d) : LookA σ ids (.imm (.other v)) d := by
  intro w0 A locs β a w u hS hu
  have hu : u = v := rep_oth hu
  subst hu
  have hob : ExtAt I w (foot (β id)) := hS.ob id _ hm
  refine hI w (foot (β id)) _ hob.now fun b hb hn => hn.2 ?_
  obtain ⟨l, h1, h2⟩ := hb
  exact ⟨id, hid, _, l, hm, rfl, h1, h2⟩

variable {d : Nat}
/-- A call that looks at objects told by their blocks. -/
theorem ext_xlook {g : Option (Nat × Bool)} {f : FuncId} {ds : List D} {r : D} {sp : Bool} (hC : CallOk P f (ds.map .imm) { res := [.imm r], sep := sp }) (hr : r.gr = true) (ids : List Nat) {args : Array Operand} {ts : Array TypeId}
    (ha : LookAll ⟨t, m, ep, n, pm⟩ ids (args.toList.map (evT t)) ds) (hd : dstOk (some d) n = true)
    (h : amOps P T ops rest ⟨putT t (some d) (.imm r), m, ep, n, pm⟩ k) :
    ExtOp P ⟨some d, .call { callee := .value (.func f), args := args, argTypes := ts }, oty, pos, after, g⟩ ⟨t, m, ep, n, pm⟩ fun σ' => amOps P T ops rest σ' k := by
  intro w0 A locs β a w hs next Q hnext
  obtain ⟨hE, _, _, hC⟩ := hC
  obtain ⟨l1, l2⟩ := lookAll_at ha
  have hlen : args.size = ds.length := by simpa using l1
  have hat : ∀ (i : Nat) (d : D), ds[i]? = some d → Rep w (fun b => Bl A β m b ∧ ¬ OfIds β m ids b) ((args.map a.eval).getD i Go.undef) d := fun i d hi => by
    obtain ⟨av, e1, e2⟩ := l2 i d hi
    rw [List.getElem?_map] at e1
    obtain ⟨x, hx, rfl⟩ := Option.map_eq_some_iff.1 e1
    have h6 : (args.map a.eval).getD i Go.undef = a.eval x := by
      have : args[i]? = some x := by simpa using hx
      simp [Array.getD_eq_getD_getElem?, this]
    rw [h6]
    exact e2 _ _ _ _ _ _ _ hs (evT_eval hs x)
  unfold Oper.wp
  have hrun : (execOp a.eval ⟨some d, .call { callee := .value (.func f), args := args, argTypes := ts }, oty, pos, after, g⟩).run P w = .ok (.enter f (args.map a.eval)) w := by
    obtain ⟨fn, hfn, hname, hbody⟩ := hE
    have hcf : ∀ (vs : Array Value), (callFunc f vs).run P w = .ok (.enter f vs) w := fun vs => by
      have hb : ¬ fn.body = none := fun e => by rw [e] at hbody; cases hbody
      have hname' : ¬ fn.name = "runtime.NumGoroutine" := by simpa using hname
      simp [callFunc, hfn, hname', hb]
    have hfe : a.eval (.func f) = .func (.func f) #[] #[] := rfl
    simp only [execOp, resolve, Deferred.ofValue, hfe, Sem.run_bind, Sem.run_pure, Result.andThen_ok, invoke, Array.empty_append, hcf, Array.append_empty]
  rw [hrun, Oper.upon_enter]
  have hins : ∀ j, (ds.map In.imm)[j]? = (ds[j]?).map In.imm := fun j => List.getElem?_map
  have hinM : inM (ds.map In.imm) = fun _ => none := by
    funext i
    unfold inM
    rw [hins]
    cases ds[i]? <;> rfl
  have hmi : mutIdx (ds.map In.imm) = [] := by
    unfold mutIdx
    refine List.filter_eq_nil_iff.2 fun i _ => ?_
    rw [hins]
    cases ds[i]? <;> simp [In.isMut]
  have hBl : ∀ b, Bl (fun b => Bl A β m b ∧ ¬ OfIds β m ids b) (fun _ => none) (fun _ => none) b → Bl A β m b ∧ ¬ OfIds β m ids b := fun b hb => by
    rcases hb with hb | ⟨_, _, _, hb, _⟩
    · exact hb
    · cases hb
  have hsim : Sim w (fun b => Bl A β m b ∧ ¬ OfIds β m ids b) [] (fun _ => none) (inS (ds.map In.imm) (args.map a.eval).size) ⟨args.map a.eval, []⟩ w := by
    refine { size := rfl, defers := rfl, slot := fun i => ?_, ob := fun id o ho => ?_, inj := fun id id' o o' l l' b h1 => ?_, new := fun id o l h1 => ?_, fr := Fr.refl _ _ (hs.tb (fun l hl => by cases hl)), lt := fun b h => hs.live_lt b h.1, pm := ?_ }
    · show AvRep w (Bl _ _ (inM (ds.map In.imm))) _ (inM (ds.map In.imm)) (inT (ds.map In.imm) i) ((args.map a.eval).getD i Go.undef)
      rw [hinM]
      unfold inT
      rw [hins]
      cases hdd : ds[i]? with
      | none =>
        have : (args.map a.eval).size ≤ i := by rw [Array.size_map, hlen]; exact List.getElem?_eq_none_iff.1 hdd
        show (args.map a.eval).getD i Go.undef = Go.undef
        simp only [Array.getD_eq_getD_getElem?, Array.getElem?_eq_none this, Option.getD_none]
      | some dd => exact Rep.keep ⟨Nat.le_refl _, fun _ _ _ => rfl, fun b _ hB hB' => hB (hBl b hB')⟩ (hat i dd hdd)
    · have : inM (ds.map In.imm) id = some o := ho
      rw [hinM] at this; cases this
    · have : inM (ds.map In.imm) id = some o := h1
      rw [hinM] at this; cases this
    · have : inM (ds.map In.imm) id = some o := h1
      rw [hinM] at this; cases this
    · refine ⟨by rw [show (inS (ds.map In.imm) (args.map a.eval).size).pm = [] from hmi]; rfl, fun i id h => ?_⟩
      rw [show (inS (ds.map In.imm) (args.map a.eval).size).pm = [] from hmi] at h
      cases h
  refine (hC w _ [] _ _ hsim (by simp [hlen])).mono ?_
  rintro e w' ⟨vals, β', rfl, hS⟩
  have hsz : vals.size = 1 := hS.size
  have h0 : Rep w' _ (vals.getD 0 Go.undef) r := hS.slot 0
  have hfr : StepFr w w' (OfIds β m []) := ⟨hS.fr.os, hS.fr.tape, hS.fr.output, hS.fr.size, hS.fr.drawn, fun b hb _ => hS.fr.blk b hb fun l hl => by cases hl⟩
  obtain ⟨β2, hs2, _⟩ := hs.exts (w' := w') (ids := []) [] (by simp) (fun x hx => by cases hx) (fun i hi => by cases hi) hfr (fun x hx => by cases hx) (fun x hx => by cases hx)
  refine hnext _ h β2 _ _ ?_
  refine hs2.put (dst := some d) (fun d' e => by injection e with e; subst e; exact dstOk_at hd) ?_
  show Rep w' _ (packR vals) r
  unfold packR
  rw [if_pos hsz]
  exact h0.gr hr
end

/-! Many flat arrays, each in a block of its own. -/

def InnI (ty sz : Nat) (xs : List (Value × List (List D))) : World → (Nat → Prop) → Prop := fun w F =>
  ∃ G : Nat → Nat → Prop, (∀ j b, G j b → F b) ∧ (∀ i j b, G i b → G j b → i = j) ∧ ∀ (j : Nat) (x : Value × List (List D)), xs[j]? = some x → FlatI ty sz x.2 x.1 w (G j)
/-- All but one. -/
def InnO (ty sz : Nat) (xs : List (Value × List (List D))) (k : Nat) : World → (Nat → Prop) → Prop := fun w F =>
  ∃ G : Nat → Nat → Prop, (∀ j b, G j b → F b) ∧ (∀ i j b, G i b → G j b → i = j) ∧ ∀ (j : Nat) (x : Value × List (List D)), j ≠ k → xs[j]? = some x → FlatI ty sz x.2 x.1 w (G j)

section
variable {ty sz : Nat} {xs : List (Value × List (List D))} {w : World} {F F' F1 F2 : Nat → Prop} {k : Nat} {x : Value × List (List D)}
theorem InnI.ext (h : InnI ty sz xs w F) : ExtAt (InnI ty sz xs) w F := by
  obtain ⟨G, h1, h2, h3⟩ := h
  exact fun w' hb hs => ⟨G, h1, h2, fun j x hx => (h3 j x hx).ext w' (fun b hG => hb b (h1 j b hG)) hs⟩
theorem InnO.ext (h : InnO ty sz xs k w F) : ExtAt (InnO ty sz xs k) w F := by
  obtain ⟨G, h1, h2, h3⟩ := h
  exact fun w' hb hs => ⟨G, h1, h2, fun j x hk hx => (h3 j x hk hx).ext w' (fun b hG => hb b (h1 j b hG)) hs⟩
theorem InnI.nil (ty sz : Nat) (w : World) (F : Nat → Prop) : InnI ty sz [] w F := ⟨fun _ _ => False, fun _ _ h => h.elim, fun _ _ _ h => h.elim, fun j x h => by simp at h⟩
theorem InnI.mono (h : InnI ty sz xs w F) (hF : ∀ b, F b → F' b) : InnI ty sz xs w F' := by
  obtain ⟨G, h1, h2, h3⟩ := h
  exact ⟨G, fun j b hb => hF b (h1 j b hb), h2, h3⟩
theorem InnI.take (h : InnI ty sz xs w F) (hx : xs[k]? = some x) : ∃ U R : Nat → Prop, (∀ b, U b ∨ R b → F b) ∧ (∀ b, ¬ (U b ∧ R b)) ∧ FlatI ty sz x.2 x.1 w U ∧ InnO ty sz xs k w R := by
  obtain ⟨G, h1, h2, h3⟩ := h
  refine ⟨G k, fun b => ∃ j, j ≠ k ∧ G j b, fun b hb => ?_, fun b hb => ?_, h3 k x hx, fun j b => j ≠ k ∧ G j b, fun j b hb => ⟨j, hb⟩, fun i j b hi hj => h2 i j b hi.2 hj.2, fun j y hj hy => (h3 j y hy).mono fun b hb => ⟨hj, hb⟩⟩
  · rcases hb with hb | ⟨j, _, hb⟩
    · exact h1 k b hb
    · exact h1 j b hb
  · obtain ⟨hb, j, hj, hb2⟩ := hb
    exact hj (h2 j k b hb2 hb)
def updG (G : Nat → Nat → Prop) (k : Nat) (H : Nat → Prop) (j b : Nat) : Prop := (j = k ∧ H b) ∨ (j ≠ k ∧ G j b)
theorem updG_disj {G : Nat → Nat → Prop} (h1 : ∀ j b, G j b → F1 b) (h2 : ∀ i j b, G i b → G j b → i = j) (hd : ∀ b, ¬ (F2 b ∧ F1 b)) : ∀ i j b, updG G k F2 i b → updG G k F2 j b → i = j := by
  rintro i j b (⟨e1, hi⟩ | ⟨e1, hi⟩) (⟨e2, hj⟩ | ⟨e2, hj⟩)
  · omega
  · exact (hd b ⟨hi, h1 j b hj⟩).elim
  · exact (hd b ⟨hj, h1 i b hi⟩).elim
  · exact h2 i j b hi hj
theorem InnO.put {v : Value} {r : List (List D)} (h : InnO ty sz xs k w F1) (hf : FlatI ty sz r v w F2) (hd : ∀ b, ¬ (F2 b ∧ F1 b)) : InnI ty sz (xs.set k (v, r)) w (fun b => F1 b ∨ F2 b) := by
  obtain ⟨G, h1, h2, h3⟩ := h
  refine ⟨updG G k F2, ?_, updG_disj h1 h2 hd, fun j y hy => ?_⟩
  · rintro j b (⟨_, hb⟩ | ⟨_, hb⟩)
    · exact .inr hb
    · exact .inl (h1 j b hb)
  · rw [List.getElem?_set] at hy
    by_cases e : k = j
    · rw [if_pos e] at hy
      split at hy
      · injection hy with hy
        subst hy
        exact hf.mono fun b hb => .inl ⟨e.symm, hb⟩
      · cases hy
    · rw [if_neg e] at hy
      exact (h3 j y (Ne.symm e) hy).mono fun b hb => .inr ⟨Ne.symm e, hb⟩
theorem InnI.add {v : Value} {r : List (List D)} (h : InnI ty sz xs w F1) (hf : FlatI ty sz r v w F2) (hd : ∀ b, ¬ (F2 b ∧ F1 b)) : InnI ty sz (xs ++ [(v, r)]) w (fun b => F1 b ∨ F2 b) := by
  obtain ⟨G, h1, h2, h3⟩ := h
  refine ⟨updG G xs.length F2, ?_, updG_disj h1 h2 hd, fun j y hy => ?_⟩
  · rintro j b (⟨_, hb⟩ | ⟨_, hb⟩)
    · exact .inr hb
    · exact .inl (h1 j b hb)
  · rw [List.getElem?_append] at hy
    split at hy
    · rename_i hl
      exact (h3 j y hy).mono fun b hb => .inr ⟨by omega, hb⟩
    · rename_i hl
      have h4 := (List.getElem?_eq_some_iff.1 hy).1
      simp only [List.length_cons, List.length_nil] at h4
      have : j - xs.length = 0 := by omega
      rw [this] at hy
      injection hy with hy
      subst hy
      exact hf.mono fun b hb => .inl ⟨by omega, hb⟩
end
end Go.Am

