/- Depots told by their blocks; their copies. -/
import Derived.Test.YtkjigbbbobijnaaE3
import Derived.Test.YtkjigbbbobijnaaAmHB
import Derived.Test.YtkjigbbbobijnaaAmN
namespace Go.Am
open Go
section
variable {P : Program} {T : TypeId → Option TI} {t : Nat → AV} {m : Nat → Option O} {ep n : Nat} {pm : List Nat}
/-- At a return: an array of our own becomes the very value of its slice. -/
theorem ret_exact {Q : Exit → S → Prop} {s id id' len ty sz : Nat} {rows : List (List D)} (hs : t s = .own id 0 len) (hm : m id = some (.arr ty sz rows)) (hl : len = rows.length) (hg : rows.all (fun r => r.all D.gr) = true) (hf : m id' = none)
    (h : ∀ (oad : Option Addr) (cap : Nat), forceM m [(id, .gone), (id', .ext (FlatI ty sz rows (.slice oad rows.length cap)))] fun m' => amC P T .ret Q ⟨putT t (some s) (.imm (.other (.slice oad rows.length cap))), m', ep, n, pm⟩) :
    amC P T .ret Q ⟨t, m, ep, n, pm⟩ := gx_exact cv_ret hs hm hl hg hf h
end
end Go.Am
namespace Go.Proofs.Ytkjigbbbobijnaa
open Go Go.Am
set_option maxRecDepth 100000
set_option maxHeartbeats 8000000
attribute [local irreducible] amOps amC opCall opIndexAddr opPick retQ opMake opStore amDraw opAppend opLoad opNilCmp opIndex opSlice xQ

abbrev Cell := Value × List (List D)
abbrev Sl := Option Addr × Nat × Nat
def Sl.v (s : Sl) : Value := .slice s.1 s.2.1 s.2.2
def outS (xs : List Cell) : List (List D) := xs.map fun x => [.other x.1]
def TOk (ts : List (List Int)) (xs : List Cell) : Prop := xs.map (·.2) = ts.map fun t => t.map intRow
def LstI (ts : List (List Int)) : VI := NstI 24 1 3 outS (ts.map fun t => t.map intRow)
def DepI (d : Depot) (vs vt : Value) : World → (Nat → Prop) → Prop := fun w F => ∃ F0 F1 : Nat → Prop, (∀ b, F0 b ∨ F1 b → F b) ∧ (∀ b, ¬ (F0 b ∧ F1 b)) ∧ FlatI 3 1 (d.sizes.map intRow) vs w F0 ∧ LstI d.tracks vt w F1
def DepV (d : Depot) : VI := fun v w F => ∃ vs vt, v = .agg #[vs, vt] ∧ DepI d vs vt w F
def depR (d : Depot) : XR := ⟨aggD, DepV d⟩

theorem outS_flat (xs : List Cell) : (outS xs).flatten = xs.map fun x => D.other x.1 := by
  unfold outS
  induction xs with
  | nil => rfl
  | cons y ys ih => simp only [List.map_cons, List.flatten_cons, List.singleton_append]; rw [ih]
theorem TOk.len {ts : List (List Int)} {xs : List Cell} (h : TOk ts xs) : xs.length = ts.length := by
  have := congrArg List.length h
  simpa using this
theorem TOk.at {ts : List (List Int)} {xs : List Cell} (h : TOk ts xs) {i : Nat} {x : Cell} {t : List Int} (hx : xs[i]? = some x) (ht : ts[i]? = some t) : x.2 = t.map intRow := by
  have := congrArg (fun l => l[i]?) h
  simp only [List.getElem?_map, hx, ht, Option.map_some, Option.some.injEq] at this
  exact this
theorem lst_rep {ts : List (List Int)} {v : Value} {w : World} {F B : Nat → Prop} (h : LstI ts v w F) (hB : ∀ b, F b → ¬ B b) : Rep w B v (.list (ts.map intsRow)) := by
  refine NstI.rep h (ts.map intsRow) (fun xs hxs => ?_) hB
  have hl := TOk.len (xs := xs) hxs
  have hfl : (ts.map intsRow).flatten = ts.map fun r => D.list (r.map intRow) := by
    clear hxs hl h
    induction ts with
    | nil => rfl
    | cons y ys ih => simp only [List.map_cons, List.flatten_cons, ih]; rfl
  refine ⟨by simp [outS, hl], fun r hr => ?_, fun j d' hj => ?_⟩
  · obtain ⟨_, _, rfl⟩ := List.mem_map.1 hr
    rfl
  · rw [hfl, List.getElem?_map] at hj
    obtain ⟨r, hr, rfl⟩ := Option.map_eq_some_iff.1 hj
    obtain ⟨x, hx⟩ : ∃ x, xs[j]? = some x := ⟨_, List.getElem?_eq_getElem (by rw [hl]; exact (List.getElem?_eq_some_iff.1 hr).1)⟩
    refine ⟨.other x.1, by rw [outS_flat, List.getElem?_map, hx]; rfl, .inr ⟨x, List.mem_of_getElem? hx, rfl, ?_⟩⟩
    rw [TOk.at (xs := xs) hxs hx hr]
theorem LstI.ext {ts : List (List Int)} {v : Value} {w : World} {F : Nat → Prop} (h : LstI ts v w F) : ExtAt (LstI ts v) w F := NstI.ext h
theorem DepI.ext {d : Depot} {vs vt : Value} {w : World} {F : Nat → Prop} (h : DepI d vs vt w F) : ExtAt (DepI d vs vt) w F := by
  obtain ⟨F0, F1, h2, h3, h4, h5⟩ := h
  exact fun w' hb hs => ⟨F0, F1, h2, h3, h4.ext w' (fun b hF => hb b (h2 b (.inl hF))) hs, h5.ext w' (fun b hF => hb b (h2 b (.inr hF))) hs⟩
theorem DepV.ext {d : Depot} {v : Value} {w : World} {F : Nat → Prop} (h : DepV d v w F) : ExtAt (DepV d v) w F := by
  obtain ⟨vs, vt, e, h⟩ := h
  exact fun w' hb hs => ⟨vs, vt, e, h.ext w' hb hs⟩
theorem FlatI.isSl {ty sz : Nat} {rows : List (List D)} {v : Value} {w : World} {F : Nat → Prop} (h : FlatI ty sz rows v w F) : ∃ s : Sl, v = s.v := by
  rcases h.shape with ⟨_, e2⟩ | ⟨ad, cap, e1, _⟩
  · exact ⟨(none, 0, 0), e2⟩
  · exact ⟨(some ad, rows.length, cap), e1⟩
theorem LstI.isSl {ts : List (List Int)} {v : Value} {w : World} {F : Nat → Prop} (h : LstI ts v w F) : ∃ s : Sl, v = s.v := by
  obtain ⟨_, _, _, _, _, _, h, _⟩ := h
  exact FlatI.isSl h
theorem lst_shape {ts : List (List Int)} {v : Value} {w : World} {F : Nat → Prop} (h : ExtAt (LstI ts v) w F) : ∃ s : Sl, v = s.v := LstI.isSl h.now
theorem dep_open {d : Depot} {v : Value} {w : World} {F : Nat → Prop} (h : ExtAt (DepV d v) w F) : ∃ (x : { x : Sl × Sl // v = .agg #[x.1.v, x.2.v] }) (F0 F1 : Nat → Prop), (∀ b, F0 b ∨ F1 b → F b) ∧ (∀ b, ¬ (F0 b ∧ F1 b)) ∧ ExtAt (FlatI 3 1 (d.sizes.map intRow) x.1.1.v) w F0 ∧ ExtAt (LstI d.tracks x.1.2.v) w F1 := by
  obtain ⟨vs, vl, e, F0, F1, h2, h3, h4, h5⟩ := h.now
  obtain ⟨s1, rfl⟩ := FlatI.isSl h4
  obtain ⟨s2, rfl⟩ := LstI.isSl h5
  exact ⟨⟨(s1, s2), e⟩, F0, F1, h2, h3, h4.ext, h5.ext⟩
theorem dep_shape {d : Depot} {v : Value} {w : World} {F : Nat → Prop} (h : ExtAt (DepV d v) w F) : ∃ x : Sl × Sl, v = .agg #[x.1.v, x.2.v] := by
  obtain ⟨x, _⟩ := dep_open h
  exact ⟨x.1, x.2⟩
theorem dep_join {d : Depot} {vs vt : Value} : ∀ w F1 F2, ExtAt (FlatI 3 1 (d.sizes.map intRow) vs) w F1 → ExtAt (LstI d.tracks vt) w F2 → (∀ b, ¬ (F1 b ∧ F2 b)) → ExtAt (DepV d (.agg #[vs, vt])) w fun b => F1 b ∨ F2 b :=
  fun _ F1 F2 h1 h2 hd => DepV.ext ⟨vs, vt, rfl, F1, F2, fun _ h => h, hd, h1.now, h2.now⟩
theorem lst_join {ts : List (List Int)} {xs : List Cell} {v : Value} (hx : TOk ts xs) : ∀ w F1 F2, ExtAt (FlatI 24 1 (outS xs) v) w F1 → ExtAt (InnI 3 1 xs) w F2 → (∀ b, ¬ (F1 b ∧ F2 b)) → ExtAt (LstI ts v) w fun b => F1 b ∨ F2 b :=
  fun _ F1 F2 h1 h2 hd => LstI.ext ⟨xs, F1, F2, hx, fun _ h => h, hd, h1.now, h2.now⟩
theorem lst_join' {ts : List (List Int)} {xs : List Cell} {rows : List (List D)} {v : Value} (hr : rows = outS xs) (hx : TOk ts xs) : ∀ w F1 F2, ExtAt (FlatI 24 1 rows v) w F1 → ExtAt (InnI 3 1 xs) w F2 → (∀ b, ¬ (F1 b ∧ F2 b)) → ExtAt (LstI ts v) w fun b => F1 b ∨ F2 b := by
  subst hr
  exact lst_join hx
theorem dep_reps {d : Depot} {a b : Value} {w : World} {F B : Nat → Prop} (h : DepV d (.agg #[a, b]) w F) (hB : ∀ b, F b → ¬ B b) : Rep w B a (.list (d.sizes.map intRow)) ∧ Rep w B b (.list (d.tracks.map intsRow)) := by
  obtain ⟨vs, vt, e, F0, F1, h2, h3, h4, h5⟩ := h
  injection e with e
  have e1 : a = vs ∧ b = vt := by simpa using e
  obtain ⟨rfl, rfl⟩ := e1
  exact ⟨h4.rep fun b hb => hB b (h2 b (.inl hb)), lst_rep h5 fun b hb => hB b (h2 b (.inr hb))⟩
theorem join_add {ti : Nat} {xs : List Cell} {v : Value} {r : List (List D)} : ∀ w F1 F2, ExtAt (InnI ti 1 xs) w F1 → ExtAt (FlatI ti 1 r v) w F2 → (∀ b, ¬ (F1 b ∧ F2 b)) → ExtAt (InnI ti 1 (xs ++ [(v, r)])) w fun b => F1 b ∨ F2 b :=
  fun _ _ _ h1 h2 hd => (InnI.add h1.now h2.now fun b hb => hd b ⟨hb.2, hb.1⟩).ext
theorem TOk.snoc {ts : List (List Int)} {xs : List Cell} {i : Nat} {t : List Int} {v : Value} {r : List (List D)} (h : TOk (ts.take i) xs) (ht : ts[i]? = some t) (hr : r = t.map intRow) : TOk (ts.take (i + 1)) (xs ++ [(v, r)]) := by
  unfold TOk at *
  rw [List.take_add_one, ht, List.map_append, h, List.map_append]
  simp [hr]
theorem outS_gr (xs : List Cell) : (outS xs).all (fun r => r.all D.gr) = true := by
  refine List.all_eq_true.2 fun r hr => ?_
  obtain ⟨_, _, rfl⟩ := List.mem_map.1 hr
  rfl
theorem outS_app (xs : List Cell) (v : Value) (r : List (List D)) : outS (xs ++ [(v, r)]) = outS xs ++ [[.other v]] := by simp [outS]
theorem outS_len (xs : List Cell) : (outS xs).length = xs.length := List.length_map _

/-- The outer array while it is filled. -/
def oMake (n : Nat) (xs : List Cell) (i : Nat) : List (List D) := outS xs ++ List.replicate (n - i) ty24.zero
theorem oMake_len {n i : Nat} {xs : List Cell} (hi : i ≤ n) (hx : xs.length = i) : (oMake n xs i).length = n := by
  unfold oMake
  rw [List.length_append, outS_len, List.length_replicate]; omega
theorem oMake_at {n i : Nat} {xs : List Cell} (hi : i < n) (hx : xs.length = i) : (oMake n xs i)[i]? = some ty24.zero := by
  unfold oMake
  rw [List.getElem?_append_right (by rw [outS_len]; omega), outS_len, hx, Nat.sub_self, List.getElem?_replicate, if_pos (by omega)]
theorem oMake_set {n i : Nat} {xs : List Cell} {v : Value} {r : List (List D)} (hi : i < n) (hx : xs.length = i) : (oMake n xs i).set i [.other v] = oMake n (xs ++ [(v, r)]) (i + 1) := by
  unfold oMake
  rw [List.set_append_right _ _ (by rw [outS_len]; omega), outS_len, hx, Nat.sub_self, show n - i = (n - (i + 1)) + 1 from by omega, List.replicate_succ, List.set_cons_zero, outS_app, List.append_assoc]
  rfl

theorem x35 (ts : List (List Int)) (hl : ts.length ≤ 1000) (hf : ∀ t ∈ ts, t.length ≤ 1000) : XOk Try.prog 35 (XI.imm (.list (ts.map intsRow))) [] (XR.ext (LstI ts)) [] := by
  refine xOk_of tyOk Try.func35 rfl rfl (le_of_ble rfl) ?_
  intro v0
  have el : (ts.map intsRow).length = ts.length := List.length_map _
  repeat' first | refine go_seq ?_ | refine go_region ?_ | refine go_miss rfl rfl rfl ?_ | refine go_undef rfl rfl rfl ?_ | refine go_draw drawsOk ?_ | ((first | refine go_op rfl ?_ | refine go_nil ?_ | refine go_hit rfl rfl rfl ?_ | refine go_splitT rfl rfl rfl (fun h => ?_) (fun h => ?_) | refine go_splitF rfl rfl rfl (fun h => ?_) (fun h => ?_) | refine go_storeBox rfl rfl rfl rfl rfl rfl ?_ | refine go_dop rfl ?_ | refine go_dhit rfl rfl ?_ | refine go_dmiss rfl rfl ?_ | refine go_dundef rfl rfl ?_ | refine go_dend (by kernel_rfl) ?_ | refine go_pickT rfl ?_ | refine go_pickF rfl ?_ | refine go_pick rfl (fun h => ?_) (fun h => ?_) | refine go_makeN rfl rfl rfl rfl rfl rfl rfl rfl rfl (by omega) (by simp; omega) ?_) <;> conv => whnf) | ((first | refine Or.inl ?_ | refine go_dsplit2 rfl (fun h => ?_) (fun h => ?_) | refine go_loadB ?_ | refine ⟨by kernel_rfl, ?_⟩ | refine go_ret ?_) <;> conv => whnf) | refine go_block ?_ | ((first | refine go_skip ?_ | refine go_exit ?_) <;> conv => whnf) | refine go_true rfl ?_ | refine go_false rfl ?_ | refine go_cond rfl (fun h => ?_) (fun h => ?_) | refine ⟨rfl, ?_⟩ | ((first | refine ⟨trivial, ?_⟩ | refine ⟨le_of_ble rfl, ?_⟩) <;> conv => whnf) | fail
  refine go_loop (α := Nat × List Cell) (fun q => q.1 ≤ ts.length ∧ q.2.length = q.1 ∧ TOk (ts.take q.1) q.2) (fun q => ts.length - q.1)
    (fun q => st Try.f35.ntmps [(3, .own 1000 0 (ts.map intsRow).length), (9, .imm (.list (ts.map intsRow))), (10, .imm (.int .i64 (ts.map intsRow).length)), (11, .imm (.int .i64 (q.1 : Nat)))]
      [(1000, .arr 24 1 (oMake ts.length q.2 q.1)), (1001, .ext (InnI 3 1 q.2)), (1002, .gone)] [1002]) (0, []) ⟨Nat.zero_le _, rfl, rfl⟩ ?_ ?_
  · refine Ref.trans (ref_newX (id := 3000) (I := InnI 3 1 []) rfl (fun w => (InnI.nil _ _ w _).ext)) (ref_st (fun y => if y = 1000 then nid 2 8 else if y = 1001 then 3000 else 0) rfl ⟨⟨rfl, rfl⟩, rfl, rfl, rfl, trivial⟩ ⟨?_, rfl, rfl, trivial⟩ (by simp [nid]) rfl (by simp [lookM]))
    show some _ = some _
    simp [oMake, outS]
    rfl
  rintro ⟨i, xs⟩ ⟨hi, hxl, hx⟩
  simp only at hi hxl hx
  have hml := oMake_len (n := ts.length) hi hxl
  cases ht : ts[i]? with
  | none =>
    have hge := le_of_at ht
    rw [List.take_of_length_le hge] at hx
    have hmk : oMake ts.length xs i = outS xs := by
      unfold oMake
      rw [show ts.length - i = 0 from by omega]
      simp
    have hgl : (ts.map intsRow).length = (oMake ts.length xs i).length := by rw [el, hml]
    have hgr : (oMake ts.length xs i).all (fun r => r.all D.gr) = true := by rw [hmk]; exact outS_gr _
    repeat' first | (refine ret_exact (s := 2) (id := 1000) (id' := 8001) (ty := 24) (sz := 1) (rows := oMake ts.length xs i) rfl rfl hgl hgr rfl ?_; intro o2 c2; conv => whnf) | (refine ret_join (id1 := 8001) (id2 := 1001) (id3 := 8002) (I3 := LstI ts (.slice o2 (oMake ts.length xs i).length c2)) rfl rfl rfl rfl (lst_join' hmk hx) ?_; conv => whnf) | refine go_seq ?_ | refine go_region ?_ | refine go_miss rfl rfl rfl ?_ | refine go_undef rfl rfl rfl ?_ | refine go_draw drawsOk ?_ | ((first | refine go_op rfl ?_ | refine go_nil ?_ | refine go_hit rfl rfl rfl ?_ | refine go_splitT rfl rfl rfl (fun h => ?_) (fun h => ?_) | refine go_splitF rfl rfl rfl (fun h => ?_) (fun h => ?_) | refine go_storeBox rfl rfl rfl rfl rfl rfl ?_ | refine go_dop rfl ?_ | refine go_dhit rfl rfl ?_ | refine go_dmiss rfl rfl ?_ | refine go_dundef rfl rfl ?_ | refine go_dend (by kernel_rfl) ?_ | refine go_pickT rfl ?_ | refine go_pickF rfl ?_ | refine go_pick rfl (fun h => ?_) (fun h => ?_)) <;> conv => whnf) | ((first | refine Or.inl ?_ | refine go_dsplit2 rfl (fun h => ?_) (fun h => ?_) | refine go_loadB ?_ | refine ⟨by kernel_rfl, ?_⟩ | refine go_ret ?_) <;> conv => whnf) | refine go_block ?_ | ((first | refine go_skip ?_ | refine go_exit ?_) <;> conv => whnf) | refine go_true rfl ?_ | refine go_false rfl ?_ | refine go_cond rfl (fun h => ?_) (fun h => ?_) | refine ⟨rfl, ?_⟩ | ((first | refine ⟨trivial, ?_⟩ | refine ⟨le_of_ble rfl, ?_⟩) <;> conv => whnf) | fail
    all_goals first
      | (refine ret_x (av := .imm (.other (.slice o2 (oMake ts.length xs i).length c2))) [8002] [] rfl rfl (by intro e; cases e) rfl rfl (close_ext rfl (fun _ _ h => h)) (close_no v0) (by simp)
         done)
      | (exfalso; simp at h; omega)
      | trace_state
  | some t =>
    have hlt := lt_of_at ht
    have hr := ints_row ht
    have hC := o34 t (by have := hf t (List.mem_of_getElem? ht); omega)
    have hil : i < (ts.map intsRow).length := by rw [el]; exact hlt
    repeat' first | (refine go_exact tyOk (s := 19) (id := rid 4 19 0) (id' := 6000) (ty := 3) (sz := 1) (rows := t.map intRow) rfl rfl rfl (List.all_eq_true.2 (int_gr _)) rfl ?_; intro o1 c1; conv => whnf) | refine go_seq ?_ | refine go_region ?_ | refine go_miss rfl rfl rfl ?_ | refine go_undef rfl rfl rfl ?_ | refine go_draw drawsOk ?_ | ((first | refine go_op rfl ?_ | refine go_nil ?_ | refine go_hit rfl rfl rfl ?_ | refine go_splitT rfl rfl rfl (fun h => ?_) (fun h => ?_) | refine go_splitF rfl rfl rfl (fun h => ?_) (fun h => ?_) | refine go_storeBox rfl rfl rfl rfl rfl rfl ?_ | refine go_dop rfl ?_ | refine go_dhit rfl rfl ?_ | refine go_dmiss rfl rfl ?_ | refine go_dundef rfl rfl ?_ | refine go_dend (by kernel_rfl) ?_ | refine go_pickT rfl ?_ | refine go_pickF rfl ?_ | refine go_pick rfl (fun h => ?_) (fun h => ?_) | refine go_call [] (hC) rfl rfl rfl rfl ?_ | refine go_idx rfl rfl rfl rfl (by omega) hr rfl ?_ | refine go_idxOwn rfl rfl rfl rfl rfl rfl hil ?_ | refine go_storeRow rfl rfl rfl rfl (oMake_at hlt hxl) rfl rfl (oMake_set (v := .slice o1 (t.map intRow).length c1) (r := t.map intRow) hlt hxl) ?_) <;> conv => whnf) | ((first | refine Or.inl ?_ | refine go_dsplit2 rfl (fun h => ?_) (fun h => ?_) | refine go_loadB ?_ | refine ⟨by kernel_rfl, ?_⟩ | refine go_ret ?_) <;> conv => whnf) | refine go_block ?_ | ((first | refine go_skip ?_ | refine go_exit ?_) <;> conv => whnf) | refine go_true rfl ?_ | refine go_false rfl ?_ | refine go_cond rfl (fun h => ?_) (fun h => ?_) | refine ⟨rfl, ?_⟩ | ((first | refine ⟨trivial, ?_⟩ | refine ⟨le_of_ble rfl, ?_⟩) <;> conv => whnf) | fail
    all_goals first
      | (refine go_next (i + 1, xs ++ [(Value.slice o1 (t.map intRow).length c1, t.map intRow)]) ⟨hlt, by simp [hxl], hx.snoc ht rfl⟩ (by show ts.length - (i + 1) < ts.length - i; omega)
           (Ref.trans (ref_joinX (id1 := 1001) (id2 := 6000) (id3 := 7000) rfl rfl rfl rfl join_add) (ref_st (fun y => if y = 1001 then 7000 else y) rfl ⟨⟨rfl, rfl⟩, rfl, rfl, next_i (i := i) (by omega), trivial⟩ ⟨rfl, rfl, rfl, trivial⟩ (by simp) rfl (by simp [lookM])))
         done)
      | (exfalso; simp at h; omega)
      | trace_state

theorem x22 (d : Depot) (hf : d.fit) : XOk Try.prog 22 (XI.imm (.agg d.enc)) [] (depR d) [] := by
  refine xOk_of tyOk Try.func22 rfl rfl (le_of_ble rfl) ?_
  intro v0
  obtain ⟨f1, f2, f3⟩ := hf
  have hS := o34 d.sizes (by omega)
  have hN := x35 d.tracks f2 f3
  repeat' first | (refine go_drawT 1 0 drawsOk ?_; conv => whnf) | (refine go_fact tyOk (id := nid 2 8) (p := ∃ x : Sl, r = x.v) rfl (fun w F h => lst_shape h) ?_; rintro ⟨⟨a2, n2, c2⟩, hv⟩; subst hv; conv => whnf) | (refine go_ext (ext_xcall hN [] (fun _ _ => True) (v := Value.slice none 0 0) [] ⟨look_imm _ _ _, trivial⟩ (by simp) (.inr fun u => ⟨rfl, rfl, rfl⟩) (split_no _ _) have0 rfl rfl rfl rfl ?_); intro r; conv => whnf) | (refine ret_boxCell (bid := nid 1 2) (j := 0) (id := rid 2 5 0) (id' := 8000) (ty := 3) (sz := 1) (rows := d.sizes.map intRow) rfl rfl rfl rfl (List.all_eq_true.2 (int_gr _)) rfl ?_; intro o3 c3; conv => whnf) | refine go_seq ?_ | refine go_region ?_ | refine go_miss rfl rfl rfl ?_ | refine go_undef rfl rfl rfl ?_ | refine go_draw drawsOk ?_ | ((first | refine go_op rfl ?_ | refine go_nil ?_ | refine go_hit rfl rfl rfl ?_ | refine go_splitT rfl rfl rfl (fun h => ?_) (fun h => ?_) | refine go_splitF rfl rfl rfl (fun h => ?_) (fun h => ?_) | refine go_storeBox rfl rfl rfl rfl rfl rfl ?_ | refine go_dop rfl ?_ | refine go_dhit rfl rfl ?_ | refine go_dmiss rfl rfl ?_ | refine go_dundef rfl rfl ?_ | refine go_dend (by kernel_rfl) ?_ | refine go_pickT rfl ?_ | refine go_pickF rfl ?_ | refine go_pick rfl (fun h => ?_) (fun h => ?_) | refine Two.mk ?_ trivial | refine Two.mk ?_ ?_ | refine go_call [] (hS) rfl rfl rfl rfl ?_ | refine Or.inr ?_) <;> conv => whnf) | ((first | refine Or.inl ?_ | refine go_dsplit2 rfl (fun h => ?_) (fun h => ?_) | refine go_loadB ?_ | refine ⟨by kernel_rfl, ?_⟩ | refine go_ret ?_) <;> conv => whnf) | refine go_block ?_ | ((first | refine go_skip ?_ | refine go_exit ?_) <;> conv => whnf) | refine go_true rfl ?_ | refine go_false rfl ?_ | refine go_cond rfl (fun h => ?_) (fun h => ?_) | refine ⟨rfl, ?_⟩ | ((first | refine ⟨trivial, ?_⟩ | refine ⟨le_of_ble rfl, ?_⟩) <;> conv => whnf) | fail
  all_goals first
    | (refine ret_x (av := .imm (.agg [.other (.slice o3 (d.sizes.map intRow).length c3), .other (.slice a2 n2 c2)])) [8000, nid 2 8] [] rfl rfl (by intro e; cases e) rfl rfl (close_agg2 (vs := [.slice o3 (d.sizes.map intRow).length c3, .slice a2 n2 c2]) rfl rfl rfl (dep_join (d := d) (vs := .slice o3 (d.sizes.map intRow).length c3) (vt := .slice a2 n2 c2))) (close_no v0) (by simp)
       done)
    | trace_state
end Go.Proofs.Ytkjigbbbobijnaa

