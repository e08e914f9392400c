/- Parking and taking: the program. -/
import Derived.Test.YtkjigbbbobijnaaE5
import Derived.Test.YtkjigbbbobijnaaAmHC
namespace Go.Proofs.Ytkjigbbbobijnaa
open Go Go.Am
set_option maxRecDepth 100000
set_option maxHeartbeats 16000000
attribute [local irreducible] amOps amC opCall opIndexAddr opPick retQ opMake opStore amDraw opAppend opLoad opNilCmp opIndex opSlice xQ inlQ

/-- An array of our own whose slices are very values, looked at. -/
theorem look_lst {σ : S} {ids : List Nat} {id id2 len : Nat} {ts : List (List Int)} {xs : List Cell} (hm : σ.m id = some (.arr 24 1 (outS xs))) (hm2 : σ.m id2 = some (.ext (InnI 3 1 xs))) (h1 : id ∈ ids) (h2 : id2 ∈ ids) (hx : TOk ts xs) (hl : len = (outS xs).length) :
    LookA σ ids (.own id 0 len) (.list (ts.map intsRow)) := by
  intro w0 A locs β a w v hS hv
  have hfl := arr_flat hS hm hl (outS_gr _) hv
  have hob : ExtAt _ w (foot (β id2)) := hS.ob id2 _ hm2
  have hof : ∀ b, foot (β id2) b → OfIds β σ.m [id2] b := fun b hb => (OfIds.one hm2 rfl b).2 hb
  have hne : id ≠ id2 := fun e => by rw [e, hm2] at hm; cases hm
  refine lst_rep (ts := ts) (F := fun b => OfIds β σ.m [id] b ∨ foot (β id2) b) ⟨xs, _, _, hx, fun _ h => h, fun b hb => OfIds.disj hS (fun x hx hy => hne (by simp at hx hy; omega)) hb.1 (hof b hb.2), hfl, hob.now⟩ fun b hb hn => hn.2 ?_
  rcases hb with hb | hb
  · exact OfIds.sub (fun i hi => by simp at hi; rw [hi]; exact h1) hb
  · exact OfIds.sub (fun i hi => by simp at hi; rw [hi]; exact h2) (hof b hb)
/-- A list of lists, opened at one of them. -/
theorem lst_openAt {ts : List (List Int)} {v : Value} {w : World} {F : Nat → Prop} {i : Nat} {tr : List Int} (ht : ts[i]? = some tr) (h : ExtAt (LstI ts v) w F) :
    ∃ (x : { q : List Cell × Option Addr × Nat // TOk ts q.1 ∧ q.1[i]? = some (.slice q.2.1 (tr.map intRow).length q.2.2, tr.map intRow) }) (F0 F1 : Nat → Prop), (∀ b, F0 b ∨ F1 b → F b) ∧ (∀ b, ¬ (F0 b ∧ F1 b)) ∧ ExtAt (FlatI 24 1 (outS x.1.1) v) w F0 ∧ ExtAt (InnI 3 1 x.1.1) w F1 := by
  obtain ⟨xs, F0, F1, h1, h2, h3, h4, h5⟩ := h.now
  have hx : TOk ts xs := h1
  obtain ⟨x, hxi⟩ : ∃ x, xs[i]? = some x := ⟨_, List.getElem?_eq_getElem (by rw [hx.len]; exact (List.getElem?_eq_some_iff.1 ht).1)⟩
  have hx2 := hx.at hxi ht
  obtain ⟨G, g1, g2, g3⟩ := h5
  have hs := (g3 i x hxi).shape
  have hex : ∃ (a : Option Addr) (c : Nat), x = (.slice a (tr.map intRow).length c, tr.map intRow) := by
    obtain ⟨v, r⟩ := x
    simp only at hx2 hs
    subst hx2
    rcases hs with ⟨e1, e2⟩ | ⟨ad, c, e1, _⟩
    · exact ⟨none, 0, by rw [e2, e1]; rfl⟩
    · exact ⟨some ad, c, by rw [e1]⟩
  obtain ⟨a, c, rfl⟩ := hex
  exact ⟨⟨(xs, a, c), hx, hxi⟩, F0, F1, h2, h3, h4.ext, (InnI.ext ⟨G, g1, g2, g3⟩)⟩
/-- Opened without a look at any. -/
theorem lst_open0 {ts : List (List Int)} {v : Value} {w : World} {F : Nat → Prop} (h : ExtAt (LstI ts v) w F) :
    ∃ (x : { q : List Cell // TOk ts q }) (F0 F1 : Nat → Prop), (∀ b, F0 b ∨ F1 b → F b) ∧ (∀ b, ¬ (F0 b ∧ F1 b)) ∧ ExtAt (FlatI 24 1 (outS x.1) v) w F0 ∧ ExtAt (InnI 3 1 x.1) w F1 := by
  obtain ⟨xs, F0, F1, h1, h2, h3, h4, h5⟩ := h.now
  exact ⟨⟨xs, h1⟩, F0, F1, h2, h3, h4.ext, h5.ext⟩
theorem take_at {xs : List Cell} {i : Nat} {v : Value} {r : List (List D)} (hx : xs[i]? = some (v, r)) : ∀ w F, ExtAt (InnI 3 1 xs) w F → ∃ F0 F1 : Nat → Prop, (∀ b, F0 b ∨ F1 b → F b) ∧ (∀ b, ¬ (F0 b ∧ F1 b)) ∧ FlatI 3 1 r v w F0 ∧ ExtAt (InnO 3 1 xs i) w F1 := by
  intro w F h
  obtain ⟨U, R, h1, h2, h3, h4⟩ := h.now.take hx
  exact ⟨U, R, h1, h2, h3, h4.ext⟩
theorem put_at {xs : List Cell} {i : Nat} {v : Value} {r : List (List D)} : ∀ w F1 F2, ExtAt (InnO 3 1 xs i) w F1 → ExtAt (FlatI 3 1 r v) w F2 → (∀ b, ¬ (F1 b ∧ F2 b)) → ExtAt (InnI 3 1 (xs.set i (v, r))) w fun b => F1 b ∨ F2 b :=
  fun _ _ _ h1 h2 hd => (InnO.put h1.now h2.now fun b hb => hd b ⟨hb.2, hb.1⟩).ext
theorem outS_at {xs : List Cell} {i : Nat} {x : Cell} (h : xs[i]? = some x) : (outS xs)[i]? = some [.other x.1] := by simp [outS, h]
theorem outS_set {xs : List Cell} {i : Nat} {v : Value} {r : List (List D)} : (outS xs).set i [.other v] = outS (xs.set i (v, r)) := by
  unfold outS
  rw [List.map_set]
theorem TOk.set {ts : List (List Int)} {xs : List Cell} {i : Nat} {v : Value} {r : List (List D)} {t : List Int} (h : TOk ts xs) (hr : r = t.map intRow) : TOk (ts.set i t) (xs.set i (v, r)) := by
  unfold TOk at *
  rw [List.map_set, List.map_set, h, hr]
theorem dep_plain {d : Depot} {a b : Value} : PlainAll (DepV d (.agg #[a, b])) [.other a, .other b] d.enc :=
  ⟨.inr ⟨a, rfl, fun _ _ _ h hB => (dep_reps h.now hB).1⟩, .inr ⟨b, rfl, fun _ _ _ h hB => (dep_reps h.now hB).2⟩, trivial⟩

theorem idx_lt {ts : List (List Int)} {xs : List Cell} {i : Nat} (hx : TOk ts xs) (hi : i < ts.length) : i < (outS xs).length := by rw [outS_len, hx.len]; exact hi

/-- What a park or a take comes to. -/
def opD (o : Option Depot) : Depot := match o with | some p => p | none => dNone
def opB (o : Option Depot) : Bool := o.isSome
def pkD (d : Depot) (v t : Int) : Option Depot := if depOk d then parkD d v t else none
def tkD (d : Depot) (v : Int) : Option Depot := if depOk d then takeD d v else none

theorem c6 (d : Depot) (hf : d.fit) (v t : Int) : CallOk Try.prog 6 [.imm (.agg d.enc), .imm (.int .i64 v), .imm (.int .i64 t)] { res := [.imm (.agg (opD (pkD d v t)).enc), .imm (.bool (opB (pkD d v t)))], sep := false } := by
  refine callOk_of tyOk Try.func6 rfl rfl (le_of_ble rfl) (le_of_ble rfl) (mutOk_imm rfl _) ?_
  have hV := c12 d hf
  have hC := x22 d hf
  unfold pkD
  cases hok : depOk d with
  | false =>
    rw [hok] at hV
    rw [if_neg (by simp)]
    repeat' first | refine go_seq ?_ | refine go_region ?_ | refine go_miss rfl rfl rfl ?_ | refine go_undef rfl rfl rfl ?_ | refine go_draw drawsOk ?_ | ((first | refine go_op rfl ?_ | refine go_nil ?_ | refine go_hit rfl rfl rfl ?_ | refine go_splitT rfl rfl rfl (fun h => ?_) (fun h => ?_) | refine go_splitF rfl rfl rfl (fun h => ?_) (fun h => ?_) | refine go_storeBox rfl rfl rfl rfl rfl rfl ?_ | refine go_dop rfl ?_ | refine go_dhit rfl rfl ?_ | refine go_dmiss rfl rfl ?_ | refine go_dundef rfl rfl ?_ | refine go_dend (by kernel_rfl) ?_ | refine go_pickT rfl ?_ | refine go_pickF rfl ?_ | refine go_pick rfl (fun h => ?_) (fun h => ?_) | refine go_call [] (hV) rfl rfl rfl rfl ?_) <;> conv => whnf) | ((first | refine Or.inl ?_ | refine go_dsplit2 rfl (fun h => ?_) (fun h => ?_) | refine go_loadB ?_ | refine ⟨by kernel_rfl, ?_⟩ | refine go_ret ?_) <;> conv => whnf) | refine go_block ?_ | ((first | refine go_skip ?_ | refine go_exit ?_) <;> conv => whnf) | refine go_true rfl ?_ | refine go_false rfl ?_ | refine go_cond rfl (fun h => ?_) (fun h => ?_) | refine ⟨rfl, ?_⟩ | ((first | refine ⟨trivial, ?_⟩ | refine ⟨le_of_ble rfl, ?_⟩) <;> conv => whnf) | fail
    all_goals first
      | exact ret_all rfl ⟨⟨rfl, fun h => by cases h⟩, ⟨rfl, fun h => by cases h⟩, trivial⟩ List.nodup_nil List.nodup_nil trivial
      | (exfalso; simp at h; done)
      | (exfalso; simp at h; omega)
      | (exfalso; simp only [decide_eq_true_eq, decide_eq_false_iff_not, List.length_map, outS_len] at *; omega)
      | (exfalso; simp_all; done)
      | (exfalso; simp_all; omega)
      | trace_state
  | true =>
  rw [hok] at hV
  rw [if_pos rfl]
  obtain ⟨g1, g2, g3, _, _⟩ := depOk_iff.1 hok
  obtain ⟨f1, f2, f3⟩ := hf
  have hPl0 := c36 d.tracks f2 f3 v
  by_cases hrg : 0 ≤ t ∧ t < d.tracks.length
  case neg =>
    have hnone : parkD d v t = none := by unfold parkD; rw [if_neg (fun h => hrg ⟨h.1, h.2.1⟩)]
    rw [hnone]
    repeat' first | (refine go_split tyOk (X := { x : Sl × Sl // r = .agg #[x.1.v, x.2.v] }) (id := nid 3 14) (id1 := 3000) (id2 := 3001) (I1 := fun x => FlatI 3 1 (d.sizes.map intRow) x.1.1.v) (I2 := fun x => LstI d.tracks x.1.2.v) rfl rfl rfl rfl (fun w F hF => dep_open hF) ?_; rintro ⟨⟨⟨a1, n1, c1⟩, a2, n2, c2⟩, hv⟩; subst hv; conv => whnf) | (refine go_split tyOk (X := { q : List Cell // TOk d.tracks q }) (id := 3001) (id1 := 3002) (id2 := 9024) (I1 := fun x => FlatI 24 1 (outS x.1) (.slice a2 n2 c2)) (I2 := fun x => InnI 3 1 x.1) rfl rfl rfl rfl (fun w F hF => lst_open0 hF) ?_; rintro ⟨xs, hx⟩; conv => whnf) | (refine go_ownCell tyOk (s := 14) (j := 1) (id := 3002) (id' := 3003) (ty := 24) (sz := 1) (ds := [.other (.slice a1 n1 c1), .other (.slice a2 n2 c2)]) (rows := outS xs) (v := .slice a2 n2 c2) rfl rfl rfl (fun w F h => h) rfl ?_; conv => whnf) | (refine go_ownCellM tyOk (s := 14) (j := 0) (id := 3000) (id' := 3004) (ty := 3) (sz := 1) (rows := d.sizes.map intRow) (v := .slice a1 n1 c1) rfl rfl rfl (fun w F h => h) rfl ?_; conv => whnf) | (refine go_ext (ext_xcall hC [] (fun _ _ => True) (v := Value.slice none 0 0) [] ⟨look_imm _ _ _, trivial⟩ (by simp) (.inr fun u => ⟨rfl, rfl, rfl⟩) (split_no _ _) have0 rfl rfl rfl rfl ?_); intro r; conv => whnf) | (refine go_ext (ext_inline tyOk Try.func23 rfl rfl [3003, 3004, 9024] 100 rfl rfl ?_); (conv => whnf); refine ⟨rfl, ?_⟩) | (refine inl_ret [] rfl ?_; (conv => whnf); refine ⟨rfl, subL_cons rfl (O.sub_refl _) (subL_cons rfl (O.sub_refl _) (subL_cons rfl (O.sub_refl _) trivial)), ?_⟩; conv => whnf) | refine go_seq ?_ | refine go_region ?_ | refine go_miss rfl rfl rfl ?_ | refine go_undef rfl rfl rfl ?_ | refine go_draw drawsOk ?_ | ((first | refine go_op rfl ?_ | refine go_nil ?_ | refine go_hit rfl rfl rfl ?_ | refine go_splitT rfl rfl rfl (fun h => ?_) (fun h => ?_) | refine go_splitF rfl rfl rfl (fun h => ?_) (fun h => ?_) | refine go_storeBox rfl rfl rfl rfl rfl rfl ?_ | refine go_dop rfl ?_ | refine go_dhit rfl rfl ?_ | refine go_dmiss rfl rfl ?_ | refine go_dundef rfl rfl ?_ | refine go_dend (by kernel_rfl) ?_ | refine go_pickT rfl ?_ | refine go_pickF rfl ?_ | refine go_pick rfl (fun h => ?_) (fun h => ?_) | refine go_call [] (hV) rfl rfl rfl rfl ?_) <;> conv => whnf) | ((first | refine Or.inl ?_ | refine go_dsplit2 rfl (fun h => ?_) (fun h => ?_) | refine go_loadB ?_ | refine ⟨by kernel_rfl, ?_⟩ | refine go_ret ?_) <;> conv => whnf) | refine go_block ?_ | ((first | refine go_skip ?_ | refine go_exit ?_) <;> conv => whnf) | refine go_true rfl ?_ | refine go_false rfl ?_ | refine go_cond rfl (fun h => ?_) (fun h => ?_) | refine ⟨rfl, ?_⟩ | ((first | refine ⟨trivial, ?_⟩ | refine ⟨le_of_ble rfl, ?_⟩) <;> conv => whnf) | fail
    all_goals first
      | exact ret_all rfl ⟨⟨rfl, fun h => by cases h⟩, ⟨rfl, fun h => by cases h⟩, trivial⟩ List.nodup_nil List.nodup_nil trivial
      | (exfalso; have hxl := hx.len; simp only [decide_eq_true_eq, decide_eq_false_iff_not, outS_len] at *; omega)
      | (exfalso; simp at h; done)
      | trace_state
  obtain ⟨i, rfl⟩ : ∃ i : Nat, t = (i : Nat) := ⟨t.toNat, by omega⟩
  have hi : i < d.tracks.length := by omega
  have ht := trk_at hi
  obtain ⟨s, hs⟩ : ∃ s, d.sizes[i]? = some s := ⟨_, List.getElem?_eq_getElem (by omega)⟩
  have hsg : d.sizes.getD i 0 = s := by rw [List.getD_eq_getElem?_getD, hs]; rfl
  have hszs := szOk_at g3 hs
  have htf := f3 _ (List.mem_of_getElem? ht)
  have hpd : parkD d v ((i : Nat) : Int) = if ((trk d.tracks i).length : Int) < s ∧ inR v 1 99 = true ∧ plc d.tracks v = none then some ⟨d.sizes, d.tracks.set i (trk d.tracks i ++ [v])⟩ else none := by
    unfold parkD
    rw [Int.toNat_natCast, hsg]
    by_cases h3 : ((trk d.tracks i).length : Int) < s ∧ inR v 1 99 = true ∧ plc d.tracks v = none
    · rw [if_pos h3, if_pos ⟨by omega, by omega, h3⟩]
    · rw [if_neg h3, if_neg (fun h => h3 ⟨h.2.2.1, h.2.2.2⟩)]
  rw [hpd]
  generalize trk d.tracks i = tr at *
  have hij : ((i : Nat) : Int) = ((i : Nat) : Int) := rfl
  have hil2 : i < (d.sizes.map intRow).length := by rw [List.length_map]; omega
  have hsr : (d.sizes.map intRow)[i]? = some (intRow s) := by rw [List.getElem?_map, hs]; rfl
  have hW := c29 v 1 99
  by_cases hb : (tr.length : Int) < s
  case neg =>
    rw [if_neg (fun h => hb h.1)]
    repeat' first | (refine go_split tyOk (X := { x : Sl × Sl // r = .agg #[x.1.v, x.2.v] }) (id := nid 3 14) (id1 := 3000) (id2 := 3001) (I1 := fun x => FlatI 3 1 (d.sizes.map intRow) x.1.1.v) (I2 := fun x => LstI d.tracks x.1.2.v) rfl rfl rfl rfl (fun w F hF => dep_open hF) ?_; rintro ⟨⟨⟨a1, n1, c1⟩, a2, n2, c2⟩, hv⟩; subst hv; conv => whnf) | (refine go_split tyOk (X := { q : List Cell × Option Addr × Nat // TOk d.tracks q.1 ∧ q.1[i]? = some (.slice q.2.1 (tr.map intRow).length q.2.2, tr.map intRow) }) (id := 3001) (id1 := 3002) (id2 := 9024) (I1 := fun x => FlatI 24 1 (outS x.1.1) (.slice a2 n2 c2)) (I2 := fun x => InnI 3 1 x.1.1) rfl rfl rfl rfl (fun w F hF => lst_openAt ht hF) ?_; rintro ⟨⟨xs, oa, oc⟩, hx, hxi⟩; simp only at hx hxi; have hil := idx_lt hx hi; conv => whnf) | (refine go_ownCell tyOk (s := 14) (j := 1) (id := 3002) (id' := 3003) (ty := 24) (sz := 1) (ds := [.other (.slice a1 n1 c1), .other (.slice a2 n2 c2)]) (rows := outS xs) (v := .slice a2 n2 c2) rfl rfl rfl (fun w F h => h) rfl ?_; conv => whnf) | (refine go_ownCellM tyOk (s := 14) (j := 0) (id := 3000) (id' := 3004) (ty := 3) (sz := 1) (rows := d.sizes.map intRow) (v := .slice a1 n1 c1) rfl rfl rfl (fun w F h => h) rfl ?_; conv => whnf) | (refine go_ext (ext_xcall hC [] (fun _ _ => True) (v := Value.slice none 0 0) [] ⟨look_imm _ _ _, trivial⟩ (by simp) (.inr fun u => ⟨rfl, rfl, rfl⟩) (split_no _ _) have0 rfl rfl rfl rfl ?_); intro r; conv => whnf) | (refine go_ext (ext_inline tyOk Try.func23 rfl rfl [3003, 3004, 9024] 100 rfl rfl ?_); (conv => whnf); refine ⟨rfl, ?_⟩) | (refine inl_ret [] rfl ?_; (conv => whnf); refine ⟨rfl, subL_cons rfl (O.sub_refl _) (subL_cons rfl (O.sub_refl _) (subL_cons rfl (O.sub_refl _) trivial)), ?_⟩; conv => whnf) | refine go_seq ?_ | refine go_region ?_ | refine go_miss rfl rfl rfl ?_ | refine go_undef rfl rfl rfl ?_ | refine go_draw drawsOk ?_ | ((first | refine go_op rfl ?_ | refine go_nil ?_ | refine go_hit rfl rfl rfl ?_ | refine go_splitT rfl rfl rfl (fun h => ?_) (fun h => ?_) | refine go_splitF rfl rfl rfl (fun h => ?_) (fun h => ?_) | refine go_storeBox rfl rfl rfl rfl rfl rfl ?_ | refine go_dop rfl ?_ | refine go_dhit rfl rfl ?_ | refine go_dmiss rfl rfl ?_ | refine go_dundef rfl rfl ?_ | refine go_dend (by kernel_rfl) ?_ | refine go_pickT rfl ?_ | refine go_pickF rfl ?_ | refine go_pick rfl (fun h => ?_) (fun h => ?_) | refine go_call [] (hV) rfl rfl rfl rfl ?_ | refine go_call [] (hW) rfl rfl rfl rfl ?_ | refine go_idxOwnI (j := i) rfl rfl hij rfl rfl rfl rfl hil ?_ | refine go_idxOwnI (j := i) rfl rfl hij rfl rfl rfl rfl hil2 ?_ | refine go_loadEl (i := i) rfl rfl rfl (outS_at hxi) ?_ | refine go_loadEl (i := i) rfl rfl rfl hsr ?_) <;> conv => whnf) | ((first | refine Or.inl ?_ | refine go_dsplit2 rfl (fun h => ?_) (fun h => ?_) | refine go_loadB ?_ | refine ⟨by kernel_rfl, ?_⟩ | refine go_ret ?_) <;> conv => whnf) | refine go_block ?_ | ((first | refine go_skip ?_ | refine go_exit ?_) <;> conv => whnf) | refine go_true rfl ?_ | refine go_false rfl ?_ | refine go_cond rfl (fun h => ?_) (fun h => ?_) | refine ⟨rfl, ?_⟩ | ((first | refine ⟨trivial, ?_⟩ | refine ⟨le_of_ble rfl, ?_⟩) <;> conv => whnf) | fail
    all_goals first
      | exact ret_all rfl ⟨⟨rfl, fun h => by cases h⟩, ⟨rfl, fun h => by cases h⟩, trivial⟩ List.nodup_nil List.nodup_nil trivial
      | (exfalso; have hxl := hx.len; simp only [decide_eq_true_eq, decide_eq_false_iff_not, outS_len, List.length_map] at *; omega)
      | (exfalso; simp at h; done)
      | trace_state
  by_cases hv19 : inR v 1 99 = true
  case neg =>
    rw [if_neg (fun h => hv19 h.2.1)]
    have hv19' : inR v 1 99 = false := by simpa using hv19
    rw [hv19'] at hW
    repeat' first | (refine go_split tyOk (X := { x : Sl × Sl // r = .agg #[x.1.v, x.2.v] }) (id := nid 3 14) (id1 := 3000) (id2 := 3001) (I1 := fun x => FlatI 3 1 (d.sizes.map intRow) x.1.1.v) (I2 := fun x => LstI d.tracks x.1.2.v) rfl rfl rfl rfl (fun w F hF => dep_open hF) ?_; rintro ⟨⟨⟨a1, n1, c1⟩, a2, n2, c2⟩, hv⟩; subst hv; conv => whnf) | (refine go_split tyOk (X := { q : List Cell × Option Addr × Nat // TOk d.tracks q.1 ∧ q.1[i]? = some (.slice q.2.1 (tr.map intRow).length q.2.2, tr.map intRow) }) (id := 3001) (id1 := 3002) (id2 := 9024) (I1 := fun x => FlatI 24 1 (outS x.1.1) (.slice a2 n2 c2)) (I2 := fun x => InnI 3 1 x.1.1) rfl rfl rfl rfl (fun w F hF => lst_openAt ht hF) ?_; rintro ⟨⟨xs, oa, oc⟩, hx, hxi⟩; simp only at hx hxi; have hil := idx_lt hx hi; conv => whnf) | (refine go_ownCell tyOk (s := 14) (j := 1) (id := 3002) (id' := 3003) (ty := 24) (sz := 1) (ds := [.other (.slice a1 n1 c1), .other (.slice a2 n2 c2)]) (rows := outS xs) (v := .slice a2 n2 c2) rfl rfl rfl (fun w F h => h) rfl ?_; conv => whnf) | (refine go_ownCellM tyOk (s := 14) (j := 0) (id := 3000) (id' := 3004) (ty := 3) (sz := 1) (rows := d.sizes.map intRow) (v := .slice a1 n1 c1) rfl rfl rfl (fun w F h => h) rfl ?_; conv => whnf) | (refine go_ext (ext_xcall hC [] (fun _ _ => True) (v := Value.slice none 0 0) [] ⟨look_imm _ _ _, trivial⟩ (by simp) (.inr fun u => ⟨rfl, rfl, rfl⟩) (split_no _ _) have0 rfl rfl rfl rfl ?_); intro r; conv => whnf) | (refine go_ext (ext_inline tyOk Try.func23 rfl rfl [3003, 3004, 9024] 100 rfl rfl ?_); (conv => whnf); refine ⟨rfl, ?_⟩) | (refine inl_ret [] rfl ?_; (conv => whnf); refine ⟨rfl, subL_cons rfl (O.sub_refl _) (subL_cons rfl (O.sub_refl _) (subL_cons rfl (O.sub_refl _) trivial)), ?_⟩; conv => whnf) | refine go_seq ?_ | refine go_region ?_ | refine go_miss rfl rfl rfl ?_ | refine go_undef rfl rfl rfl ?_ | refine go_draw drawsOk ?_ | ((first | refine go_op rfl ?_ | refine go_nil ?_ | refine go_hit rfl rfl rfl ?_ | refine go_splitT rfl rfl rfl (fun h => ?_) (fun h => ?_) | refine go_splitF rfl rfl rfl (fun h => ?_) (fun h => ?_) | refine go_storeBox rfl rfl rfl rfl rfl rfl ?_ | refine go_dop rfl ?_ | refine go_dhit rfl rfl ?_ | refine go_dmiss rfl rfl ?_ | refine go_dundef rfl rfl ?_ | refine go_dend (by kernel_rfl) ?_ | refine go_pickT rfl ?_ | refine go_pickF rfl ?_ | refine go_pick rfl (fun h => ?_) (fun h => ?_) | refine go_call [] (hV) rfl rfl rfl rfl ?_ | refine go_call [] (hW) rfl rfl rfl rfl ?_ | refine go_idxOwnI (j := i) rfl rfl hij rfl rfl rfl rfl hil ?_ | refine go_idxOwnI (j := i) rfl rfl hij rfl rfl rfl rfl hil2 ?_ | refine go_loadEl (i := i) rfl rfl rfl (outS_at hxi) ?_ | refine go_loadEl (i := i) rfl rfl rfl hsr ?_) <;> conv => whnf) | ((first | refine Or.inl ?_ | refine go_dsplit2 rfl (fun h => ?_) (fun h => ?_) | refine go_loadB ?_ | refine ⟨by kernel_rfl, ?_⟩ | refine go_ret ?_) <;> conv => whnf) | refine go_block ?_ | ((first | refine go_skip ?_ | refine go_exit ?_) <;> conv => whnf) | refine go_true rfl ?_ | refine go_false rfl ?_ | refine go_cond rfl (fun h => ?_) (fun h => ?_) | refine ⟨rfl, ?_⟩ | ((first | refine ⟨trivial, ?_⟩ | refine ⟨le_of_ble rfl, ?_⟩) <;> conv => whnf) | fail
    all_goals first
      | exact ret_all rfl ⟨⟨rfl, fun h => by cases h⟩, ⟨rfl, fun h => by cases h⟩, trivial⟩ List.nodup_nil List.nodup_nil trivial
      | (exfalso; have hxl := hx.len; simp only [decide_eq_true_eq, decide_eq_false_iff_not, outS_len, List.length_map] at *; omega)
      | (exfalso; simp at h; done)
      | trace_state
  rw [hv19] at hW
  cases hp : plc d.tracks v with
  | some y =>
    obtain ⟨pi, pk⟩ := y
    rw [if_neg (fun h => by cases h.2.2)]
    rw [hp] at hPl0
    have hPl : CallOk Try.prog 36 [.imm (.list (d.tracks.map intsRow)), .imm (.int .i64 v)] { res := [.imm (.int .i64 ((pi : Nat) : Int)), .imm (.int .i64 ((pk : Nat) : Int))] } := hPl0
    repeat' first | (refine go_split tyOk (X := { x : Sl × Sl // r = .agg #[x.1.v, x.2.v] }) (id := nid 3 14) (id1 := 3000) (id2 := 3001) (I1 := fun x => FlatI 3 1 (d.sizes.map intRow) x.1.1.v) (I2 := fun x => LstI d.tracks x.1.2.v) rfl rfl rfl rfl (fun w F hF => dep_open hF) ?_; rintro ⟨⟨⟨a1, n1, c1⟩, a2, n2, c2⟩, hv⟩; subst hv; conv => whnf) | (refine go_split tyOk (X := { q : List Cell × Option Addr × Nat // TOk d.tracks q.1 ∧ q.1[i]? = some (.slice q.2.1 (tr.map intRow).length q.2.2, tr.map intRow) }) (id := 3001) (id1 := 3002) (id2 := 9024) (I1 := fun x => FlatI 24 1 (outS x.1.1) (.slice a2 n2 c2)) (I2 := fun x => InnI 3 1 x.1.1) rfl rfl rfl rfl (fun w F hF => lst_openAt ht hF) ?_; rintro ⟨⟨xs, oa, oc⟩, hx, hxi⟩; simp only at hx hxi; have hil := idx_lt hx hi; conv => whnf) | (refine go_ownCell tyOk (s := 14) (j := 1) (id := 3002) (id' := 3003) (ty := 24) (sz := 1) (ds := [.other (.slice a1 n1 c1), .other (.slice a2 n2 c2)]) (rows := outS xs) (v := .slice a2 n2 c2) rfl rfl rfl (fun w F h => h) rfl ?_; conv => whnf) | (refine go_ownCellM tyOk (s := 14) (j := 0) (id := 3000) (id' := 3004) (ty := 3) (sz := 1) (rows := d.sizes.map intRow) (v := .slice a1 n1 c1) rfl rfl rfl (fun w F h => h) rfl ?_; conv => whnf) | (refine go_ext (ext_xcall hC [] (fun _ _ => True) (v := Value.slice none 0 0) [] ⟨look_imm _ _ _, trivial⟩ (by simp) (.inr fun u => ⟨rfl, rfl, rfl⟩) (split_no _ _) have0 rfl rfl rfl rfl ?_); intro r; conv => whnf) | (refine go_ext (ext_inline tyOk Try.func23 rfl rfl [3003, 3004, 9024] 100 rfl rfl ?_); (conv => whnf); refine ⟨rfl, ?_⟩) | (refine go_ext (ext_xlookN (ds := [.list (d.tracks.map intsRow), .int .i64 v]) (rs := [.int .i64 (((pi : Nat) : Int)), .int .i64 (((pk : Nat) : Int))]) hPl rfl [3003, 9024] ⟨look_lst (id := 3003) (id2 := 9024) rfl rfl (by simp) (by simp) hx rfl, look_imm _ _ _, trivial⟩ rfl ?_); conv => whnf) | (refine inl_ret [] rfl ?_; (conv => whnf); refine ⟨rfl, subL_cons rfl (O.sub_refl _) (subL_cons rfl (O.sub_refl _) (subL_cons rfl (O.sub_refl _) trivial)), ?_⟩; conv => whnf) | refine go_seq ?_ | refine go_region ?_ | refine go_miss rfl rfl rfl ?_ | refine go_undef rfl rfl rfl ?_ | refine go_draw drawsOk ?_ | ((first | refine go_op rfl ?_ | refine go_nil ?_ | refine go_hit rfl rfl rfl ?_ | refine go_splitT rfl rfl rfl (fun h => ?_) (fun h => ?_) | refine go_splitF rfl rfl rfl (fun h => ?_) (fun h => ?_) | refine go_storeBox rfl rfl rfl rfl rfl rfl ?_ | refine go_dop rfl ?_ | refine go_dhit rfl rfl ?_ | refine go_dmiss rfl rfl ?_ | refine go_dundef rfl rfl ?_ | refine go_dend (by kernel_rfl) ?_ | refine go_pickT rfl ?_ | refine go_pickF rfl ?_ | refine go_pick rfl (fun h => ?_) (fun h => ?_) | refine go_call [] (hV) rfl rfl rfl rfl ?_ | refine go_call [] (hW) rfl rfl rfl rfl ?_ | refine go_idxOwnI (j := i) rfl rfl hij rfl rfl rfl rfl hil ?_ | refine go_idxOwnI (j := i) rfl rfl hij rfl rfl rfl rfl hil2 ?_ | refine go_loadEl (i := i) rfl rfl rfl (outS_at hxi) ?_ | refine go_loadEl (i := i) rfl rfl rfl hsr ?_) <;> conv => whnf) | ((first | refine Or.inl ?_ | refine go_dsplit2 rfl (fun h => ?_) (fun h => ?_) | refine go_loadB ?_ | refine ⟨by kernel_rfl, ?_⟩ | refine go_ret ?_) <;> conv => whnf) | refine go_block ?_ | ((first | refine go_skip ?_ | refine go_exit ?_) <;> conv => whnf) | refine go_true rfl ?_ | refine go_false rfl ?_ | refine go_cond rfl (fun h => ?_) (fun h => ?_) | refine ⟨rfl, ?_⟩ | ((first | refine ⟨trivial, ?_⟩ | refine ⟨le_of_ble rfl, ?_⟩) <;> conv => whnf) | fail
    all_goals first
      | exact ret_all rfl ⟨⟨rfl, fun h => by cases h⟩, ⟨rfl, fun h => by cases h⟩, trivial⟩ List.nodup_nil List.nodup_nil trivial
      | (exfalso; have hxl := hx.len; simp only [decide_eq_true_eq, decide_eq_false_iff_not, outS_len, List.length_map] at *; omega)
      | (exfalso; simp at h; done)
      | trace_state
  | none =>
    rw [if_pos ⟨hb, hv19, rfl⟩]
    rw [hp] at hPl0
    have hPl : CallOk Try.prog 36 [.imm (.list (d.tracks.map intsRow)), .imm (.int .i64 v)] { res := [.imm (.int .i64 (-1)), .imm (.int .i64 0)] } := hPl0
    have hbd : (tr.map intRow).length + 1 ≤ 1073741824 := by rw [List.length_map]; omega
    have hone : ([v].map intRow).all (fun r => r.all D.one) = true := rfl
    have hgr2 : (tr.map intRow ++ [v].map intRow).all (fun r => r.all D.gr) = true := by rw [← List.map_append]; exact List.all_eq_true.2 (int_gr _)
    have happ : tr.map intRow ++ [v].map intRow = (tr ++ [v]).map intRow := by rw [List.map_append]
    repeat' first | (refine go_split tyOk (X := { x : Sl × Sl // r = .agg #[x.1.v, x.2.v] }) (id := nid 3 14) (id1 := 3000) (id2 := 3001) (I1 := fun x => FlatI 3 1 (d.sizes.map intRow) x.1.1.v) (I2 := fun x => LstI d.tracks x.1.2.v) rfl rfl rfl rfl (fun w F hF => dep_open hF) ?_; rintro ⟨⟨⟨a1, n1, c1⟩, a2, n2, c2⟩, hv⟩; subst hv; conv => whnf) | (refine go_split tyOk (X := { q : List Cell × Option Addr × Nat // TOk d.tracks q.1 ∧ q.1[i]? = some (.slice q.2.1 (tr.map intRow).length q.2.2, tr.map intRow) }) (id := 3001) (id1 := 3002) (id2 := 9024) (I1 := fun x => FlatI 24 1 (outS x.1.1) (.slice a2 n2 c2)) (I2 := fun x => InnI 3 1 x.1.1) rfl rfl rfl rfl (fun w F hF => lst_openAt ht hF) ?_; rintro ⟨⟨xs, oa, oc⟩, hx, hxi⟩; simp only at hx hxi; have hil := idx_lt hx hi; conv => whnf) | (refine go_ownCell tyOk (s := 14) (j := 1) (id := 3002) (id' := 3003) (ty := 24) (sz := 1) (ds := [.other (.slice a1 n1 c1), .other (.slice a2 n2 c2)]) (rows := outS xs) (v := .slice a2 n2 c2) rfl rfl rfl (fun w F h => h) rfl ?_; conv => whnf) | (refine go_ownCellM tyOk (s := 14) (j := 0) (id := 3000) (id' := 3004) (ty := 3) (sz := 1) (rows := d.sizes.map intRow) (v := .slice a1 n1 c1) rfl rfl rfl (fun w F h => h) rfl ?_; conv => whnf) | (refine go_ext (ext_xcall hC [] (fun _ _ => True) (v := Value.slice none 0 0) [] ⟨look_imm _ _ _, trivial⟩ (by simp) (.inr fun u => ⟨rfl, rfl, rfl⟩) (split_no _ _) have0 rfl rfl rfl rfl ?_); intro r; conv => whnf) | (refine go_ext (ext_inline tyOk Try.func23 rfl rfl [3003, 3004, 9024] 100 rfl rfl ?_); (conv => whnf); refine ⟨rfl, ?_⟩) | (refine go_ext (ext_xlookN (ds := [.list (d.tracks.map intsRow), .int .i64 v]) (rs := [.int .i64 (-1), .int .i64 (0)]) hPl rfl [3003, 9024] ⟨look_lst (id := 3003) (id2 := 9024) rfl rfl (by simp) (by simp) hx rfl, look_imm _ _ _, trivial⟩ rfl ?_); conv => whnf) | (refine go_drawT 6 11 drawsOk ?_; conv => whnf) | (refine go_dtake rfl (v := .slice oa (tr.map intRow).length oc) (id := 9024) (aty := 3) (sz := 1) (rows := tr.map intRow) (I := InnI 3 1 xs) (I' := InnO 3 1 xs i) (take_at hxi) ?_; (conv => whnf); refine ⟨(by (conv => whnf);                                                                                                                                                                                                       exact go_loadEl (i := i) rfl rfl rfl (outS_at hxi) rfl), rfl, rfl, rfl, ?_⟩; conv => whnf) | (refine go_exact tyOk (s := 56) (id := nid 105 56) (id' := 6000) (ty := 3) (sz := 1) (rows := tr.map intRow ++ [v].map intRow) rfl rfl (by simp) hgr2 rfl ?_; intro o1 c1'; conv => whnf) | (refine inl_ret [8002] rfl ?_; (conv => whnf); refine ⟨rfl, subL_cons rfl (sub_arr (by simp [outS])) (subL_cons rfl (O.sub_refl _) (subL_cons rfl (O.sub_gone _) trivial)), ?_⟩; conv => whnf) | (refine ret_boxCell (bid := nid 1 6) (j := 0) (id := 3004) (id' := 8000) (ty := 3) (sz := 1) (rows := d.sizes.map intRow) rfl rfl rfl rfl (List.all_eq_true.2 (int_gr _)) rfl ?_; intro o2 c2'; conv => whnf) | (refine ret_boxCell (bid := nid 1 6) (j := 1) (id := 3003) (id' := 8001) (ty := 24) (sz := 1) (rows := outS (xs.set i (.slice o1 (tr.map intRow ++ [v].map intRow).length c1', tr.map intRow ++ [v].map intRow))) rfl rfl rfl (by simp [outS]) (outS_gr _) rfl ?_; intro o3 c3'; conv => whnf) | (refine ret_join (id1 := rid 105 53 1) (id2 := 6000) (id3 := 8002) (I3 := InnI 3 1 (xs.set i (.slice o1 (tr.map intRow ++ [v].map intRow).length c1', tr.map intRow ++ [v].map intRow))) rfl rfl rfl rfl put_at ?_; conv => whnf) | (refine ret_join (id1 := 8001) (id2 := 8002) (id3 := 8003) (I3 := LstI (d.tracks.set i (tr ++ [v])) (.slice o3 (outS (xs.set i (.slice o1 (tr.map intRow ++ [v].map intRow).length c1', tr.map intRow ++ [v].map intRow))).length c3')) rfl rfl rfl rfl (lst_join (hx.set happ)) ?_; conv => whnf) | (refine ret_join (id1 := 8000) (id2 := 8003) (id3 := 8004) (I3 := DepV ⟨d.sizes, d.tracks.set i (tr ++ [v])⟩ (.agg #[.slice o2 (d.sizes.map intRow).length c2', .slice o3 (outS (xs.set i (.slice o1 (tr.map intRow ++ [v].map intRow).length c1', tr.map intRow ++ [v].map intRow))).length c3'])) rfl rfl rfl rfl (dep_join (d := ⟨d.sizes, d.tracks.set i (tr ++ [v])⟩)) ?_; conv => whnf) | (refine ret_plainBox (bid := nid 1 6) (id := 8004) (ds := [.other (.slice o2 (d.sizes.map intRow).length c2'), .other (.slice o3 (outS (xs.set i (.slice o1 (tr.map intRow ++ [v].map intRow).length c1', tr.map intRow ++ [v].map intRow))).length c3')]) (ds' := Depot.enc ⟨d.sizes, d.tracks.set i (tr ++ [v])⟩) rfl rfl dep_plain ?_; conv => whnf) | refine go_seq ?_ | refine go_region ?_ | refine go_miss rfl rfl rfl ?_ | refine go_undef rfl rfl rfl ?_ | refine go_draw drawsOk ?_ | ((first | refine go_op rfl ?_ | refine go_nil ?_ | refine go_hit rfl rfl rfl ?_ | refine go_splitT rfl rfl rfl (fun h => ?_) (fun h => ?_) | refine go_splitF rfl rfl rfl (fun h => ?_) (fun h => ?_) | refine go_storeBox rfl rfl rfl rfl rfl rfl ?_ | refine go_dop rfl ?_ | refine go_dhit rfl rfl ?_ | refine go_dmiss rfl rfl ?_ | refine go_dundef rfl rfl ?_ | refine go_dend (by kernel_rfl) ?_ | refine go_pickT rfl ?_ | refine go_pickF rfl ?_ | refine go_pick rfl (fun h => ?_) (fun h => ?_) | refine Two.mk ?_ trivial | refine Two.mk ?_ ?_ | refine go_call [] (hV) rfl rfl rfl rfl ?_ | refine go_call [] (hW) rfl rfl rfl rfl ?_ | refine go_append (rows2 := [v].map intRow) rfl rfl rfl rfl rfl rfl rfl rfl rfl rfl rfl rfl hone rfl rfl rfl hbd ?_ | refine go_storeRow rfl rfl rfl rfl (outS_at hxi) rfl rfl (outS_set (v := .slice o1 (tr.map intRow ++ [v].map intRow).length c1') (r := tr.map intRow ++ [v].map intRow)) ?_ | refine go_idxOwnI (j := i) rfl rfl hij rfl rfl rfl rfl hil ?_ | refine go_idxOwnI (j := i) rfl rfl hij rfl rfl rfl rfl hil2 ?_ | refine go_loadEl (i := i) rfl rfl rfl (outS_at hxi) ?_ | refine go_loadEl (i := i) rfl rfl rfl hsr ?_) <;> conv => whnf) | ((first | refine Or.inl ?_ | refine go_dsplit2 rfl (fun h => ?_) (fun h => ?_) | refine go_loadB ?_ | refine ⟨by kernel_rfl, ?_⟩ | refine go_ret ?_) <;> conv => whnf) | refine go_block ?_ | ((first | refine go_skip ?_ | refine go_exit ?_) <;> conv => whnf) | refine go_true rfl ?_ | refine go_false rfl ?_ | refine go_cond rfl (fun h => ?_) (fun h => ?_) | refine ⟨rfl, ?_⟩ | ((first | refine ⟨trivial, ?_⟩ | refine ⟨le_of_ble rfl, ?_⟩) <;> conv => whnf) | fail
    all_goals first
      | exact ret_all rfl ⟨⟨rfl, fun h => by cases h⟩, ⟨rfl, fun h => by cases h⟩, trivial⟩ List.nodup_nil List.nodup_nil trivial
      | (exfalso; have hxl := hx.len; simp only [decide_eq_true_eq, decide_eq_false_iff_not, outS_len, List.length_map] at *; omega)
      | (exfalso; simp at h; done)
      | trace_state
end Go.Proofs.Ytkjigbbbobijnaa

