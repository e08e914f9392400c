/- Changes applied, told by blocks: the program. -/
import Derived.Test.YtfjphbjbobojbaaX8
namespace Go.Proofs.Ytfjphbjbobojbaa
open Go Go.Am
set_option maxRecDepth 100000
set_option maxHeartbeats 8000000
attribute [local irreducible] amOps amC opCall opIndexAddr opPick retQ opMake opStore amDraw opAppend opLoad opNilCmp opIndex opSlice xQ

theorem tt_shape {t : Timetable} {v : Value} {w : World} {F : Nat → Prop} (h : ExtAt (TimeV t v) w F) : ∃ x : Sl × Sl × Sl, v = .agg #[x.1.v, x.2.1.v, x.2.2.v] := by
  obtain ⟨x, _⟩ := tt_open h
  exact ⟨x.1, x.2⟩

theorem x23 (t : Timetable) (hf : t.fit) (hv : ttOk t = true) (cs : List Change) (hl : cs.length ≤ 1048576) : XOk Try.prog 23 (XI.imm (.agg t.enc)) [.list (cs.map Change.enc)] (ttR (apT t cs)) [.bool (apOk t cs)] := by
  refine xOk_of tyOk Try.func23 rfl rfl (le_of_ble rfl) ?_
  intro v0
  have h1 := x46 t hf
  have ht12 := tt_12 hv
  by_cases hlong : 24 < cs.length
  · have e1 : apT t cs = ttNone := by unfold apT apO; rw [if_pos hlong]
    have e2 : apOk t cs = false := by unfold apOk apO; rw [if_pos hlong]
    rw [e1, e2]
    repeat' first | refine go_seq ?_ | refine go_region ?_ | refine go_miss rfl rfl rfl ?_ | refine go_undef rfl rfl rfl ?_ | refine go_draw drawsOk ?_ | ((first | refine go_op rfl ?_ | refine go_nil ?_ | refine go_hit rfl rfl rfl ?_ | refine go_splitT rfl rfl rfl (fun h => ?_) (fun h => ?_) | refine go_splitF rfl rfl rfl (fun h => ?_) (fun h => ?_) | refine go_storeBox rfl rfl rfl rfl rfl rfl ?_ | refine go_dop rfl ?_ | refine go_dhit rfl rfl ?_ | refine go_dmiss rfl rfl ?_ | refine go_dundef rfl rfl ?_ | refine go_dend (by kernel_rfl) ?_ | refine go_pickT rfl ?_ | refine go_pickF rfl ?_ | refine go_pick rfl (fun h => ?_) (fun h => ?_) | refine Or.inr ?_) <;> conv => whnf) | ((first | refine Or.inl ?_ | refine go_dsplit2 rfl (fun h => ?_) (fun h => ?_) | refine go_loadB ?_ | refine ⟨by kernel_rfl, ?_⟩ | refine go_ret ?_) <;> conv => whnf) | refine go_block ?_ | ((first | refine go_skip ?_ | refine go_exit ?_) <;> conv => whnf) | refine go_true rfl ?_ | refine go_false rfl ?_ | refine go_cond rfl (fun h => ?_) (fun h => ?_) | refine ⟨rfl, ?_⟩ | ((first | refine ⟨trivial, ?_⟩ | refine ⟨le_of_ble rfl, ?_⟩) <;> conv => whnf) | fail
    all_goals first
      | (refine ret_x (av := .imm (.agg [.other nilV, .other nilV, .other nilV])) [] [] rfl rfl (by intro e; cases e) rfl rfl (close_agg0 (vs := [nilV, nilV, nilV]) nil_tt) (close_no _) (by simp); done)
      | (exfalso; simp at h; omega)
      | trace_state
  have eO : apO t cs = foldC cs t.trips (some 0) := by unfold apO; rw [if_neg hlong]
  have eNone : foldC cs t.trips (some 0) = none → apT t cs = ttNone ∧ apOk t cs = false := fun h => by
    unfold apT apOk
    rw [eO, h]
    exact ⟨rfl, rfl⟩
  have eSome : ∀ out, foldC cs t.trips (some 0) = some out → apT t cs = ckT ⟨t.net, out⟩ ∧ apOk t cs = ttOk ⟨t.net, out⟩ := fun out h => by
    unfold apT apOk ckT
    rw [eO, h]
    exact ⟨rfl, rfl⟩
  repeat' first | (refine go_split tyOk (X := { x : Sl × Sl × Sl // r = .agg #[x.1.v, x.2.1.v, x.2.2.v] }) (id := nid 3 16) (id1 := 3000) (id2 := 3001) (I1 := fun x => NetV t.net (.agg #[x.1.1.v, x.1.2.1.v])) (I2 := fun x => FlatI 54 3 (t.trips.map Trip.enc) x.1.2.2.v) rfl rfl rfl rfl (fun w F hF => tt_open hF) ?_; rintro ⟨⟨⟨a1, n1, c1⟩, ⟨a2, n2, c2⟩, a3, n3, c3⟩, hv⟩; subst hv; conv => whnf) | (refine go_ownCell tyOk (s := 16) (j := 2) (id := 3001) (id' := 3002) (ty := 54) (sz := 3) (ds := [.other (.slice a1 n1 c1), .other (.slice a2 n2 c2), .other (.slice a3 n3 c3)]) (rows := t.trips.map Trip.enc) (v := .slice a3 n3 c3) rfl rfl rfl (fun w F h => h) rfl ?_; conv => whnf) | (refine go_ext (ext_xcall h1 [] (fun _ _ => True) (v := Value.slice none 0 0) [] ⟨look_imm _ _ _, trivial⟩ (by simp) (.inr fun u => ⟨rfl, rfl, rfl⟩) (split_no _ _) have0 rfl rfl rfl rfl ?_); intro r; conv => whnf) | refine go_seq ?_ | refine go_region ?_ | refine go_miss rfl rfl rfl ?_ | refine go_undef rfl rfl rfl ?_ | refine go_draw drawsOk ?_ | ((first | refine go_op rfl ?_ | refine go_nil ?_ | refine go_hit rfl rfl rfl ?_ | refine go_splitT rfl rfl rfl (fun h => ?_) (fun h => ?_) | refine go_splitF rfl rfl rfl (fun h => ?_) (fun h => ?_) | refine go_storeBox rfl rfl rfl rfl rfl rfl ?_ | refine go_dop rfl ?_ | refine go_dhit rfl rfl ?_ | refine go_dmiss rfl rfl ?_ | refine go_dundef rfl rfl ?_ | refine go_dend (by kernel_rfl) ?_ | refine go_pickT rfl ?_ | refine go_pickF rfl ?_ | refine go_pick rfl (fun h => ?_) (fun h => ?_) | refine Or.inr ?_) <;> conv => whnf) | ((first | refine Or.inl ?_ | refine go_dsplit2 rfl (fun h => ?_) (fun h => ?_) | refine go_loadB ?_ | refine ⟨by kernel_rfl, ?_⟩ | refine go_ret ?_) <;> conv => whnf) | refine go_block ?_ | ((first | refine go_skip ?_ | refine go_exit ?_) <;> conv => whnf) | refine go_true rfl ?_ | refine go_false rfl ?_ | refine go_cond rfl (fun h => ?_) (fun h => ?_) | refine ⟨rfl, ?_⟩ | ((first | refine ⟨trivial, ?_⟩ | refine ⟨le_of_ble rfl, ?_⟩) <;> conv => whnf) | fail
  all_goals try first
    | (exfalso; simp at h; omega)
  refine go_loop (α := Nat × List Trip × Int × Value × Value) (fun x => x.1 ≤ cs.length ∧ foldC (cs.drop x.1) x.2.1 (some x.2.2.1) = foldC cs t.trips (some 0) ∧ x.2.1.length ≤ 12 + x.1) (fun x => cs.length - x.1)
    (fun x => st Try.f23.ntmps [(4, .box 1000 0), (6, .box 1001 0), (7, .imm (.int .i64 x.2.2.1)), (17, .imm (.list (cs.map Change.enc))), (18, .imm (.int .i64 (cs.map Change.enc).length)), (19, .imm (.int .i64 (x.1 : Nat)))]
      [(1000, .box 37 ([.list [], .list [], .list []].map .imm)), (1001, .box 37 [.imm (.other x.2.2.2.1), .imm (.other x.2.2.2.2), .own 1002 0 (x.2.1.map Trip.enc).length]), (1002, .arr 54 3 (x.2.1.map Trip.enc)), (1003, .ext (NetV t.net (.agg #[x.2.2.2.1, x.2.2.2.2]))), (1005, .gone)] [1005]) (0, t.trips, 0, .slice a1 n1 c1, .slice a2 n2 c2) ⟨Nat.zero_le _, rfl, ht12⟩ ?_ ?_
  · exact ref_st (fun i => if i = 1000 then nid 1 4 else if i = 1001 then nid 3 6 else if i = 1002 then 3002 else if i = 1003 then 3000 else 0) rfl ⟨⟨rfl, rfl⟩, ⟨rfl, rfl⟩, rfl, rfl, rfl, rfl, trivial⟩ ⟨⟨rfl, wavs_imm _⟩, ⟨rfl, rfl, rfl, ⟨rfl, rfl⟩, trivial⟩, rfl, rfl, rfl, trivial⟩ (by simp [nid, rid]) rfl (by simp [lookM])
  rintro ⟨i, out, last, vs, vl⟩ ⟨hi, hfold, hol⟩
  simp only at hi hfold hol
  have hofit : (⟨t.net, out⟩ : Timetable).fit := ⟨hf.1, by simp only; omega, fun x _ => trivial⟩
  have hview : ((out.map Trip.enc).drop 0).take (out.map Trip.enc).length = out.map Trip.enc := trip_view out
  cases hx : cs[i]? with
  | none =>
    have hge := le_of_at hx
    rw [List.drop_eq_nil_of_le hge] at hfold
    obtain ⟨e1, e2⟩ := eSome out hfold.symm
    rw [e1, e2]
    have hC := x51 ⟨t.net, out⟩ hofit
    repeat' first | (refine go_mixCell tyOk (s := 99) (j := 2) (id := 1002) (id' := 3005) (ty := 54) (sz := 3) (rows := out.map Trip.enc) rfl rfl rfl rfl (List.all_eq_true.2 (trip_gr _)) rfl ?_; intro o3 k3; conv => whnf) | (refine go_mixAll tyOk (s := 99) (ds := [.other vs, .other vl, .other (.slice o3 (out.map Trip.enc).length k3)]) rfl ?_; conv => whnf) | (refine go_join tyOk (id1 := 1003) (id2 := 3005) (id3 := 3006) (I3 := TimeV ⟨t.net, out⟩ (.agg #[vs, vl, .slice o3 (out.map Trip.enc).length k3])) rfl rfl rfl rfl (tt_join (t := ⟨t.net, out⟩) (vs := vs) (vl := vl) (vt := .slice o3 (out.map Trip.enc).length k3)) ?_; conv => whnf) | (refine go_ext (ext_xcallA hC [3006] (fun _ _ => True) (v := .agg #[vs, vl, .slice o3 (out.map Trip.enc).length k3]) [] ⟨look_imm _ _ _, trivial⟩ (by simp) (.inl fun w B u hu => rep_aggX (vs := [vs, vl, .slice o3 (out.map Trip.enc).length k3]) hu) (split_all rfl (fun _ _ h => h)) (have1 rfl) rfl rfl rfl rfl ?_); intro r; conv => whnf) | (refine go_fact tyOk (id := nid 3 100) (p := ∃ x : Sl × Sl × Sl, r = .agg #[x.1.v, x.2.1.v, x.2.2.v]) rfl (fun w F h => tt_shape h) ?_; rintro ⟨⟨⟨a1, n1, c1⟩, ⟨a2, n2, c2⟩, a3, n3, c3⟩, hv⟩; subst hv; conv => whnf) | refine go_seq ?_ | refine go_region ?_ | refine go_miss rfl rfl rfl ?_ | refine go_undef rfl rfl rfl ?_ | refine go_draw drawsOk ?_ | ((first | refine go_op rfl ?_ | refine go_nil ?_ | refine go_hit rfl rfl rfl ?_ | refine go_splitT rfl rfl rfl (fun h => ?_) (fun h => ?_) | refine go_splitF rfl rfl rfl (fun h => ?_) (fun h => ?_) | refine go_storeBox rfl rfl rfl rfl rfl rfl ?_ | refine go_dop rfl ?_ | refine go_dhit rfl rfl ?_ | refine go_dmiss rfl rfl ?_ | refine go_dundef rfl rfl ?_ | refine go_dend (by kernel_rfl) ?_ | refine go_pickT rfl ?_ | refine go_pickF rfl ?_ | refine go_pick rfl (fun h => ?_) (fun h => ?_)) <;> conv => whnf) | ((first | refine Or.inl ?_ | refine go_dsplit2 rfl (fun h => ?_) (fun h => ?_) | refine go_loadB ?_ | refine ⟨by kernel_rfl, ?_⟩ | refine go_ret ?_) <;> conv => whnf) | refine go_block ?_ | ((first | refine go_skip ?_ | refine go_exit ?_) <;> conv => whnf) | refine go_true rfl ?_ | refine go_false rfl ?_ | refine go_cond rfl (fun h => ?_) (fun h => ?_) | refine ⟨rfl, ?_⟩ | ((first | refine ⟨trivial, ?_⟩ | refine ⟨le_of_ble rfl, ?_⟩) <;> conv => whnf) | fail
    all_goals first
      | (refine ret_x (av := .imm (.agg [.other (.slice a1 n1 c1), .other (.slice a2 n2 c2), .other (.slice a3 n3 c3)])) [nid 3 100] [] rfl rfl (by intro e; cases e) rfl rfl (close_agg1 (vs := [.slice a1 n1 c1, .slice a2 n2 c2, .slice a3 n3 c3]) rfl (fun _ _ h => h)) (close_no _) (by simp); done)
      | (exfalso; simp at h; omega)
      | trace_state
  | some c =>
    have hlt := lt_of_at hx
    have hr := row_at Change.enc hx
    rw [fold_next hx] at hfold
    by_cases hlow : c.trip.id ≤ last
    · rw [foldC_low (by simp [tooLow, hlow])] at hfold
      obtain ⟨e1, e2⟩ := eNone hfold.symm
      rw [e1, e2]
      repeat' first | refine go_seq ?_ | refine go_region ?_ | refine go_miss rfl rfl rfl ?_ | refine go_undef rfl rfl rfl ?_ | refine go_draw drawsOk ?_ | ((first | refine go_op rfl ?_ | refine go_nil ?_ | refine go_hit rfl rfl rfl ?_ | refine go_splitT rfl rfl rfl (fun h => ?_) (fun h => ?_) | refine go_splitF rfl rfl rfl (fun h => ?_) (fun h => ?_) | refine go_storeBox rfl rfl rfl rfl rfl rfl ?_ | refine go_dop rfl ?_ | refine go_dhit rfl rfl ?_ | refine go_dmiss rfl rfl ?_ | refine go_dundef rfl rfl ?_ | refine go_dend (by kernel_rfl) ?_ | refine go_pickT rfl ?_ | refine go_pickF rfl ?_ | refine go_pick rfl (fun h => ?_) (fun h => ?_) | refine go_idx rfl rfl rfl rfl (by omega) hr rfl ?_ | refine Or.inr ?_) <;> conv => whnf) | ((first | refine Or.inl ?_ | refine go_dsplit2 rfl (fun h => ?_) (fun h => ?_) | refine go_loadB ?_ | refine ⟨by kernel_rfl, ?_⟩ | refine go_ret ?_) <;> conv => whnf) | refine go_block ?_ | ((first | refine go_skip ?_ | refine go_exit ?_) <;> conv => whnf) | refine go_true rfl ?_ | refine go_false rfl ?_ | refine go_cond rfl (fun h => ?_) (fun h => ?_) | refine ⟨rfl, ?_⟩ | ((first | refine ⟨trivial, ?_⟩ | refine ⟨le_of_ble rfl, ?_⟩) <;> conv => whnf) | fail
      all_goals first
        | (refine ret_x (av := .imm (.agg [.other nilV, .other nilV, .other nilV])) [] [] rfl rfl (by intro e; cases e) rfl rfl (close_agg0 (vs := [nilV, nilV, nilV]) nil_tt) (close_no _) (by simp); done)
        | (exfalso; simp at h; omega)
        | (exfalso; exact of_decide_eq_false h hlow)
        | (exfalso; have h' := of_decide_eq_false h; omega)
        | (exfalso; have h' := of_decide_eq_true h; omega)
        | (exfalso; rename_i hq; have h' := of_decide_eq_true hq; omega)
        | (exfalso; rename_i hq; have h' := of_decide_eq_false hq; omega)
        | (exfalso; rename_i hq _; have h' := of_decide_eq_true hq; omega)
        | (exfalso; rename_i hq _; have h' := of_decide_eq_false hq; omega)
        | trace_state
    have hnlow : tooLow (some last) c = false := by simp [tooLow]; omega
    have hIdx : CallOk Try.prog 47 [.imm (.list (((out.map Trip.enc).drop 0).take (out.map Trip.enc).length)), .imm (.agg c.trip.enc)] { res := [.imm (.int .i64 (placeT out c.trip))] } := by
      rw [hview]; exact c47 out (by omega) c.trip
    have hTi : CallOk Try.prog 48 [.imm (.agg [.list (t.net.stops.map strRow), .list (t.net.lines.map Line.enc), .list (((out.map Trip.enc).drop 0).take (out.map Trip.enc).length)]), .imm (.int .i64 c.trip.id)] { res := [.imm (.int .i64 (findT out c.trip.id))] } := by
      rw [hview]; exact c48 ⟨t.net, out⟩ (by simp only; omega) c.trip.id
    by_cases k1 : c.kind = 1 ∧ c.to = 0 ∧ findT out c.trip.id < 0
    · have hst : stepC out c = some (insT out c.trip) := by unfold stepC; rw [if_pos k1]
      rw [foldC_some hnlow hst] at hfold
      obtain ⟨q1, q2, q3⟩ := k1
      have hW : XOk Try.prog 49 (XI.imm (.agg [.list (t.net.stops.map strRow), .list (t.net.lines.map Line.enc), .list (((out.map Trip.enc).drop 0).take (out.map Trip.enc).length)])) [.agg c.trip.enc] (ttR ⟨t.net, insT out c.trip⟩) [] := by
        rw [hview]; exact x49 ⟨t.net, out⟩ hofit c.trip
      have hnl := step_len hst
      repeat' first | (refine go_extG rfl rfl (ext_xlook (ds := [.agg [.list (t.net.stops.map strRow), .list (t.net.lines.map Line.enc), .list (((out.map Trip.enc).drop 0).take (out.map Trip.enc).length)], .int .i64 c.trip.id]) hTi rfl [1003, 1002] ⟨look_mix ⟨cell_imm (look_ext (id := 1003) rfl (by simp) fun w F B h hB => (net_reps h hB).1), cell_imm (look_ext (id := 1003) rfl (by simp) fun w F B h hB => (net_reps h hB).2), cell_own (look_own (id := 1002) rfl (by simp)), trivial⟩, look_imm _ _ _, trivial⟩ rfl ?_); conv => whnf) | (refine go_split tyOk (X := { x : Sl × Sl × Sl // r = .agg #[x.1.v, x.2.1.v, x.2.2.v] }) (id := nid 8 58) (id1 := 3000) (id2 := 3001) (I1 := fun x => NetV t.net (.agg #[x.1.1.v, x.1.2.1.v])) (I2 := fun x => FlatI 54 3 ((insT out c.trip).map Trip.enc) x.1.2.2.v) rfl rfl rfl rfl (fun w F hF => tt_open hF) ?_; rintro ⟨⟨⟨a1, n1, c1⟩, ⟨a2, n2, c2⟩, a3, n3, c3⟩, hv⟩; subst hv; conv => whnf) | (refine go_ownCell tyOk (s := 58) (j := 2) (id := 3001) (id' := 3002) (ty := 54) (sz := 3) (ds := [.other (.slice a1 n1 c1), .other (.slice a2 n2 c2), .other (.slice a3 n3 c3)]) (rows := (insT out c.trip).map Trip.enc) (v := .slice a3 n3 c3) rfl rfl rfl (fun w F h => h) rfl ?_; conv => whnf) | (refine go_ext (ext_xcall hW [] (fun _ _ => True) (v := Value.slice none 0 0) [1003, 1002] ⟨look_mix ⟨cell_imm (look_ext (id := 1003) rfl (by simp) fun w F B h hB => (net_reps h hB).1), cell_imm (look_ext (id := 1003) rfl (by simp) fun w F B h hB => (net_reps h hB).2), cell_own (look_own (id := 1002) rfl (by simp)), trivial⟩, look_imm _ _ _, trivial⟩ (by simp) (.inr fun u => ⟨rfl, rfl, rfl⟩) (split_no _ _) have0 rfl rfl rfl rfl ?_); intro r; conv => whnf) | refine go_seq ?_ | refine go_region ?_ | refine go_miss rfl rfl rfl ?_ | refine go_undef rfl rfl rfl ?_ | refine go_draw drawsOk ?_ | ((first | refine go_op rfl ?_ | refine go_nil ?_ | refine go_hit rfl rfl rfl ?_ | refine go_splitT rfl rfl rfl (fun h => ?_) (fun h => ?_) | refine go_splitF rfl rfl rfl (fun h => ?_) (fun h => ?_) | refine go_storeBox rfl rfl rfl rfl rfl rfl ?_ | refine go_dop rfl ?_ | refine go_dhit rfl rfl ?_ | refine go_dmiss rfl rfl ?_ | refine go_dundef rfl rfl ?_ | refine go_dend (by kernel_rfl) ?_ | refine go_pickT rfl ?_ | refine go_pickF rfl ?_ | refine go_pick rfl (fun h => ?_) (fun h => ?_) | refine go_call [] (hIdx) rfl rfl rfl rfl ?_ | refine go_idx rfl rfl rfl rfl (by omega) hr rfl ?_) <;> conv => whnf) | ((first | refine Or.inl ?_ | refine go_dsplit2 rfl (fun h => ?_) (fun h => ?_) | refine go_loadB ?_ | refine ⟨by kernel_rfl, ?_⟩ | refine go_ret ?_) <;> conv => whnf) | refine go_block ?_ | ((first | refine go_skip ?_ | refine go_exit ?_) <;> conv => whnf) | refine go_true rfl ?_ | refine go_false rfl ?_ | refine go_cond rfl (fun h => ?_) (fun h => ?_) | refine ⟨rfl, ?_⟩ | ((first | refine ⟨trivial, ?_⟩ | refine ⟨le_of_ble rfl, ?_⟩) <;> conv => whnf) | fail
      all_goals first
        | (refine go_next (i + 1, insT out c.trip, c.trip.id, .slice a1 n1 c1, .slice a2 n2 c2) ?_ ?_ ?_
           · exact ⟨by simp only; omega, hfold, by simp only; omega⟩
           · simp only; omega
           · refine ref_st (fun i => if i = 1002 then 3002 else if i = 1003 then 3000 else i) rfl ?_ ?_ ?_ ?_ ?_
             · exact ⟨⟨rfl, rfl⟩, ⟨rfl, rfl⟩, rfl, rfl, rfl, next_i (by omega), trivial⟩
             · exact ⟨⟨rfl, wavs_imm _⟩, ⟨rfl, rfl, rfl, ⟨rfl, rfl⟩, trivial⟩, rfl, rfl, rfl, trivial⟩
             · simp
             · rfl
             · simp [lookM]
           done)
        | (exfalso; exact of_decide_eq_false h q1)
        | (exfalso; exact of_decide_eq_false h q2)
        | (exfalso; exact of_decide_eq_false h q3)
        | (exfalso; exact hlow (of_decide_eq_true h))
        | (exfalso; simp at h; omega)
        | (exfalso; have h' := of_decide_eq_false h; omega)
        | (exfalso; have h' := of_decide_eq_true h; omega)
        | (exfalso; rename_i hq; have h' := of_decide_eq_true hq; omega)
        | (exfalso; rename_i hq; have h' := of_decide_eq_false hq; omega)
        | (exfalso; rename_i hq _; have h' := of_decide_eq_true hq; omega)
        | (exfalso; rename_i hq _; have h' := of_decide_eq_false hq; omega)
        | (exfalso; rename_i a1 a2 a3; exact of_decide_eq_false a1 q3)
        | (exfalso; rename_i a1 a2 a3 a4; exact of_decide_eq_false a1 q3)
        | (exfalso; rename_i a1 a2; exact of_decide_eq_false a1 q3)
        | (exfalso; simp_all; done)
        | trace_state
    have hst1 : stepC out c = if c.kind = 2 ∧ c.to = 0 ∧ 0 ≤ placeT out c.trip then some (delAt out (placeT out c.trip).toNat) else if c.kind = 3 ∧ c.to ≠ c.trip.start ∧ 0 ≤ placeT out c.trip then some (setS out (placeT out c.trip).toNat c.to) else none := by
      unfold stepC; rw [if_neg k1]
    by_cases k2 : c.kind = 2 ∧ c.to = 0 ∧ 0 ≤ placeT out c.trip
    · obtain ⟨k, hk1, hk2, hk3⟩ := place_at k2.2.2
      have hst : stepC out c = some (delAt out k) := by rw [hst1, if_pos k2, hk3]; rfl
      rw [foldC_some hnlow hst] at hfold
      rw [hk3] at hIdx
      obtain ⟨q1, q2, _⟩ := k2
      have hW : XOk Try.prog 50 (XI.imm (.agg [.list (t.net.stops.map strRow), .list (t.net.lines.map Line.enc), .list (((out.map Trip.enc).drop 0).take (out.map Trip.enc).length)])) [.int .i64 (k : Int)] (ttR ⟨t.net, delAt out k⟩) [] := by
        rw [hview]; exact x50 ⟨t.net, out⟩ hofit k hk1
      have hnl := step_len hst
      repeat' first | (refine go_extG rfl rfl (ext_xlook (ds := [.agg [.list (t.net.stops.map strRow), .list (t.net.lines.map Line.enc), .list (((out.map Trip.enc).drop 0).take (out.map Trip.enc).length)], .int .i64 c.trip.id]) hTi rfl [1003, 1002] ⟨look_mix ⟨cell_imm (look_ext (id := 1003) rfl (by simp) fun w F B h hB => (net_reps h hB).1), cell_imm (look_ext (id := 1003) rfl (by simp) fun w F B h hB => (net_reps h hB).2), cell_own (look_own (id := 1002) rfl (by simp)), trivial⟩, look_imm _ _ _, trivial⟩ rfl ?_); conv => whnf) | (refine go_split tyOk (X := { x : Sl × Sl × Sl // r = .agg #[x.1.v, x.2.1.v, x.2.2.v] }) (id := nid 9 74) (id1 := 3000) (id2 := 3001) (I1 := fun x => NetV t.net (.agg #[x.1.1.v, x.1.2.1.v])) (I2 := fun x => FlatI 54 3 ((delAt out k).map Trip.enc) x.1.2.2.v) rfl rfl rfl rfl (fun w F hF => tt_open hF) ?_; rintro ⟨⟨⟨a1, n1, c1⟩, ⟨a2, n2, c2⟩, a3, n3, c3⟩, hv⟩; subst hv; conv => whnf) | (refine go_ownCell tyOk (s := 74) (j := 2) (id := 3001) (id' := 3002) (ty := 54) (sz := 3) (ds := [.other (.slice a1 n1 c1), .other (.slice a2 n2 c2), .other (.slice a3 n3 c3)]) (rows := (delAt out k).map Trip.enc) (v := .slice a3 n3 c3) rfl rfl rfl (fun w F h => h) rfl ?_; conv => whnf) | (refine go_ext (ext_xcall hW [] (fun _ _ => True) (v := Value.slice none 0 0) [1003, 1002] ⟨look_mix ⟨cell_imm (look_ext (id := 1003) rfl (by simp) fun w F B h hB => (net_reps h hB).1), cell_imm (look_ext (id := 1003) rfl (by simp) fun w F B h hB => (net_reps h hB).2), cell_own (look_own (id := 1002) rfl (by simp)), trivial⟩, look_imm _ _ _, trivial⟩ (by simp) (.inr fun u => ⟨rfl, rfl, rfl⟩) (split_no _ _) have0 rfl rfl rfl rfl ?_); intro r; conv => whnf) | refine go_seq ?_ | refine go_region ?_ | refine go_miss rfl rfl rfl ?_ | refine go_undef rfl rfl rfl ?_ | refine go_draw drawsOk ?_ | ((first | refine go_op rfl ?_ | refine go_nil ?_ | refine go_hit rfl rfl rfl ?_ | refine go_splitT rfl rfl rfl (fun h => ?_) (fun h => ?_) | refine go_splitF rfl rfl rfl (fun h => ?_) (fun h => ?_) | refine go_storeBox rfl rfl rfl rfl rfl rfl ?_ | refine go_dop rfl ?_ | refine go_dhit rfl rfl ?_ | refine go_dmiss rfl rfl ?_ | refine go_dundef rfl rfl ?_ | refine go_dend (by kernel_rfl) ?_ | refine go_pickT rfl ?_ | refine go_pickF rfl ?_ | refine go_pick rfl (fun h => ?_) (fun h => ?_) | refine go_call [] (hIdx) rfl rfl rfl rfl ?_ | refine go_idx rfl rfl rfl rfl (by omega) hr rfl ?_) <;> conv => whnf) | ((first | refine Or.inl ?_ | refine go_dsplit2 rfl (fun h => ?_) (fun h => ?_) | refine go_loadB ?_ | refine ⟨by kernel_rfl, ?_⟩ | refine go_ret ?_) <;> conv => whnf) | refine go_block ?_ | ((first | refine go_skip ?_ | refine go_exit ?_) <;> conv => whnf) | refine go_true rfl ?_ | refine go_false rfl ?_ | refine go_cond rfl (fun h => ?_) (fun h => ?_) | refine ⟨rfl, ?_⟩ | ((first | refine ⟨trivial, ?_⟩ | refine ⟨le_of_ble rfl, ?_⟩) <;> conv => whnf) | fail
      all_goals first
        | (refine go_next (i + 1, delAt out k, c.trip.id, .slice a1 n1 c1, .slice a2 n2 c2) ?_ ?_ ?_
           · exact ⟨by simp only; omega, hfold, by simp only; omega⟩
           · simp only; omega
           · refine ref_st (fun i => if i = 1002 then 3002 else if i = 1003 then 3000 else i) rfl ?_ ?_ ?_ ?_ ?_
             · exact ⟨⟨rfl, rfl⟩, ⟨rfl, rfl⟩, rfl, rfl, rfl, next_i (by omega), trivial⟩
             · exact ⟨⟨rfl, wavs_imm _⟩, ⟨rfl, rfl, rfl, ⟨rfl, rfl⟩, trivial⟩, rfl, rfl, rfl, trivial⟩
             · simp
             · rfl
             · simp [lookM]
           done)
        | (exfalso; exact of_decide_eq_false h q1)
        | (exfalso; exact of_decide_eq_false h q2)
        | (exfalso; exact hlow (of_decide_eq_true h))
        | (exfalso; simp at h; omega)
        | (exfalso; have h' := of_decide_eq_false h; omega)
        | (exfalso; have h' := of_decide_eq_true h; omega)
        | (exfalso; rename_i hq; have h' := of_decide_eq_true hq; omega)
        | (exfalso; rename_i hq; have h' := of_decide_eq_false hq; omega)
        | (exfalso; rename_i hq _; have h' := of_decide_eq_true hq; omega)
        | (exfalso; rename_i hq _; have h' := of_decide_eq_false hq; omega)
        | (exfalso; rename_i a1 a2 a3; have h' := of_decide_eq_true a1; omega)
        | (exfalso; rename_i a1 a2 a3 a4; have h' := of_decide_eq_true a1; omega)
        | (exfalso; rename_i a1 a2 a3 a4 a5; have h' := of_decide_eq_true a1; omega)
        | (exfalso; rename_i a1 a2 a3 a4 a5 a6; have h' := of_decide_eq_true a1; omega)
        | (exfalso; rename_i a1 a2 a3 a4; have h' := of_decide_eq_false a1; omega)
        | (exfalso; rename_i a1 a2 a3 a4 a5; have h' := of_decide_eq_false a1; omega)
        | trace_state
    by_cases k3 : c.kind = 3 ∧ c.to ≠ c.trip.start ∧ 0 ≤ placeT out c.trip
    · obtain ⟨k, hk1, hk2, hk3⟩ := place_at k3.2.2
      have hst : stepC out c = some (setS out k c.to) := by rw [hst1, if_neg k2, if_pos k3, hk3]; rfl
      rw [foldC_some hnlow hst] at hfold
      rw [hk3] at hIdx
      obtain ⟨q1, q2, _⟩ := k3
      have hnl := step_len hst
      have hkl : k < (out.map Trip.enc).length := by rw [List.length_map]; exact hk1
      have hat : (out.map Trip.enc)[k]? = some c.trip.enc := by simp [hk2]
      have hset : (out.map Trip.enc).set k (setAt c.trip.enc 2 [.int .i64 c.to]) = (setS out k c.to).map Trip.enc := by
        rw [setS_at hk2, List.map_set]; rfl
      repeat' first | (refine go_extG rfl rfl (ext_xlook (ds := [.agg [.list (t.net.stops.map strRow), .list (t.net.lines.map Line.enc), .list (((out.map Trip.enc).drop 0).take (out.map Trip.enc).length)], .int .i64 c.trip.id]) hTi rfl [1003, 1002] ⟨look_mix ⟨cell_imm (look_ext (id := 1003) rfl (by simp) fun w F B h hB => (net_reps h hB).1), cell_imm (look_ext (id := 1003) rfl (by simp) fun w F B h hB => (net_reps h hB).2), cell_own (look_own (id := 1002) rfl (by simp)), trivial⟩, look_imm _ _ _, trivial⟩ rfl ?_); conv => whnf) | refine go_seq ?_ | refine go_region ?_ | refine go_miss rfl rfl rfl ?_ | refine go_undef rfl rfl rfl ?_ | refine go_draw drawsOk ?_ | ((first | refine go_op rfl ?_ | refine go_nil ?_ | refine go_hit rfl rfl rfl ?_ | refine go_splitT rfl rfl rfl (fun h => ?_) (fun h => ?_) | refine go_splitF rfl rfl rfl (fun h => ?_) (fun h => ?_) | refine go_storeBox rfl rfl rfl rfl rfl rfl ?_ | refine go_dop rfl ?_ | refine go_dhit rfl rfl ?_ | refine go_dmiss rfl rfl ?_ | refine go_dundef rfl rfl ?_ | refine go_dend (by kernel_rfl) ?_ | refine go_pickT rfl ?_ | refine go_pickF rfl ?_ | refine go_pick rfl (fun h => ?_) (fun h => ?_) | refine go_call [] (hIdx) rfl rfl rfl rfl ?_ | refine go_idx rfl rfl rfl rfl (by omega) hr rfl ?_ | refine go_idxOwn rfl rfl rfl rfl rfl rfl hkl ?_ | refine go_storeEl rfl rfl rfl rfl hat rfl rfl hset ?_) <;> conv => whnf) | ((first | refine Or.inl ?_ | refine go_dsplit2 rfl (fun h => ?_) (fun h => ?_) | refine go_loadB ?_ | refine ⟨by kernel_rfl, ?_⟩ | refine go_ret ?_) <;> conv => whnf) | refine go_block ?_ | ((first | refine go_skip ?_ | refine go_exit ?_) <;> conv => whnf) | refine go_true rfl ?_ | refine go_false rfl ?_ | refine go_cond rfl (fun h => ?_) (fun h => ?_) | refine ⟨rfl, ?_⟩ | ((first | refine ⟨trivial, ?_⟩ | refine ⟨le_of_ble rfl, ?_⟩) <;> conv => whnf) | fail
      all_goals first
        | (refine go_next (i + 1, setS out k c.to, c.trip.id, vs, vl) ⟨by simp only; omega, hfold, by simp only; omega⟩ (by simp only; omega) (ref_st id rfl ⟨⟨rfl, rfl⟩, ⟨rfl, rfl⟩, rfl, rfl, rfl, next_i (by omega), trivial⟩ ⟨⟨rfl, wavs_imm _⟩, ⟨rfl, rfl, rfl, ⟨?_, rfl⟩, trivial⟩, rfl, rfl, rfl, trivial⟩ (by simp) rfl (by simp [lookM]))
           show AV.own 1002 0 (out.map Trip.enc).length = AV.own 1002 0 ((setS out k c.to).map Trip.enc).length
           rw [List.length_map, List.length_map, setS_len]
           done)
        | (exfalso; exact of_decide_eq_false h q1)
        | (exfalso; exact hlow (of_decide_eq_true h))
        | (exfalso; simp at h; omega)
        | (exfalso; have h' := of_decide_eq_false h; omega)
        | (exfalso; have h' := of_decide_eq_true h; omega)
        | (exfalso; rename_i hq; have h' := of_decide_eq_true hq; omega)
        | (exfalso; rename_i hq; have h' := of_decide_eq_false hq; omega)
        | (exfalso; rename_i hq _; have h' := of_decide_eq_true hq; omega)
        | (exfalso; rename_i hq _; have h' := of_decide_eq_false hq; omega)
        | (exfalso; rename_i a1 a2 a3; have h' := of_decide_eq_true a1; omega)
        | (exfalso; rename_i a1 a2 a3 a4; have h' := of_decide_eq_true a1; omega)
        | (exfalso; rename_i a1 a2 a3 a4 a5; have h' := of_decide_eq_true a1; omega)
        | (exfalso; rename_i a1 a2 a3 a4 a5 a6; have h' := of_decide_eq_true a1; omega)
        | (exfalso; rename_i a1 a2 a3 a4; have h' := of_decide_eq_false a1; omega)
        | (exfalso; rename_i a1 a2 a3 a4 a5; have h' := of_decide_eq_false a1; omega)
        | trace_state
    · have hst : stepC out c = none := by rw [hst1, if_neg k2, if_neg k3]
      rw [foldC_none hst] at hfold
      obtain ⟨e1, e2⟩ := eNone hfold.symm
      rw [e1, e2]
      repeat' first | (refine go_extG rfl rfl (ext_xlook (ds := [.agg [.list (t.net.stops.map strRow), .list (t.net.lines.map Line.enc), .list (((out.map Trip.enc).drop 0).take (out.map Trip.enc).length)], .int .i64 c.trip.id]) hTi rfl [1003, 1002] ⟨look_mix ⟨cell_imm (look_ext (id := 1003) rfl (by simp) fun w F B h hB => (net_reps h hB).1), cell_imm (look_ext (id := 1003) rfl (by simp) fun w F B h hB => (net_reps h hB).2), cell_own (look_own (id := 1002) rfl (by simp)), trivial⟩, look_imm _ _ _, trivial⟩ rfl ?_); conv => whnf) | refine go_seq ?_ | refine go_region ?_ | refine go_miss rfl rfl rfl ?_ | refine go_undef rfl rfl rfl ?_ | refine go_draw drawsOk ?_ | ((first | refine go_op rfl ?_ | refine go_nil ?_ | refine go_hit rfl rfl rfl ?_ | refine go_splitT rfl rfl rfl (fun h => ?_) (fun h => ?_) | refine go_splitF rfl rfl rfl (fun h => ?_) (fun h => ?_) | refine go_storeBox rfl rfl rfl rfl rfl rfl ?_ | refine go_dop rfl ?_ | refine go_dhit rfl rfl ?_ | refine go_dmiss rfl rfl ?_ | refine go_dundef rfl rfl ?_ | refine go_dend (by kernel_rfl) ?_ | refine go_pickT rfl ?_ | refine go_pickF rfl ?_ | refine go_pick rfl (fun h => ?_) (fun h => ?_) | refine go_call [] (hIdx) rfl rfl rfl rfl ?_ | refine go_idx rfl rfl rfl rfl (by omega) hr rfl ?_ | refine Or.inr ?_) <;> conv => whnf) | ((first | refine Or.inl ?_ | refine go_dsplit2 rfl (fun h => ?_) (fun h => ?_) | refine go_loadB ?_ | refine ⟨by kernel_rfl, ?_⟩ | refine go_ret ?_) <;> conv => whnf) | refine go_block ?_ | ((first | refine go_skip ?_ | refine go_exit ?_) <;> conv => whnf) | refine go_true rfl ?_ | refine go_false rfl ?_ | refine go_cond rfl (fun h => ?_) (fun h => ?_) | refine ⟨rfl, ?_⟩ | ((first | refine ⟨trivial, ?_⟩ | refine ⟨le_of_ble rfl, ?_⟩) <;> conv => whnf) | fail
      all_goals first
        | (refine ret_x (av := .imm (.agg [.other nilV, .other nilV, .other nilV])) [] [] rfl rfl (by intro e; cases e) rfl rfl (close_agg0 (vs := [nilV, nilV, nilV]) nil_tt) (close_no _) (by simp); done)
        | (exfalso; exact hlow (of_decide_eq_true h))
        | (exfalso; simp at h; omega)
        | (exfalso; rename_i a1 a0; exact k1 ⟨of_decide_eq_true a1, of_decide_eq_true a0, of_decide_eq_true h⟩)
        | (exfalso; rename_i a1 a0; exact k2 ⟨of_decide_eq_true a1, of_decide_eq_true a0, of_decide_eq_true h⟩)
        | (exfalso; rename_i a1 a0; exact k3 ⟨of_decide_eq_true a1, by simpa using a0, of_decide_eq_true h⟩)
        | (exfalso; simp_all; done)
        | trace_state
end Go.Proofs.Ytfjphbjbobojbaa

