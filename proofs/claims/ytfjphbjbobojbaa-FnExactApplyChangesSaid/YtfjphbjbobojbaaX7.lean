/- A trip added to a timetable's copy, told by its blocks. -/
import Derived.Test.YtfjphbjbobojbaaX6
import Derived.Test.YtfjphbjbobojbaaV3
namespace Go.Proofs.Ytfjphbjbobojbaa
open Go Go.Am
set_option maxRecDepth 100000
set_option maxHeartbeats 8000000
attribute [local irreducible] amOps amC opCall opIndexAddr opPick retQ opMake opStore amDraw opAppend opLoad opNilCmp opIndex opSlice xQ

theorem x49 (t : Timetable) (hf : t.fit) (x : Trip) : XOk Try.prog 49 (XI.imm (.agg t.enc)) [.agg x.enc] (ttR ⟨t.net, insT t.trips x⟩) [] := by
  refine xOk_of tyOk Try.func49 rfl rfl (le_of_ble rfl) ?_
  intro v0
  have hT := x46 t hf
  have hl := hf.2.1
  repeat' first | refine go_seq ?_ | refine go_region ?_ | refine go_miss rfl rfl rfl ?_ | refine go_undef rfl rfl rfl ?_ | refine go_draw drawsOk ?_ | ((first | refine go_op rfl ?_ | refine go_nil ?_ | refine go_hit rfl rfl rfl ?_ | refine go_splitT rfl rfl rfl (fun h => ?_) (fun h => ?_) | refine go_splitF rfl rfl rfl (fun h => ?_) (fun h => ?_) | refine go_storeBox rfl rfl rfl rfl rfl rfl ?_ | refine go_dop rfl ?_ | refine go_dhit rfl rfl ?_ | refine go_dmiss rfl rfl ?_ | refine go_dundef rfl rfl ?_ | refine go_dend (by kernel_rfl) ?_ | refine go_pickT rfl ?_ | refine go_pickF rfl ?_ | refine go_pick rfl (fun h => ?_) (fun h => ?_)) <;> conv => whnf) | ((first | refine Or.inl ?_ | refine go_dsplit2 rfl (fun h => ?_) (fun h => ?_) | refine go_loadB ?_ | refine ⟨by kernel_rfl, ?_⟩ | refine go_ret ?_) <;> conv => whnf) | refine go_block ?_ | ((first | refine go_skip ?_ | refine go_exit ?_) <;> conv => whnf) | refine go_true rfl ?_ | refine go_false rfl ?_ | refine go_cond rfl (fun h => ?_) (fun h => ?_) | refine ⟨rfl, ?_⟩ | ((first | refine ⟨trivial, ?_⟩ | refine ⟨le_of_ble rfl, ?_⟩) <;> conv => whnf) | fail
  refine go_loop (α := Nat) (fun i => i ≤ t.trips.length ∧ ∀ z ∈ t.trips.take i, ltB x z = true) (fun i => t.trips.length - i)
    (fun i => st Try.f49.ntmps [(2, .box 1000 0), (3, .box 1001 0), (4, .box 1002 0), (5, .imm (.int .i64 (i : Nat)))]
      [(1000, .box 37 (t.enc.map .imm)), (1001, .box 54 (x.enc.map .imm)), (1002, .box 37 ([.list [], .list [], .list []].map .imm)), (1005, .gone)] [1005]) 0 ⟨Nat.zero_le _, fun z hz => by simp at hz⟩ ?_ ?_
  · exact ref_st (fun i => if i = 1000 then nid 1 2 else if i = 1001 then nid 1 3 else if i = 1002 then nid 1 4 else 0) rfl ⟨⟨rfl, rfl⟩, ⟨rfl, rfl⟩, ⟨rfl, rfl⟩, rfl, trivial⟩ ⟨⟨rfl, wavs_imm _⟩, ⟨rfl, wavs_imm _⟩, ⟨rfl, wavs_imm _⟩, rfl, trivial⟩ (by simp [nid]) rfl (by simp [lookM])
  rintro i ⟨hi, ha⟩
  have hfin : (∀ y, t.trips[i]? = some y → ltB x y = false) → insAt t.trips x = i := fun hn => ins_here hi ha hn
  cases hx : t.trips[i]? with
  | none =>
    have hge := le_of_at hx
    have hie : i = t.trips.length := by omega
    have hia := hfin (fun y hy => by rw [hx] at hy; cases hy)
    have hI := c79e t.trips x hl
    have hres : insT t.trips x = t.trips ++ [x] := by unfold insT; rw [hia, hie, List.take_length, List.drop_length]
    rw [hres]
    subst hie
    repeat' first | (refine go_split tyOk (X := { x : Sl × Sl × Sl // r = .agg #[x.1.v, x.2.1.v, x.2.2.v] }) (id := nid 3 26) (id1 := 3000) (id2 := 3001) (I1 := fun x => NetV t.net (.agg #[x.1.1.v, x.1.2.1.v])) (I2 := fun x => FlatI 54 3 (t.trips.map Trip.enc) x.1.2.2.v) rfl rfl rfl rfl (fun w F hF => tt_open hF) ?_; rintro ⟨⟨⟨a1, n1, c1⟩, ⟨a2, n2, c2⟩, a3, n3, c3⟩, hv⟩; subst hv; conv => whnf) | (refine go_ownCell tyOk (s := 26) (j := 2) (id := 3001) (id' := 3002) (ty := 54) (sz := 3) (ds := [.other (.slice a1 n1 c1), .other (.slice a2 n2 c2), .other (.slice a3 n3 c3)]) (rows := t.trips.map Trip.enc) (v := .slice a3 n3 c3) rfl rfl rfl (fun w F h => h) rfl ?_; conv => whnf) | (refine go_ext (ext_xcall hT [] (fun _ _ => True) (v := Value.slice none 0 0) [] ⟨look_imm _ _ _, trivial⟩ (by simp) (.inr fun u => ⟨rfl, rfl, rfl⟩) (split_no _ _) have0 rfl rfl rfl rfl ?_); intro r; conv => whnf) | (refine ret_boxCell (bid := 1002) (j := 2) (id := rid 4 32 0) (id' := 8000) (ty := 54) (sz := 3) (rows := (t.trips ++ [x]).map Trip.enc) rfl rfl rfl rfl (List.all_eq_true.2 (trip_gr _)) rfl ?_; intro o3 k3; conv => whnf) | refine go_seq ?_ | refine go_region ?_ | refine go_miss rfl rfl rfl ?_ | refine go_undef rfl rfl rfl ?_ | refine go_draw drawsOk ?_ | ((first | refine go_op rfl ?_ | refine go_nil ?_ | refine go_hit rfl rfl rfl ?_ | refine go_splitT rfl rfl rfl (fun h => ?_) (fun h => ?_) | refine go_splitF rfl rfl rfl (fun h => ?_) (fun h => ?_) | refine go_storeBox rfl rfl rfl rfl rfl rfl ?_ | refine go_dop rfl ?_ | refine go_dhit rfl rfl ?_ | refine go_dmiss rfl rfl ?_ | refine go_dundef rfl rfl ?_ | refine go_dend (by kernel_rfl) ?_ | refine go_pickT rfl ?_ | refine go_pickF rfl ?_ | refine go_pick rfl (fun h => ?_) (fun h => ?_) | refine go_call [2, 0, 2] hI (argsIn_lent rfl rfl (argsIn_i (argsIn_lent rfl rfl rfl))) rfl rfl rfl ?_) <;> conv => whnf) | ((first | refine Or.inl ?_ | refine go_dsplit2 rfl (fun h => ?_) (fun h => ?_) | refine go_loadB ?_ | refine ⟨by kernel_rfl, ?_⟩ | refine go_ret ?_) <;> conv => whnf) | refine go_block ?_ | ((first | refine go_skip ?_ | refine go_exit ?_) <;> conv => whnf) | refine go_true rfl ?_ | refine go_false rfl ?_ | refine go_cond rfl (fun h => ?_) (fun h => ?_) | refine ⟨rfl, ?_⟩ | ((first | refine ⟨trivial, ?_⟩ | refine ⟨le_of_ble rfl, ?_⟩) <;> conv => whnf) | fail
    all_goals first
      | (refine ret_x (av := .imm (.agg [.other (.slice a1 n1 c1), .other (.slice a2 n2 c2), .other (.slice o3 ((t.trips ++ [x]).map Trip.enc).length k3)])) [3000, 8000] [] rfl rfl (by intro e; cases e) rfl rfl (close_agg2 (vs := [.slice a1 n1 c1, .slice a2 n2 c2, .slice o3 ((t.trips ++ [x]).map Trip.enc).length k3]) rfl rfl rfl (tt_join (t := ⟨t.net, t.trips ++ [x]⟩) (vs := .slice a1 n1 c1) (vl := .slice a2 n2 c2) (vt := .slice o3 ((t.trips ++ [x]).map Trip.enc).length k3))) (close_no v0) (by simp); done)
      | (exfalso; simp at h; done)
      | (exfalso; simp at h; omega)
      | trace_state
  | some y =>
    have hlt := lt_of_at hx
    have hr := row_at Trip.enc hx
    have hI := c79 t.trips x i hlt hl
    cases hb : ltB x y with
    | true =>
      have hb' : y.id < x.id := by simpa [ltB] using hb
      repeat' first | refine go_seq ?_ | refine go_region ?_ | refine go_miss rfl rfl rfl ?_ | refine go_undef rfl rfl rfl ?_ | refine go_draw drawsOk ?_ | ((first | refine go_op rfl ?_ | refine go_nil ?_ | refine go_hit rfl rfl rfl ?_ | refine go_splitT rfl rfl rfl (fun h => ?_) (fun h => ?_) | refine go_splitF rfl rfl rfl (fun h => ?_) (fun h => ?_) | refine go_storeBox rfl rfl rfl rfl rfl rfl ?_ | refine go_dop rfl ?_ | refine go_dhit rfl rfl ?_ | refine go_dmiss rfl rfl ?_ | refine go_dundef rfl rfl ?_ | refine go_dend (by kernel_rfl) ?_ | refine go_pickT rfl ?_ | refine go_pickF rfl ?_ | refine go_pick rfl (fun h => ?_) (fun h => ?_) | refine go_idx rfl rfl rfl rfl (by omega) hr rfl ?_) <;> conv => whnf) | ((first | refine Or.inl ?_ | refine go_dsplit2 rfl (fun h => ?_) (fun h => ?_) | refine go_loadB ?_ | refine ⟨by kernel_rfl, ?_⟩ | refine go_ret ?_) <;> conv => whnf) | refine go_block ?_ | ((first | refine go_skip ?_ | refine go_exit ?_) <;> conv => whnf) | refine go_true rfl ?_ | refine go_false rfl ?_ | refine go_cond rfl (fun h => ?_) (fun h => ?_) | refine ⟨rfl, ?_⟩ | ((first | refine ⟨trivial, ?_⟩ | refine ⟨le_of_ble rfl, ?_⟩) <;> conv => whnf) | fail
      all_goals first
        | (exact go_next (i + 1) ⟨by omega, ins_next hx ha hb⟩ (by omega) (ref_st id rfl ⟨⟨rfl, rfl⟩, ⟨rfl, rfl⟩, ⟨rfl, rfl⟩, next_i (by omega), trivial⟩ ⟨⟨rfl, wavs_imm _⟩, ⟨rfl, wavs_imm _⟩, ⟨rfl, wavs_imm _⟩, rfl, trivial⟩ (by simp) rfl (by simp [lookM])))
        | (exfalso; simp at h; omega)
        | (exfalso; have h' := of_decide_eq_false h; omega)
        | (exfalso; have h' := of_decide_eq_true h; omega)
        | (exfalso; rename_i hq; have h' := of_decide_eq_true hq; omega)
        | (exfalso; rename_i hq; have h' := of_decide_eq_false hq; omega)
        | (exfalso; rename_i hq _; have h' := of_decide_eq_true hq; omega)
        | (exfalso; rename_i hq _; have h' := of_decide_eq_false hq; omega)
        | trace_state
    | false =>
      have hb' : ¬ y.id < x.id := by simpa [ltB] using hb
      have hia := hfin (fun z hz => by rw [hx] at hz; injection hz with hz; rw [← hz]; exact hb)
      have hres : insT t.trips x = t.trips.take i ++ x :: t.trips.drop i := by unfold insT; rw [hia]
      rw [hres]
      repeat' first | (refine go_split tyOk (X := { x : Sl × Sl × Sl // r = .agg #[x.1.v, x.2.1.v, x.2.2.v] }) (id := nid 3 26) (id1 := 3000) (id2 := 3001) (I1 := fun x => NetV t.net (.agg #[x.1.1.v, x.1.2.1.v])) (I2 := fun x => FlatI 54 3 (t.trips.map Trip.enc) x.1.2.2.v) rfl rfl rfl rfl (fun w F hF => tt_open hF) ?_; rintro ⟨⟨⟨a1, n1, c1⟩, ⟨a2, n2, c2⟩, a3, n3, c3⟩, hv⟩; subst hv; conv => whnf) | (refine go_ownCell tyOk (s := 26) (j := 2) (id := 3001) (id' := 3002) (ty := 54) (sz := 3) (ds := [.other (.slice a1 n1 c1), .other (.slice a2 n2 c2), .other (.slice a3 n3 c3)]) (rows := t.trips.map Trip.enc) (v := .slice a3 n3 c3) rfl rfl rfl (fun w F h => h) rfl ?_; conv => whnf) | (refine go_ext (ext_xcall hT [] (fun _ _ => True) (v := Value.slice none 0 0) [] ⟨look_imm _ _ _, trivial⟩ (by simp) (.inr fun u => ⟨rfl, rfl, rfl⟩) (split_no _ _) have0 rfl rfl rfl rfl ?_); intro r; conv => whnf) | (refine ret_boxCell (bid := 1002) (j := 2) (id := rid 4 32 0) (id' := 8000) (ty := 54) (sz := 3) (rows := (t.trips.take i ++ x :: t.trips.drop i).map Trip.enc) rfl rfl rfl rfl (List.all_eq_true.2 (trip_gr _)) rfl ?_; intro o3 k3; conv => whnf) | refine go_seq ?_ | refine go_region ?_ | refine go_miss rfl rfl rfl ?_ | refine go_undef rfl rfl rfl ?_ | refine go_draw drawsOk ?_ | ((first | refine go_op rfl ?_ | refine go_nil ?_ | refine go_hit rfl rfl rfl ?_ | refine go_splitT rfl rfl rfl (fun h => ?_) (fun h => ?_) | refine go_splitF rfl rfl rfl (fun h => ?_) (fun h => ?_) | refine go_storeBox rfl rfl rfl rfl rfl rfl ?_ | refine go_dop rfl ?_ | refine go_dhit rfl rfl ?_ | refine go_dmiss rfl rfl ?_ | refine go_dundef rfl rfl ?_ | refine go_dend (by kernel_rfl) ?_ | refine go_pickT rfl ?_ | refine go_pickF rfl ?_ | refine go_pick rfl (fun h => ?_) (fun h => ?_) | refine go_call [2, 0, 2] hI (argsIn_lent rfl rfl (argsIn_i (argsIn_lent rfl rfl rfl))) rfl rfl rfl ?_ | refine go_idx rfl rfl rfl rfl (by omega) hr rfl ?_) <;> conv => whnf) | ((first | refine Or.inl ?_ | refine go_dsplit2 rfl (fun h => ?_) (fun h => ?_) | refine go_loadB ?_ | refine ⟨by kernel_rfl, ?_⟩ | refine go_ret ?_) <;> conv => whnf) | refine go_block ?_ | ((first | refine go_skip ?_ | refine go_exit ?_) <;> conv => whnf) | refine go_true rfl ?_ | refine go_false rfl ?_ | refine go_cond rfl (fun h => ?_) (fun h => ?_) | refine ⟨rfl, ?_⟩ | ((first | refine ⟨trivial, ?_⟩ | refine ⟨le_of_ble rfl, ?_⟩) <;> conv => whnf) | fail
      all_goals first
        | (refine ret_x (av := .imm (.agg [.other (.slice a1 n1 c1), .other (.slice a2 n2 c2), .other (.slice o3 ((t.trips.take i ++ x :: t.trips.drop i).map Trip.enc).length k3)])) [3000, 8000] [] rfl rfl (by intro e; cases e) rfl rfl (close_agg2 (vs := [.slice a1 n1 c1, .slice a2 n2 c2, .slice o3 ((t.trips.take i ++ x :: t.trips.drop i).map Trip.enc).length k3]) rfl rfl rfl (tt_join (t := ⟨t.net, t.trips.take i ++ x :: t.trips.drop i⟩) (vs := .slice a1 n1 c1) (vl := .slice a2 n2 c2) (vt := .slice o3 ((t.trips.take i ++ x :: t.trips.drop i).map Trip.enc).length k3))) (close_no v0) (by simp); done)
        | (exfalso; simp at h; omega)
        | (exfalso; have h' := of_decide_eq_false h; omega)
        | (exfalso; have h' := of_decide_eq_true h; omega)
        | (exfalso; rename_i hq; have h' := of_decide_eq_true hq; omega)
        | (exfalso; rename_i hq; have h' := of_decide_eq_false hq; omega)
        | (exfalso; rename_i hq _; have h' := of_decide_eq_true hq; omega)
        | (exfalso; rename_i hq _; have h' := of_decide_eq_false hq; omega)
        | trace_state

theorem x50 (t : Timetable) (hf : t.fit) (i : Nat) (hi : i < t.trips.length) : XOk Try.prog 50 (XI.imm (.agg t.enc)) [.int .i64 (i : Int)] (ttR ⟨t.net, delAt t.trips i⟩) [] := by
  refine xOk_of tyOk Try.func50 rfl rfl (le_of_ble rfl) ?_
  intro v0
  have hT := x46 t hf
  have hl := hf.2.1
  have e1 : IntKind.i64.wrap ((i : Int) + 1) = ((i + 1 : Nat) : Int) := by rw [wrap_small (by omega) (by omega)]; omega
  have hD : CallOk Try.prog 80 [.arr 54 3 (t.trips.map Trip.enc), .imm (.int .i64 (i : Int)), .imm (.int .i64 (IntKind.i64.wrap ((i : Int) + 1)))] { res := [.arr 54 3 ((delAt t.trips i).map Trip.enc)] } := by
    rw [e1]; exact c80 t.trips i hi
  repeat' first | (refine go_split tyOk (X := { x : Sl × Sl × Sl // r = .agg #[x.1.v, x.2.1.v, x.2.2.v] }) (id := nid 2 7) (id1 := 3000) (id2 := 3001) (I1 := fun x => NetV t.net (.agg #[x.1.1.v, x.1.2.1.v])) (I2 := fun x => FlatI 54 3 (t.trips.map Trip.enc) x.1.2.2.v) rfl rfl rfl rfl (fun w F hF => tt_open hF) ?_; rintro ⟨⟨⟨a1, n1, c1⟩, ⟨a2, n2, c2⟩, a3, n3, c3⟩, hv⟩; subst hv; conv => whnf) | (refine go_ownCell tyOk (s := 7) (j := 2) (id := 3001) (id' := 3002) (ty := 54) (sz := 3) (ds := [.other (.slice a1 n1 c1), .other (.slice a2 n2 c2), .other (.slice a3 n3 c3)]) (rows := t.trips.map Trip.enc) (v := .slice a3 n3 c3) rfl rfl rfl (fun w F h => h) rfl ?_; conv => whnf) | (refine go_ext (ext_xcall hT [] (fun _ _ => True) (v := Value.slice none 0 0) [] ⟨look_imm _ _ _, trivial⟩ (by simp) (.inr fun u => ⟨rfl, rfl, rfl⟩) (split_no _ _) have0 rfl rfl rfl rfl ?_); intro r; conv => whnf) | (refine ret_boxCell (bid := nid 1 4) (j := 2) (id := rid 3 13 0) (id' := 8000) (ty := 54) (sz := 3) (rows := (delAt t.trips i).map Trip.enc) rfl rfl rfl rfl (List.all_eq_true.2 (trip_gr _)) rfl ?_; intro o3 k3; conv => whnf) | refine go_seq ?_ | refine go_region ?_ | refine go_miss rfl rfl rfl ?_ | refine go_undef rfl rfl rfl ?_ | refine go_draw drawsOk ?_ | ((first | refine go_op rfl ?_ | refine go_nil ?_ | refine go_hit rfl rfl rfl ?_ | refine go_splitT rfl rfl rfl (fun h => ?_) (fun h => ?_) | refine go_splitF rfl rfl rfl (fun h => ?_) (fun h => ?_) | refine go_storeBox rfl rfl rfl rfl rfl rfl ?_ | refine go_dop rfl ?_ | refine go_dhit rfl rfl ?_ | refine go_dmiss rfl rfl ?_ | refine go_dundef rfl rfl ?_ | refine go_dend (by kernel_rfl) ?_ | refine go_pickT rfl ?_ | refine go_pickF rfl ?_ | refine go_pick rfl (fun h => ?_) (fun h => ?_) | refine go_call [2, 0, 0] hD (argsIn_lent rfl rfl rfl) rfl rfl rfl ?_) <;> conv => whnf) | ((first | refine Or.inl ?_ | refine go_dsplit2 rfl (fun h => ?_) (fun h => ?_) | refine go_loadB ?_ | refine ⟨by kernel_rfl, ?_⟩ | refine go_ret ?_) <;> conv => whnf) | refine go_block ?_ | ((first | refine go_skip ?_ | refine go_exit ?_) <;> conv => whnf) | refine go_true rfl ?_ | refine go_false rfl ?_ | refine go_cond rfl (fun h => ?_) (fun h => ?_) | refine ⟨rfl, ?_⟩ | ((first | refine ⟨trivial, ?_⟩ | refine ⟨le_of_ble rfl, ?_⟩) <;> conv => whnf) | fail
  all_goals first
    | (refine ret_x (av := .imm (.agg [.other (.slice a1 n1 c1), .other (.slice a2 n2 c2), .other (.slice o3 ((delAt t.trips i).map Trip.enc).length k3)])) [3000, 8000] [] rfl rfl (by intro e; cases e) rfl rfl (close_agg2 (vs := [.slice a1 n1 c1, .slice a2 n2 c2, .slice o3 ((delAt t.trips i).map Trip.enc).length k3]) rfl rfl rfl (tt_join (t := ⟨t.net, delAt t.trips i⟩) (vs := .slice a1 n1 c1) (vl := .slice a2 n2 c2) (vt := .slice o3 ((delAt t.trips i).map Trip.enc).length k3))) (close_no v0) (by simp); done)
    | trace_state
end Go.Proofs.Ytfjphbjbobojbaa

