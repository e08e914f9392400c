/- Copies of timetables, told by their blocks. -/
import Derived.Test.YtfjphbjbobojbaaX5
namespace Go.Proofs.Ytfjphbjbobojbaa
open Go Go.Am
set_option maxRecDepth 100000
set_option maxHeartbeats 8000000
attribute [local irreducible] amOps amC opCall opIndexAddr opPick retQ opMake opStore amDraw opAppend opLoad opNilCmp opIndex opSlice xQ

theorem net_shape {n : Network} {v : Value} {w : World} {F : Nat → Prop} (h : ExtAt (NetV n v) w F) : ∃ x : Sl × Sl, v = .agg #[x.1.v, x.2.v] := by
  obtain ⟨x, _⟩ := net_open h
  exact ⟨x.1, x.2⟩

theorem x46 (t : Timetable) (hf : t.fit) : XOk Try.prog 46 (XI.imm (.agg t.enc)) [] (ttR t) [] := by
  refine xOk_of tyOk Try.func46 rfl rfl (le_of_ble rfl) ?_
  intro v0
  have hN := x75 t.net hf.1
  have h2 := c76 t.trips hf.2.1
  repeat' first | (refine go_drawT 1 0 drawsOk ?_; conv => whnf) | (refine go_fact tyOk (id := nid 2 5) (p := ∃ x : Sl × Sl, r = .agg #[x.1.v, x.2.v]) rfl (fun w F h => net_shape h) ?_; rintro ⟨⟨⟨a1, n1, c1⟩, a2, n2, c2⟩, hv⟩; subst hv; conv => whnf) | (refine go_ext (ext_xcall hN [] (fun _ _ => True) (v := Value.slice none 0 0) [] ⟨look_imm _ _ _, trivial⟩ (by simp) (.inr fun u => ⟨rfl, rfl, rfl⟩) (split_no _ _) have0 rfl rfl rfl rfl ?_); intro r; conv => whnf) | (refine ret_boxCell (bid := nid 1 2) (j := 2) (id := rid 2 8 0) (id' := 8000) (ty := 54) (sz := 3) (rows := t.trips.map Trip.enc) rfl rfl rfl rfl (List.all_eq_true.2 (trip_gr _)) rfl ?_; intro o3 c3; conv => whnf) | refine go_seq ?_ | refine go_region ?_ | refine go_miss rfl rfl rfl ?_ | refine go_undef rfl rfl rfl ?_ | refine go_draw drawsOk ?_ | ((first | refine go_op rfl ?_ | refine go_nil ?_ | refine go_hit rfl rfl rfl ?_ | refine go_splitT rfl rfl rfl (fun h => ?_) (fun h => ?_) | refine go_splitF rfl rfl rfl (fun h => ?_) (fun h => ?_) | refine go_storeBox rfl rfl rfl rfl rfl rfl ?_ | refine go_dop rfl ?_ | refine go_dhit rfl rfl ?_ | refine go_dmiss rfl rfl ?_ | refine go_dundef rfl rfl ?_ | refine go_dend (by kernel_rfl) ?_ | refine go_pickT rfl ?_ | refine go_pickF rfl ?_ | refine go_pick rfl (fun h => ?_) (fun h => ?_) | refine Two.mk ?_ trivial | refine Two.mk ?_ ?_ | refine go_call [] (h2) rfl rfl rfl rfl ?_ | refine Or.inr ?_) <;> conv => whnf) | ((first | refine Or.inl ?_ | refine go_dsplit2 rfl (fun h => ?_) (fun h => ?_) | refine go_loadB ?_ | refine ⟨by kernel_rfl, ?_⟩ | refine go_ret ?_) <;> conv => whnf) | refine go_block ?_ | ((first | refine go_skip ?_ | refine go_exit ?_) <;> conv => whnf) | refine go_true rfl ?_ | refine go_false rfl ?_ | refine go_cond rfl (fun h => ?_) (fun h => ?_) | refine ⟨rfl, ?_⟩ | ((first | refine ⟨trivial, ?_⟩ | refine ⟨le_of_ble rfl, ?_⟩) <;> conv => whnf) | fail
  all_goals first
    | (refine ret_x (av := .imm (.agg [.other (.slice a1 n1 c1), .other (.slice a2 n2 c2), .other (.slice o3 (t.trips.map Trip.enc).length c3)])) [nid 2 5, 8000] [] rfl rfl (by intro e; cases e) rfl rfl (close_agg2 (vs := [.slice a1 n1 c1, .slice a2 n2 c2, .slice o3 (t.trips.map Trip.enc).length c3]) rfl rfl rfl tt_join) (close_no v0) (by simp)
       done)
    | trace_state
end Go.Proofs.Ytfjphbjbobojbaa

