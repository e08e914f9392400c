/- Trips that overtake each other: the law. -/
import Derived.Test.YtingoclokmcmhaaO4
namespace Go.Proofs.Ytingoclokmcmhaa
open Go Go.Am
set_option maxRecDepth 100000
set_option maxHeartbeats 8000000
attribute [local irreducible] amOps amC opCall opIndexAddr opPick retQ opMake opStore amDraw opAppend opLoad opNilCmp opIndex opSlice xQ

theorem c3 (t : Timetable) (hok_t : t.ok) (ds : List TripDelay) (_ : ∀ v ∈ ds, v.ok) (hl_ds : ds.length ≤ 9223372036854775807) (stop : Int) (_ : i64 stop) : CallOk Try.prog 3 [.imm (.agg t.enc), .imm (.list (ds.map TripDelay.enc)), .imm (.int .i64 stop)] { res := [.imm (.bool true)] } := by
  refine callOk_of tyOk Try.func3 rfl rfl (le_of_ble rfl) (le_of_ble rfl) (mutOk_imm rfl _) ?_
  have hsz1 := c4 t hok_t (1048576) (by omega) (by omega)
  have hle1 := szTimetable_sz.le (1048576) t (by omega)
  by_cases h01 : 0 ≤ szTimetable 1048576 t
  case neg =>
    repeat' first | refine go_seq ?_ | refine go_region ?_ | refine go_miss rfl rfl rfl ?_ | refine go_undef rfl rfl rfl ?_ | refine go_draw drawsOk ?_ | ((first | refine go_op rfl ?_ | refine go_nil ?_ | refine go_hit rfl rfl rfl ?_ | refine go_splitT rfl rfl rfl (fun h => ?_) (fun h => ?_) | refine go_splitF rfl rfl rfl (fun h => ?_) (fun h => ?_) | refine go_storeBox rfl rfl rfl rfl rfl rfl ?_ | refine go_dop rfl ?_ | refine go_dhit rfl rfl ?_ | refine go_dmiss rfl rfl ?_ | refine go_dundef rfl rfl ?_ | refine go_dend (by kernel_rfl) ?_ | refine go_pickT rfl ?_ | refine go_pickF rfl ?_ | refine go_pick rfl (fun h => ?_) (fun h => ?_) | refine go_call [] (hsz1) rfl rfl rfl rfl ?_) <;> conv => whnf) | ((first | refine go_dsplit2 rfl (fun h => ?_) (fun h => ?_) | refine go_loadB ?_ | refine ⟨by kernel_rfl, ?_⟩ | refine go_ret ?_) <;> conv => whnf) | ((first | refine go_skip ?_) <;> conv => whnf) | refine go_true rfl ?_ | refine go_false rfl ?_ | refine go_cond rfl (fun h => ?_) (fun h => ?_) | refine ⟨rfl, ?_⟩ | ((first | refine ⟨trivial, ?_⟩ | refine ⟨le_of_ble rfl, ?_⟩) <;> conv => whnf) | fail
    all_goals first
      | exact ret_imm rfl rfl rfl rfl rfl rfl
      | (exfalso; have h' := of_decide_eq_false h; omega)
      | (exfalso; have h' := of_decide_eq_true h; omega)
      | (exfalso; rename_i hq; have h' := of_decide_eq_true hq; omega)
      | (exfalso; rename_i hq; have h' := of_decide_eq_false hq; omega)
      | (exfalso; rename_i hq _; have h' := of_decide_eq_true hq; omega)
      | (exfalso; rename_i hq _; have h' := of_decide_eq_false hq; omega)
      | trace_state
  have hf_t := szTimetable_fit (by omega) h01
  have hsz2 := c5 ds hl_ds (szTimetable 1048576 t) (by omega) (by omega)
  have hle2 := szTripDelayS_sz.le (szTimetable 1048576 t) ds (by omega)
  by_cases h02 : 0 ≤ szTripDelayS (szTimetable 1048576 t) ds
  case neg =>
    repeat' first | refine go_seq ?_ | refine go_region ?_ | refine go_miss rfl rfl rfl ?_ | refine go_undef rfl rfl rfl ?_ | refine go_draw drawsOk ?_ | ((first | refine go_op rfl ?_ | refine go_nil ?_ | refine go_hit rfl rfl rfl ?_ | refine go_splitT rfl rfl rfl (fun h => ?_) (fun h => ?_) | refine go_splitF rfl rfl rfl (fun h => ?_) (fun h => ?_) | refine go_storeBox rfl rfl rfl rfl rfl rfl ?_ | refine go_dop rfl ?_ | refine go_dhit rfl rfl ?_ | refine go_dmiss rfl rfl ?_ | refine go_dundef rfl rfl ?_ | refine go_dend (by kernel_rfl) ?_ | refine go_pickT rfl ?_ | refine go_pickF rfl ?_ | refine go_pick rfl (fun h => ?_) (fun h => ?_) | refine go_call [] (hsz1) rfl rfl rfl rfl ?_ | refine go_call [] (hsz2) rfl rfl rfl rfl ?_) <;> conv => whnf) | ((first | refine go_dsplit2 rfl (fun h => ?_) (fun h => ?_) | refine go_loadB ?_ | refine ⟨by kernel_rfl, ?_⟩ | refine go_ret ?_) <;> conv => whnf) | ((first | refine go_skip ?_) <;> conv => whnf) | refine go_true rfl ?_ | refine go_false rfl ?_ | refine go_cond rfl (fun h => ?_) (fun h => ?_) | refine ⟨rfl, ?_⟩ | ((first | refine ⟨trivial, ?_⟩ | refine ⟨le_of_ble rfl, ?_⟩) <;> conv => whnf) | fail
    all_goals first
      | exact ret_imm rfl rfl rfl rfl rfl rfl
      | (exfalso; have h' := of_decide_eq_false h; omega)
      | (exfalso; have h' := of_decide_eq_true h; omega)
      | (exfalso; rename_i hq; have h' := of_decide_eq_true hq; omega)
      | (exfalso; rename_i hq; have h' := of_decide_eq_false hq; omega)
      | (exfalso; rename_i hq _; have h' := of_decide_eq_true hq; omega)
      | (exfalso; rename_i hq _; have h' := of_decide_eq_false hq; omega)
      | trace_state
  have hlds : ds.length ≤ 1048576 := by have := less_pos (k := ds.length) h02; omega
  obtain ⟨hrl, hr2⟩ := ovR_fit t ds stop
  have hrl2 : ∀ r ∈ ovR t ds stop, r.length ≤ 1048576 := fun r hr => by rw [hr2 r hr]; omega
  have hcn := cntSS_two _ hr2
  have hspec : CallOk Try.prog 6 [.imm (.agg t.enc), .imm (.list (((ds.map TripDelay.enc).drop 0).take (ds.map TripDelay.enc).length)), .imm (.int .i64 stop)] { res := [.imm (.list ((ovR t ds stop).map intsRow)), .imm (.bool (ovOk t ds stop))], sep := false } := by rw [tripDelay_view]; exact c6 t hf_t ds hlds stop
  have hX : XOk Try.prog 9 (XI.imm (.agg t.enc)) [.list (((ds.map TripDelay.enc).drop 0).take (ds.map TripDelay.enc).length), .int .i64 stop] (XR.ext (LstI (ovR t ds stop))) [.bool (ovOk t ds stop)] := by rw [tripDelay_view]; exact x9 t hf_t ds hlds stop
  have hct1 := cntTimetable_le hf_t
  have hm1 := k13 t hf_t 1 (by omega) (by omega)
  have heq_ds : CallOk Try.prog 12 [.imm (.list (((ds.map TripDelay.enc).drop 0).take (ds.map TripDelay.enc).length)), .imm (.list (((ds.map TripDelay.enc).drop 0).take (ds.map TripDelay.enc).length))] { res := [.imm (.bool true)] } := by rw [tripDelay_view]; exact c12s ds hlds
  have hm2 := c14 ds (1 + (cntTimetable t : Nat)) (by omega) (by omega) hlds
  have hq2 := kAt_eq (k := (1 + (cntTimetable t : Nat))) (by omega) (2 * ds.length) (by omega)
  generalize ovR t ds stop = rows at *
  generalize ovOk t ds stop = ok at *
  have heqR := c10s rows (by omega) hrl2
  have hXm := x15 rows 1 (by omega) (by omega) (by omega) hrl2
  have hhR := c16 rows 1 (by omega) (by omega) (by omega) hrl2
  have hkS := kS_eq rows 1 (by omega) (by omega)
  repeat' first | (refine go_ext (ext_xcall hX [] (fun _ _ => True) (v := Value.slice none 0 0) [nid 8 39, nid 9 41] (look3 (look_tv (id := nid 8 39) rfl (by simp)) (look_own (id := nid 9 41) rfl (by simp)) (look_imm _ _ _)) (by simp) (.inr fun u => ⟨rfl, rfl, rfl⟩) (split_no _ _) have0 rfl rfl rfl rfl ?_); intro r; conv => whnf) | (refine go_ext (ext_xlook (ds := [.list (rows.map intsRow), .list (rows.map intsRow)]) heqR rfl [nid 10 46] (look2 (look_ext (id := nid 10 46) rfl (by simp) (lst_rep rows)) (look_imm _ _ _)) rfl ?_); conv => whnf) | (refine go_extG rfl rfl (ext_xlook (ds := [.list (rows.map intsRow), .list (rows.map intsRow)]) heqR rfl [nid 10 46] (look2 (look_ext (id := nid 10 46) rfl (by simp) (lst_rep rows)) (look_imm _ _ _)) rfl ?_); conv => whnf) | (refine go_ext (ext_xcall hXm [nid 10 46] (fun _ _ => True) (v := r) [] (look2 (look_imm _ _ _) (look_imm _ _ _)) (by simp) (.inl rfl) (split_all rfl (fun w F h => h)) (have1 rfl) rfl rfl rfl rfl ?_); intro r2; conv => whnf) | (refine go_ext (ext_xlook (ds := [.list ((mkSS 1 rows).map intsRow), .int .i64 1]) hhR rfl [rid 19 89 1] (look2 (look_ext (id := rid 19 89 1) rfl (by simp) (lst_rep (mkSS 1 rows))) (look_imm _ _ _)) rfl ?_); conv => whnf) | (refine go_ext (ext_xcall hX [] (fun _ _ => True) (v := Value.slice none 0 0) [nid 24 100, nid 24 102] (look3 (look_tv (id := nid 24 100) rfl (by simp)) (look_own (id := nid 24 102) rfl (by simp)) (look_imm _ _ _)) (by simp) (.inr fun u => ⟨rfl, rfl, rfl⟩) (split_no _ _) have0 rfl rfl rfl rfl ?_); intro r3; conv => whnf) | (refine go_ext (ext_xlook (ds := [.list (rows.map intsRow), .list (rows.map intsRow)]) heqR rfl [nid 24 104] (look2 (look_ext (id := nid 24 104) rfl (by simp) (lst_rep rows)) (look_imm _ _ _)) rfl ?_); conv => whnf) | refine go_seq ?_ | refine go_region ?_ | refine go_miss rfl rfl rfl ?_ | refine go_undef rfl rfl rfl ?_ | refine go_draw drawsOk ?_ | ((first | refine go_op rfl ?_ | refine go_nil ?_ | refine go_hit rfl rfl rfl ?_ | refine go_splitT rfl rfl rfl (fun h => ?_) (fun h => ?_) | refine go_splitF rfl rfl rfl (fun h => ?_) (fun h => ?_) | refine go_storeBox rfl rfl rfl rfl rfl rfl ?_ | refine go_dop rfl ?_ | refine go_dhit rfl rfl ?_ | refine go_dmiss rfl rfl ?_ | refine go_dundef rfl rfl ?_ | refine go_dend (by kernel_rfl) ?_ | refine go_pickT rfl ?_ | refine go_pickF rfl ?_ | refine go_pick rfl (fun h => ?_) (fun h => ?_) | refine go_call [] (hsz1) rfl rfl rfl rfl ?_ | refine go_call [] (hsz2) rfl rfl rfl rfl ?_ | refine go_call [] (g7 t hf_t) rfl rfl rfl rfl ?_ | refine go_call [] (c11s t hf_t) rfl rfl rfl rfl ?_ | refine go_call [] (c8a ds hlds) rfl rfl rfl rfl ?_ | refine go_call [] (heq_ds) rfl rfl rfl rfl ?_ | refine go_call [1, 1, 0] (hspec) rfl rfl rfl rfl ?_ | refine go_call [3] (hm1) rfl rfl rfl rfl ?_ | refine go_call [2, 0] hm2 (argsIn_lent rfl rfl rfl) rfl rfl rfl ?_) <;> conv => whnf) | ((first | refine go_dsplit2 rfl (fun h => ?_) (fun h => ?_) | refine go_loadB ?_ | refine ⟨by kernel_rfl, ?_⟩ | refine go_ret ?_) <;> conv => whnf) | ((first | refine go_skip ?_) <;> conv => whnf) | refine go_true rfl ?_ | refine go_false rfl ?_ | refine go_cond rfl (fun h => ?_) (fun h => ?_) | refine ⟨rfl, ?_⟩ | ((first | refine ⟨trivial, ?_⟩ | refine ⟨le_of_ble rfl, ?_⟩) <;> conv => whnf) | fail
  all_goals first
    | exact ret_imm rfl rfl rfl rfl rfl rfl
    | (exfalso; simp at h; done)
    | (exfalso; simp at h; omega)
    | (exfalso; have h' := of_decide_eq_false h; omega)
    | (exfalso; have h' := of_decide_eq_true h; omega)
    | (exfalso; rename_i hq; have h' := of_decide_eq_true hq; omega)
    | (exfalso; rename_i hq; have h' := of_decide_eq_false hq; omega)
    | (exfalso; rename_i hq _; have h' := of_decide_eq_true hq; omega)
    | (exfalso; rename_i hq _; have h' := of_decide_eq_false hq; omega)
    | trace_state
end Go.Proofs.Ytingoclokmcmhaa

