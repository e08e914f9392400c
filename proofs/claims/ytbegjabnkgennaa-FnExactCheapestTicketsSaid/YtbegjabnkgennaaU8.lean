/- The law of CheapestTickets, walked. -/
import Derived.Test.YtbegjabnkgennaaU7
import Derived.Test.YtbegjabnkgennaaN8
namespace Go.Proofs.Ytbegjabnkgennaa
open Go Go.Am
set_option maxRecDepth 100000
set_option maxHeartbeats 4000000
attribute [local irreducible] amOps amC opCall opIndexAddr opPick retQ opMake opStore amDraw opAppend opLoad opNilCmp opIndex opSlice

theorem ctWks_len (p : Prices) (rs : List Ride) : (ctWks p rs).length ≤ 1048576 := by
  unfold ctWks
  split
  · rename_i h
    have hT := ct_okT h
    have h1 := (good_at hT (i := 0) (by omega)).len
    have h2 := hT.few
    omega
  · simp

theorem c3 (p : Prices) (hok_p : p.ok) (rs : List Ride) (_ : ∀ v ∈ rs, v.ok) (hl_rs : rs.length ≤ 9223372036854775807) : CallOk Try.prog 3 [.imm (.agg p.enc), .imm (.list (rs.map Ride.enc))] { res := [.imm (.bool true)] } := by
  refine callOk_of tyOk Try.func3 rfl rfl (le_of_ble rfl) (le_of_ble rfl) (mutOk_imm rfl _) ?_
  have hsz1 := c4 p hok_p (1048576) (by omega) (by omega)
  have hle1 := szPrices_sz.le (1048576) p (by omega)
  by_cases h01 : 0 ≤ szPrices 1048576 p
  case neg =>
    repeat' first | refine go_seq ?_ | refine go_region ?_ | refine go_miss rfl rfl rfl ?_ | refine go_undef rfl rfl rfl ?_ | refine go_draw drawsOk ?_ | ((first | refine go_op rfl ?_ | refine go_nil ?_ | refine go_hit rfl rfl rfl ?_ | refine go_splitT rfl rfl rfl (fun h => ?_) (fun h => ?_) | refine go_splitF rfl rfl rfl (fun h => ?_) (fun h => ?_) | refine go_storeBox rfl rfl rfl rfl rfl rfl ?_ | refine go_dop rfl ?_ | refine go_dhit rfl rfl ?_ | refine go_dmiss rfl rfl ?_ | refine go_dundef rfl rfl ?_ | refine go_dend (by kernel_rfl) ?_ | refine go_pickT rfl ?_ | refine go_pickF rfl ?_ | refine go_pick rfl (fun h => ?_) (fun h => ?_) | refine go_call [] (hsz1) rfl rfl rfl rfl ?_) <;> conv => whnf) | ((first | refine go_dsplit2 rfl (fun h => ?_) (fun h => ?_) | refine go_loadB ?_ | refine ⟨by kernel_rfl, ?_⟩ | refine go_ret ?_) <;> conv => whnf) | ((first | refine go_skip ?_) <;> conv => whnf) | refine go_true rfl ?_ | refine go_false rfl ?_ | refine go_cond rfl (fun h => ?_) (fun h => ?_) | refine ⟨rfl, ?_⟩ | ((first | refine ⟨trivial, ?_⟩ | refine ⟨le_of_ble rfl, ?_⟩) <;> conv => whnf) | fail
    all_goals first
      | exact ret_imm rfl rfl rfl rfl rfl rfl
      | (exfalso; have h' := of_decide_eq_false h; omega)
      | (exfalso; have h' := of_decide_eq_true h; omega)
      | (exfalso; rename_i hq; have h' := of_decide_eq_true hq; omega)
      | (exfalso; rename_i hq; have h' := of_decide_eq_false hq; omega)
      | (exfalso; rename_i hq _; have h' := of_decide_eq_true hq; omega)
      | (exfalso; rename_i hq _; have h' := of_decide_eq_false hq; omega)
      | trace_state
  have hf_p := szPrices_fit (by omega) h01
  have hsz2 := c5 rs hl_rs (szPrices 1048576 p) (by omega) (by omega)
  have hle2 := szRideS_sz.le (szPrices 1048576 p) rs (by omega)
  by_cases h02 : 0 ≤ szRideS (szPrices 1048576 p) rs
  case neg =>
    repeat' first | refine go_seq ?_ | refine go_region ?_ | refine go_miss rfl rfl rfl ?_ | refine go_undef rfl rfl rfl ?_ | refine go_draw drawsOk ?_ | ((first | refine go_op rfl ?_ | refine go_nil ?_ | refine go_hit rfl rfl rfl ?_ | refine go_splitT rfl rfl rfl (fun h => ?_) (fun h => ?_) | refine go_splitF rfl rfl rfl (fun h => ?_) (fun h => ?_) | refine go_storeBox rfl rfl rfl rfl rfl rfl ?_ | refine go_dop rfl ?_ | refine go_dhit rfl rfl ?_ | refine go_dmiss rfl rfl ?_ | refine go_dundef rfl rfl ?_ | refine go_dend (by kernel_rfl) ?_ | refine go_pickT rfl ?_ | refine go_pickF rfl ?_ | refine go_pick rfl (fun h => ?_) (fun h => ?_) | refine go_call [] (hsz1) rfl rfl rfl rfl ?_ | refine go_call [] (hsz2) rfl rfl rfl rfl ?_) <;> conv => whnf) | ((first | refine go_dsplit2 rfl (fun h => ?_) (fun h => ?_) | refine go_loadB ?_ | refine ⟨by kernel_rfl, ?_⟩ | refine go_ret ?_) <;> conv => whnf) | ((first | refine go_skip ?_) <;> conv => whnf) | refine go_true rfl ?_ | refine go_false rfl ?_ | refine go_cond rfl (fun h => ?_) (fun h => ?_) | refine ⟨rfl, ?_⟩ | ((first | refine ⟨trivial, ?_⟩ | refine ⟨le_of_ble rfl, ?_⟩) <;> conv => whnf) | fail
    all_goals first
      | exact ret_imm rfl rfl rfl rfl rfl rfl
      | (exfalso; have h' := of_decide_eq_false h; omega)
      | (exfalso; have h' := of_decide_eq_true h; omega)
      | (exfalso; rename_i hq; have h' := of_decide_eq_true hq; omega)
      | (exfalso; rename_i hq; have h' := of_decide_eq_false hq; omega)
      | (exfalso; rename_i hq _; have h' := of_decide_eq_true hq; omega)
      | (exfalso; rename_i hq _; have h' := of_decide_eq_false hq; omega)
      | trace_state
  have hlrs : rs.length ≤ 1048576 := by have := less_pos (k := rs.length) h02; omega
  have hrl : ((ctWks p rs)).length ≤ 1048576 := (ctWks_len p rs)
  have hspec : CallOk Try.prog 6 [.imm (.agg p.enc), .imm (.list (((rs.map Ride.enc).drop 0).take (rs.map Ride.enc).length))] { res := [.imm (.int .i64 (ctSum p rs)), .imm (.list ((ctWks p rs).map intRow)), .imm (.bool (ctOk p rs))], sep := false } := by rw [ride_view]; exact c6 p hf_p rs hlrs
  have himpl : CallOk Try.prog 9 [.imm (.agg p.enc), .imm (.list (((rs.map Ride.enc).drop 0).take (rs.map Ride.enc).length))] { res := [.imm (.int .i64 (ctSum p rs)), .arr 3 1 ((ctWks p rs).map intRow), .imm (.bool (ctOk p rs))] } := by rw [ride_view]; exact c9 p hf_p rs hlrs
  have hct1 := cntPrices_le hf_p
  have hm1 := k13 p hf_p 1 (by omega) (by omega)
  have heq_rs : CallOk Try.prog 12 [.imm (.list (((rs.map Ride.enc).drop 0).take (rs.map Ride.enc).length)), .imm (.list (((rs.map Ride.enc).drop 0).take (rs.map Ride.enc).length))] { res := [.imm (.bool true)] } := by rw [ride_view]; exact c12s rs hlrs
  have hm2 := c14 rs (1 + (cntPrices p : Nat)) (by omega) (by omega) hlrs
  have hq2 := kAt_eq (k := (1 + (cntPrices p : Nat))) (by omega) (3 * rs.length) (by omega)
  have heqR : CallOk Try.prog 10 [.imm (.list ((((ctWks p rs).map intRow).drop 0).take ((ctWks p rs).map intRow).length)), .imm (.list ((ctWks p rs).map intRow))] { res := [.imm (.bool true)] } := by rw [int_view]; exact c10s _ hrl
  have hmR := c15 ((ctWks p rs)) 1 (by omega) (by omega) hrl
  have hhR : CallOk Try.prog 16 [.imm (.list ((((marksIntX 1 ((ctWks p rs)).length).map intRow).drop 0).take (((ctWks p rs)).map intRow).length)), .imm (.int .i64 1)] { res := [.imm (.int .i64 (kAt 1 (1 * ((ctWks p rs)).length)))] } := by
    have := c16 1 ((ctWks p rs)).length (by omega) (by omega) hrl
    rwa [show ((((marksIntX 1 ((ctWks p rs)).length).map intRow).drop 0).take (((ctWks p rs)).map intRow).length) = (marksIntX 1 ((ctWks p rs)).length).map intRow from by rw [List.drop_zero, List.take_of_length_le (by simp [marksIntX])]]
  have hqR := kAt_eq (k := 1) (by omega) (1 * ((ctWks p rs)).length) (by omega)
  repeat' first | refine go_seq ?_ | refine go_region ?_ | refine go_miss rfl rfl rfl ?_ | refine go_undef rfl rfl rfl ?_ | refine go_draw drawsOk ?_ | ((first | refine go_op rfl ?_ | refine go_nil ?_ | refine go_hit rfl rfl rfl ?_ | refine go_splitT rfl rfl rfl (fun h => ?_) (fun h => ?_) | refine go_splitF rfl rfl rfl (fun h => ?_) (fun h => ?_) | refine go_storeBox rfl rfl rfl rfl rfl rfl ?_ | refine go_dop rfl ?_ | refine go_dhit rfl rfl ?_ | refine go_dmiss rfl rfl ?_ | refine go_dundef rfl rfl ?_ | refine go_dend (by kernel_rfl) ?_ | refine go_pickT rfl ?_ | refine go_pickF rfl ?_ | refine go_pick rfl (fun h => ?_) (fun h => ?_) | refine go_call [] (hsz1) rfl rfl rfl rfl ?_ | refine go_call [] (hsz2) rfl rfl rfl rfl ?_ | refine go_call [] (g7 p hf_p) rfl rfl rfl rfl ?_ | refine go_call [] (c11s p hf_p) rfl rfl rfl rfl ?_ | refine go_call [] (c8a rs hlrs) rfl rfl rfl rfl ?_ | refine go_call [] (heq_rs) rfl rfl rfl rfl ?_ | refine go_call [1, 1] (hspec) rfl rfl rfl rfl ?_ | refine go_call [] (himpl) rfl rfl rfl rfl ?_ | refine go_call [] (heqR) rfl rfl rfl rfl ?_ | refine go_call [3] (hm1) rfl rfl rfl rfl ?_ | refine go_call [2, 0] hm2 (argsIn_lent rfl rfl rfl) rfl rfl rfl ?_ | refine go_call [2, 0] hmR (argsIn_lent rfl rfl rfl) rfl rfl rfl ?_ | refine go_call [] (hhR) rfl rfl rfl rfl ?_) <;> conv => whnf) | ((first | refine go_dsplit2 rfl (fun h => ?_) (fun h => ?_) | refine go_loadB ?_ | refine ⟨by kernel_rfl, ?_⟩ | refine go_ret ?_) <;> conv => whnf) | ((first | refine go_skip ?_) <;> conv => whnf) | refine go_true rfl ?_ | refine go_false rfl ?_ | refine go_cond rfl (fun h => ?_) (fun h => ?_) | refine ⟨rfl, ?_⟩ | ((first | refine ⟨trivial, ?_⟩ | refine ⟨le_of_ble rfl, ?_⟩) <;> conv => whnf) | fail
  all_goals first
    | exact ret_imm rfl rfl rfl rfl rfl rfl
    | (exfalso; simp at h; done)
    | (exfalso; simp at h; omega)
    | (exfalso; have h' := of_decide_eq_false h; omega)
    | (exfalso; have h' := of_decide_eq_true h; omega)
    | (exfalso; rename_i hq; have h' := of_decide_eq_true hq; omega)
    | (exfalso; rename_i hq; have h' := of_decide_eq_false hq; omega)
    | (exfalso; rename_i hq _; have h' := of_decide_eq_true hq; omega)
    | (exfalso; rename_i hq _; have h' := of_decide_eq_false hq; omega)
    | trace_state

end Go.Proofs.Ytbegjabnkgennaa

