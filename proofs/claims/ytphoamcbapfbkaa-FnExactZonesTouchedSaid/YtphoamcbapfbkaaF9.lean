/- The law of ZonesTouched, walked. -/
import Derived.Test.YtphoamcbapfbkaaF8
import Derived.Test.YtphoamcbapfbkaaG8
namespace Go.Proofs.Ytphoamcbapfbkaa
open Go Go.Am
set_option maxRecDepth 100000
set_option maxHeartbeats 4000000
attribute [local irreducible] amOps amC opCall opIndexAddr opPick retQ opMake opStore amDraw opAppend opLoad opNilCmp opIndex opSlice

theorem c3 (n : Network) (hok_n : n.ok) (zs : List Int) (_ : ∀ v ∈ zs, i64 v) (_ : zs.length ≤ 9223372036854775807) (line : Int) (_ : i64 line) (a : Int) (_ : i64 a) (b : Int) (_ : i64 b) : CallOk Try.prog 3 [.imm (.agg n.enc), .imm (.list (zs.map intRow)), .imm (.int .i64 line), .imm (.int .i64 a), .imm (.int .i64 b)] { res := [.imm (.bool true)] } := by
  refine callOk_of tyOk Try.func3 rfl rfl (le_of_ble rfl) (le_of_ble rfl) (mutOk_imm rfl _) ?_
  have hzv : ((zs.map intRow).length : Int) = zs.length := by rw [List.length_map]
  by_cases hlzs : zs.length ≤ 1048576
  case neg =>
    repeat' first | refine go_seq ?_ | refine go_region ?_ | refine go_miss rfl rfl rfl ?_ | refine go_undef rfl rfl rfl ?_ | refine go_draw drawsOk ?_ | ((first | refine go_op rfl ?_ | refine go_nil ?_ | refine go_hit rfl rfl rfl ?_ | refine go_splitT rfl rfl rfl (fun h => ?_) (fun h => ?_) | refine go_splitF rfl rfl rfl (fun h => ?_) (fun h => ?_) | refine go_storeBox rfl rfl rfl rfl rfl rfl ?_ | refine go_dop rfl ?_ | refine go_dhit rfl rfl ?_ | refine go_dmiss rfl rfl ?_ | refine go_dundef rfl rfl ?_ | refine go_dend (by kernel_rfl) ?_ | refine go_pickT rfl ?_ | refine go_pickF rfl ?_ | refine go_pick rfl (fun h => ?_) (fun h => ?_)) <;> conv => whnf) | ((first | refine go_dsplit2 rfl (fun h => ?_) (fun h => ?_) | refine go_loadB ?_ | refine ⟨by kernel_rfl, ?_⟩ | refine go_ret ?_) <;> conv => whnf) | ((first | refine go_skip ?_) <;> conv => whnf) | refine go_true rfl ?_ | refine go_false rfl ?_ | refine go_cond rfl (fun h => ?_) (fun h => ?_) | refine ⟨rfl, ?_⟩ | ((first | refine ⟨trivial, ?_⟩ | refine ⟨le_of_ble rfl, ?_⟩) <;> conv => whnf) | fail
    all_goals first
      | exact ret_imm rfl rfl rfl rfl rfl rfl
      | (exfalso; have h' := of_decide_eq_false h; omega)
      | (exfalso; rename_i hq; have h' := of_decide_eq_false hq; omega)
  have hsz1 := c7 n hok_n (1048576) (by omega) (by omega)
  have hle1 := szNetwork_sz.le (1048576) n (by omega)
  by_cases h01 : 0 ≤ szNetwork 1048576 n
  case neg =>
    repeat' first | refine go_seq ?_ | refine go_region ?_ | refine go_miss rfl rfl rfl ?_ | refine go_undef rfl rfl rfl ?_ | refine go_draw drawsOk ?_ | ((first | refine go_op rfl ?_ | refine go_nil ?_ | refine go_hit rfl rfl rfl ?_ | refine go_splitT rfl rfl rfl (fun h => ?_) (fun h => ?_) | refine go_splitF rfl rfl rfl (fun h => ?_) (fun h => ?_) | refine go_storeBox rfl rfl rfl rfl rfl rfl ?_ | refine go_dop rfl ?_ | refine go_dhit rfl rfl ?_ | refine go_dmiss rfl rfl ?_ | refine go_dundef rfl rfl ?_ | refine go_dend (by kernel_rfl) ?_ | refine go_pickT rfl ?_ | refine go_pickF rfl ?_ | refine go_pick rfl (fun h => ?_) (fun h => ?_) | refine go_call [] (hsz1) rfl rfl rfl rfl ?_) <;> conv => whnf) | ((first | refine go_dsplit2 rfl (fun h => ?_) (fun h => ?_) | refine go_loadB ?_ | refine ⟨by kernel_rfl, ?_⟩ | refine go_ret ?_) <;> conv => whnf) | ((first | refine go_skip ?_) <;> conv => whnf) | refine go_true rfl ?_ | refine go_false rfl ?_ | refine go_cond rfl (fun h => ?_) (fun h => ?_) | refine ⟨rfl, ?_⟩ | ((first | refine ⟨trivial, ?_⟩ | refine ⟨le_of_ble rfl, ?_⟩) <;> conv => whnf) | fail
    all_goals first
      | exact ret_imm rfl rfl rfl rfl rfl rfl
      | (exfalso; have h' := of_decide_eq_true h; omega)
      | (exfalso; have h' := of_decide_eq_false h; omega)
      | (exfalso; have h' := of_decide_eq_true h; omega)
      | (exfalso; rename_i hq; have h' := of_decide_eq_true hq; omega)
      | (exfalso; rename_i hq; have h' := of_decide_eq_false hq; omega)
      | (exfalso; rename_i hq _; have h' := of_decide_eq_true hq; omega)
      | (exfalso; rename_i hq _; have h' := of_decide_eq_false hq; omega)
      | trace_state
  have hf_n := szNetwork_fit (by omega) h01
  have hrl : (ztR n zs line a b).length ≤ 1048576 := ztR_len n zs line a b
  have hspec : CallOk Try.prog 8 [.imm (.agg n.enc), .imm (.list (((zs.map intRow).drop 0).take (zs.map intRow).length)), .imm (.int .i64 line), .imm (.int .i64 a), .imm (.int .i64 b)] { res := [.imm (.list ((ztR n zs line a b).map intRow)), .imm (.bool (ztOk n zs line a b))], sep := false } := by rw [int_view]; exact c8 n hf_n zs hlzs line a b
  have himpl : CallOk Try.prog 11 [.imm (.agg n.enc), .imm (.list (((zs.map intRow).drop 0).take (zs.map intRow).length)), .imm (.int .i64 line), .imm (.int .i64 a), .imm (.int .i64 b)] { res := [.arr 3 1 ((ztR n zs line a b).map intRow), .imm (.bool (ztOk n zs line a b))] } := by rw [int_view]; exact c11 n hf_n zs hlzs line a b
  have hct1 := cntNetwork_le hf_n
  have hm1 := k14 n hf_n 1 (by omega) (by omega)
  have heq_zs : CallOk Try.prog 12 [.imm (.list (((zs.map intRow).drop 0).take (zs.map intRow).length)), .imm (.list (((zs.map intRow).drop 0).take (zs.map intRow).length))] { res := [.imm (.bool true)] } := by rw [int_view]; exact c12s zs hlzs
  have hm2 := c15 zs (1 + (cntNetwork n : Nat)) (by omega) (by omega) hlzs
  have hq2 := kAt_eq (k := (1 + (cntNetwork n : Nat))) (by omega) (1 * zs.length) (by omega)
  have heqR : CallOk Try.prog 12 [.imm (.list ((((ztR n zs line a b).map intRow).drop 0).take ((ztR n zs line a b).map intRow).length)), .imm (.list ((ztR n zs line a b).map intRow))] { res := [.imm (.bool true)] } := by rw [int_view]; exact c12s _ hrl
  have hmR := c15 (ztR n zs line a b) 1 (by omega) (by omega) hrl
  have hhR : CallOk Try.prog 16 [.imm (.list ((((marksIntX 1 (ztR n zs line a b).length).map intRow).drop 0).take ((ztR n zs line a b).map intRow).length)), .imm (.int .i64 1)] { res := [.imm (.int .i64 (kAt 1 (1 * (ztR n zs line a b).length)))] } := by
    have := c16 1 (ztR n zs line a b).length (by omega) (by omega) hrl
    rwa [show ((((marksIntX 1 (ztR n zs line a b).length).map intRow).drop 0).take ((ztR n zs line a b).map intRow).length) = (marksIntX 1 (ztR n zs line a b).length).map intRow from by rw [List.drop_zero, List.take_of_length_le (by simp [marksIntX])]]
  have hqR := kAt_eq (k := 1) (by omega) (1 * (ztR n zs line a b).length) (by omega)
  repeat' first | refine go_seq ?_ | refine go_region ?_ | refine go_miss rfl rfl rfl ?_ | refine go_undef rfl rfl rfl ?_ | refine go_draw drawsOk ?_ | ((first | refine go_op rfl ?_ | refine go_nil ?_ | refine go_hit rfl rfl rfl ?_ | refine go_splitT rfl rfl rfl (fun h => ?_) (fun h => ?_) | refine go_splitF rfl rfl rfl (fun h => ?_) (fun h => ?_) | refine go_storeBox rfl rfl rfl rfl rfl rfl ?_ | refine go_dop rfl ?_ | refine go_dhit rfl rfl ?_ | refine go_dmiss rfl rfl ?_ | refine go_dundef rfl rfl ?_ | refine go_dend (by kernel_rfl) ?_ | refine go_pickT rfl ?_ | refine go_pickF rfl ?_ | refine go_pick rfl (fun h => ?_) (fun h => ?_) | refine go_call [] (hsz1) rfl rfl rfl rfl ?_ | refine go_call [] (g9 n hf_n) rfl rfl rfl rfl ?_ | refine go_call [] (c13s n hf_n) rfl rfl rfl rfl ?_ | refine go_call [] (c10a zs hlzs) rfl rfl rfl rfl ?_ | refine go_call [] (heq_zs) rfl rfl rfl rfl ?_ | refine go_call [1, 1] (hspec) rfl rfl rfl rfl ?_ | refine go_call [] (himpl) rfl rfl rfl rfl ?_ | refine go_call [] (heqR) rfl rfl rfl rfl ?_ | refine go_call [3] (hm1) rfl rfl rfl rfl ?_ | refine go_call [2, 0] hm2 (argsIn_lent rfl rfl rfl) rfl rfl rfl ?_ | refine go_call [2, 0] hmR (argsIn_lent rfl rfl rfl) rfl rfl rfl ?_ | refine go_call [] (hhR) rfl rfl rfl rfl ?_) <;> conv => whnf) | ((first | refine go_dsplit2 rfl (fun h => ?_) (fun h => ?_) | refine go_loadB ?_ | refine ⟨by kernel_rfl, ?_⟩ | refine go_ret ?_) <;> conv => whnf) | ((first | refine go_skip ?_) <;> conv => whnf) | refine go_true rfl ?_ | refine go_false rfl ?_ | refine go_cond rfl (fun h => ?_) (fun h => ?_) | refine ⟨rfl, ?_⟩ | ((first | refine ⟨trivial, ?_⟩ | refine ⟨le_of_ble rfl, ?_⟩) <;> conv => whnf) | fail
  all_goals first
    | exact ret_imm rfl rfl rfl rfl rfl rfl
    | (exfalso; simp at h; done)
    | (exfalso; simp at h; omega)
    | (exfalso; have h' := of_decide_eq_false h; omega)
    | (exfalso; have h' := of_decide_eq_true h; omega)
    | (exfalso; rename_i hq; have h' := of_decide_eq_true hq; omega)
    | (exfalso; rename_i hq; have h' := of_decide_eq_false hq; omega)
    | (exfalso; rename_i hq _; have h' := of_decide_eq_true hq; omega)
    | (exfalso; rename_i hq _; have h' := of_decide_eq_false hq; omega)
    | trace_state

end Go.Proofs.Ytphoamcbapfbkaa

