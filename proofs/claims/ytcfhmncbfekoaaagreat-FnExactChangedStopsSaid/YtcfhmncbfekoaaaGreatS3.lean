/- Stops at which calls have changed: the law. -/
import Derived.Test.YtcfhmncbfekoaaaGreatS2
import Derived.Test.YtcfhmncbfekoaaaGreatI1
import Derived.Test.YtcfhmncbfekoaaaGreatN8
import Derived.Test.YtcfhmncbfekoaaaGreatN7
namespace Go.Proofs.YtcfhmncbfekoaaaGreat
open Go Go.Am
set_option maxRecDepth 100000
set_option maxHeartbeats 8000000
attribute [local irreducible] amOps amC opCall opIndexAddr opPick retQ opMake opStore amDraw opAppend opLoad opNilCmp opIndex opSlice

theorem c4 (t : Timetable) (hok_t : t.ok) (cs : List Change) (_ : ∀ v ∈ cs, v.ok) (hl_cs : cs.length ≤ 9223372036854775807) : CallOk Tryz.prog 4 [.imm (.agg t.enc), .imm (.list (cs.map Change.enc))] { res := [.imm (.bool true)] } := by
  refine callOk_of tyOk Tryz.func4 rfl rfl (le_of_ble rfl) (le_of_ble rfl) (mutOk_imm rfl _) ?_
  have hsz1 := c6 t hok_t (1048576) (by omega) (by omega)
  have hle1 := szTimetable_sz.le (1048576) t (by omega)
  by_cases h01 : 0 ≤ szTimetable 1048576 t
  case neg =>
    repeat' first | refine go_seq ?_ | refine go_region ?_ | refine go_miss rfl rfl rfl ?_ | refine go_undef rfl rfl rfl ?_ | refine go_draw drawsOk ?_ | ((first | refine go_op rfl ?_ | refine go_nil ?_ | refine go_hit rfl rfl rfl ?_ | refine go_splitT rfl rfl rfl (fun h => ?_) (fun h => ?_) | refine go_splitF rfl rfl rfl (fun h => ?_) (fun h => ?_) | refine go_storeBox rfl rfl rfl rfl rfl rfl ?_ | refine go_dop rfl ?_ | refine go_dhit rfl rfl ?_ | refine go_dmiss rfl rfl ?_ | refine go_dundef rfl rfl ?_ | refine go_dend (by kernel_rfl) ?_ | refine go_pickT rfl ?_ | refine go_pickF rfl ?_ | refine go_pick rfl (fun h => ?_) (fun h => ?_) | refine go_call [] (hsz1) rfl rfl rfl rfl ?_) <;> conv => whnf) | ((first | refine go_dsplit2 rfl (fun h => ?_) (fun h => ?_) | refine go_loadB ?_ | refine ⟨by kernel_rfl, ?_⟩ | refine go_ret ?_) <;> conv => whnf) | ((first | refine go_skip ?_) <;> conv => whnf) | refine go_true rfl ?_ | refine go_false rfl ?_ | refine go_cond rfl (fun h => ?_) (fun h => ?_) | refine ⟨rfl, ?_⟩ | ((first | refine ⟨trivial, ?_⟩ | refine ⟨le_of_ble rfl, ?_⟩) <;> conv => whnf) | fail
    all_goals first
      | exact ret_imm rfl rfl rfl rfl rfl rfl
      | (exfalso; have h' := of_decide_eq_false h; omega)
      | (exfalso; have h' := of_decide_eq_true h; omega)
      | (exfalso; rename_i hq; have h' := of_decide_eq_true hq; omega)
      | (exfalso; rename_i hq; have h' := of_decide_eq_false hq; omega)
      | (exfalso; rename_i hq _; have h' := of_decide_eq_true hq; omega)
      | (exfalso; rename_i hq _; have h' := of_decide_eq_false hq; omega)
      | trace_state
  have hf_t := szTimetable_fit (by omega) h01
  have hsz2 := c7 cs hl_cs (szTimetable 1048576 t) (by omega) (by omega)
  have hle2 := szChangeS_sz.le (szTimetable 1048576 t) cs (by omega)
  by_cases h02 : 0 ≤ szChangeS (szTimetable 1048576 t) cs
  case neg =>
    repeat' first | refine go_seq ?_ | refine go_region ?_ | refine go_miss rfl rfl rfl ?_ | refine go_undef rfl rfl rfl ?_ | refine go_draw drawsOk ?_ | ((first | refine go_op rfl ?_ | refine go_nil ?_ | refine go_hit rfl rfl rfl ?_ | refine go_splitT rfl rfl rfl (fun h => ?_) (fun h => ?_) | refine go_splitF rfl rfl rfl (fun h => ?_) (fun h => ?_) | refine go_storeBox rfl rfl rfl rfl rfl rfl ?_ | refine go_dop rfl ?_ | refine go_dhit rfl rfl ?_ | refine go_dmiss rfl rfl ?_ | refine go_dundef rfl rfl ?_ | refine go_dend (by kernel_rfl) ?_ | refine go_pickT rfl ?_ | refine go_pickF rfl ?_ | refine go_pick rfl (fun h => ?_) (fun h => ?_) | refine go_call [] (hsz1) rfl rfl rfl rfl ?_ | refine go_call [] (hsz2) rfl rfl rfl rfl ?_) <;> conv => whnf) | ((first | refine go_dsplit2 rfl (fun h => ?_) (fun h => ?_) | refine go_loadB ?_ | refine ⟨by kernel_rfl, ?_⟩ | refine go_ret ?_) <;> conv => whnf) | ((first | refine go_skip ?_) <;> conv => whnf) | refine go_true rfl ?_ | refine go_false rfl ?_ | refine go_cond rfl (fun h => ?_) (fun h => ?_) | refine ⟨rfl, ?_⟩ | ((first | refine ⟨trivial, ?_⟩ | refine ⟨le_of_ble rfl, ?_⟩) <;> conv => whnf) | fail
    all_goals first
      | exact ret_imm rfl rfl rfl rfl rfl rfl
      | (exfalso; have h' := of_decide_eq_false h; omega)
      | (exfalso; have h' := of_decide_eq_true h; omega)
      | (exfalso; rename_i hq; have h' := of_decide_eq_true hq; omega)
      | (exfalso; rename_i hq; have h' := of_decide_eq_false hq; omega)
      | (exfalso; rename_i hq _; have h' := of_decide_eq_true hq; omega)
      | (exfalso; rename_i hq _; have h' := of_decide_eq_false hq; omega)
      | trace_state
  have hlcs : cs.length ≤ 1048576 := by have := less_pos (k := cs.length) h02; omega
  have hrl : (csL t cs).length ≤ 1048576 := csL_len t hf_t cs
  have hspec : CallOk Tryz.prog 17 [.imm (.agg t.enc), .imm (.list (((cs.map Change.enc).drop 0).take (cs.map Change.enc).length))] { res := [.arr 3 1 ((csL t cs).map intRow), .imm (.bool (ivOk t cs))] } := by rw [change_view]; exact c17 t hf_t cs hlcs
  have himpl : CallOk Tryz.prog 18 [.imm (.agg t.enc), .imm (.list (((cs.map Change.enc).drop 0).take (cs.map Change.enc).length))] { res := [.arr 3 1 ((csL t cs).map intRow), .imm (.bool (ivOk t cs))] } := by rw [change_view]; exact c18 t hf_t cs hlcs
  have hct1 := cntTimetable_le hf_t
  have hm1 := k14 t hf_t 1 (by omega) (by omega)
  have heq_cs : CallOk Tryz.prog 12 [.imm (.list (((cs.map Change.enc).drop 0).take (cs.map Change.enc).length)), .imm (.list (((cs.map Change.enc).drop 0).take (cs.map Change.enc).length))] { res := [.imm (.bool true)] } := by rw [change_view]; exact c12s cs hlcs
  have hm2 := c15 cs (1 + (cntTimetable t : Nat)) (by omega) (by omega) hlcs
  have hq2 := kAt_eq (k := (1 + (cntTimetable t : Nat))) (by omega) (5 * cs.length) (by omega)
  have heqR : CallOk Tryz.prog 19 [.imm (.list ((((csL t cs).map intRow).drop 0).take ((csL t cs).map intRow).length)), .imm (.list ((((csL t cs).map intRow).drop 0).take ((csL t cs).map intRow).length))] { res := [.imm (.bool true)] } := by rw [int_view]; exact c19s _ hrl
  have hmR := c20 (csL t cs) 1 (by omega) (by omega) hrl
  have hhR : CallOk Tryz.prog 21 [.imm (.list ((((marksIntX 1 (csL t cs).length).map intRow).drop 0).take ((csL t cs).map intRow).length)), .imm (.int .i64 1)] { res := [.imm (.int .i64 (kAt 1 (1 * (csL t cs).length)))] } := by
    have := c21 1 (csL t cs).length (by omega) (by omega) hrl
    rwa [show ((((marksIntX 1 (csL t cs).length).map intRow).drop 0).take ((csL t cs).map intRow).length) = (marksIntX 1 (csL t cs).length).map intRow from by rw [List.drop_zero, List.take_of_length_le (by simp [marksIntX])]]
  have hqR := kAt_eq (k := 1) (by omega) (1 * (csL t cs).length) (by omega)
  repeat' first | refine go_seq ?_ | refine go_region ?_ | refine go_miss rfl rfl rfl ?_ | refine go_undef rfl rfl rfl ?_ | refine go_draw drawsOk ?_ | ((first | refine go_op rfl ?_ | refine go_nil ?_ | refine go_hit rfl rfl rfl ?_ | refine go_splitT rfl rfl rfl (fun h => ?_) (fun h => ?_) | refine go_splitF rfl rfl rfl (fun h => ?_) (fun h => ?_) | refine go_storeBox rfl rfl rfl rfl rfl rfl ?_ | refine go_dop rfl ?_ | refine go_dhit rfl rfl ?_ | refine go_dmiss rfl rfl ?_ | refine go_dundef rfl rfl ?_ | refine go_dend (by kernel_rfl) ?_ | refine go_pickT rfl ?_ | refine go_pickF rfl ?_ | refine go_pick rfl (fun h => ?_) (fun h => ?_) | refine go_call [] (hsz1) rfl rfl rfl rfl ?_ | refine go_call [] (hsz2) rfl rfl rfl rfl ?_ | refine go_call [] (g9 t hf_t) rfl rfl rfl rfl ?_ | refine go_call [] (c13s t hf_t) rfl rfl rfl rfl ?_ | refine go_call [] (c10a cs hlcs) rfl rfl rfl rfl ?_ | refine go_call [] (heq_cs) rfl rfl rfl rfl ?_ | refine go_call [] (hspec) rfl rfl rfl rfl ?_ | refine go_call [] (himpl) rfl rfl rfl rfl ?_ | refine go_call [] (heqR) rfl rfl rfl rfl ?_ | refine go_call [3] (hm1) rfl rfl rfl rfl ?_ | refine go_call [2, 0] hm2 (argsIn_lent rfl rfl rfl) rfl rfl rfl ?_ | refine go_call [2, 0] hmR (argsIn_lent rfl rfl rfl) rfl rfl rfl ?_ | refine go_call [] (hhR) rfl rfl rfl rfl ?_) <;> conv => whnf) | ((first | refine go_dsplit2 rfl (fun h => ?_) (fun h => ?_) | refine go_loadB ?_ | refine ⟨by kernel_rfl, ?_⟩ | refine go_ret ?_) <;> conv => whnf) | ((first | refine go_skip ?_) <;> conv => whnf) | refine go_true rfl ?_ | refine go_false rfl ?_ | refine go_cond rfl (fun h => ?_) (fun h => ?_) | refine ⟨rfl, ?_⟩ | ((first | refine ⟨trivial, ?_⟩ | refine ⟨le_of_ble rfl, ?_⟩) <;> conv => whnf) | fail
  all_goals first
    | exact ret_imm rfl rfl rfl rfl rfl rfl
    | (exfalso; simp at h; done)
    | (exfalso; simp at h; omega)
    | (exfalso; have h' := of_decide_eq_false h; omega)
    | (exfalso; have h' := of_decide_eq_true h; omega)
    | (exfalso; rename_i hq; have h' := of_decide_eq_true hq; omega)
    | (exfalso; rename_i hq; have h' := of_decide_eq_false hq; omega)
    | (exfalso; rename_i hq _; have h' := of_decide_eq_true hq; omega)
    | (exfalso; rename_i hq _; have h' := of_decide_eq_false hq; omega)
    | trace_state
end Go.Proofs.YtcfhmncbfekoaaaGreat

