/- Calendars: RunsOn, CountDays. -/
import Derived.Test.YtlpdlfdafgoafaaSD5
namespace Go.Proofs.Ytlpdlfdafgoafaa
open Go Go.Am Go.SD
set_option maxRecDepth 100000
set_option maxHeartbeats 8000000
attribute [local irreducible] amOps amC opCall opIndexAddr opPick retQ opMake opStore amDraw opAppend opLoad opNilCmp opIndex opSlice

theorem c11 (c : Cal) (hf : Cal.fit c) (d : Int) : CallOk Try.prog 11 [.imm (.agg (calE c)), .imm (.int .i64 d)] { res := [.imm (.bool ((validC c && inR d 0 3650) && runD c d)), .imm (.bool (validC c && inR d 0 3650))] } := by
  refine callOk_of tyOk Try.func11 rfl rfl (le_of_ble rfl) (le_of_ble rfl) (mutOk_imm rfl _) ?_
  have hc := c10 c hf
  have hd := c22 d
  cases hv : validC c with
  | false =>
    rw [hv] at hc
    repeat' first | refine go_seq ?_ | refine go_region ?_ | refine go_miss rfl rfl rfl ?_ | refine go_undef rfl rfl rfl ?_ | ((first | refine go_op rfl ?_ | refine go_nil ?_ | refine go_hit rfl rfl rfl ?_ | refine go_splitT rfl rfl rfl (fun h => ?_) (fun h => ?_) | refine go_splitF rfl rfl rfl (fun h => ?_) (fun h => ?_) | refine go_pickT rfl ?_ | refine go_pickF rfl ?_ | refine go_pick rfl (fun h => ?_) (fun h => ?_) | refine go_call [] (hc) rfl rfl rfl rfl ?_ | refine go_call [] (hd) rfl rfl rfl rfl ?_) <;> conv => whnf) | ((first | refine go_loadB ?_ | refine ⟨by kernel_rfl, ?_⟩ | refine go_ret ?_) <;> conv => whnf) | ((first | refine go_skip ?_) <;> conv => whnf) | refine go_true rfl ?_ | refine go_false rfl ?_ | refine go_cond rfl (fun h => ?_) (fun h => ?_) | refine ⟨rfl, ?_⟩ | ((first | refine ⟨trivial, ?_⟩ | refine ⟨le_of_ble rfl, ?_⟩) <;> conv => whnf) | fail
    all_goals exact ret_imm2 rfl rfl rfl rfl rfl rfl rfl rfl
  | true =>
    rw [hv] at hc
    have hr := c32 c hv d
    cases hi : inR d 0 3650 with
    | false =>
      rw [hi] at hd
      repeat' first | refine go_seq ?_ | refine go_region ?_ | refine go_miss rfl rfl rfl ?_ | refine go_undef rfl rfl rfl ?_ | ((first | refine go_op rfl ?_ | refine go_nil ?_ | refine go_hit rfl rfl rfl ?_ | refine go_splitT rfl rfl rfl (fun h => ?_) (fun h => ?_) | refine go_splitF rfl rfl rfl (fun h => ?_) (fun h => ?_) | refine go_pickT rfl ?_ | refine go_pickF rfl ?_ | refine go_pick rfl (fun h => ?_) (fun h => ?_) | refine go_call [] (hc) rfl rfl rfl rfl ?_ | refine go_call [] (hd) rfl rfl rfl rfl ?_) <;> conv => whnf) | ((first | refine go_loadB ?_ | refine ⟨by kernel_rfl, ?_⟩ | refine go_ret ?_) <;> conv => whnf) | ((first | refine go_skip ?_) <;> conv => whnf) | refine go_true rfl ?_ | refine go_false rfl ?_ | refine go_cond rfl (fun h => ?_) (fun h => ?_) | refine ⟨rfl, ?_⟩ | ((first | refine ⟨trivial, ?_⟩ | refine ⟨le_of_ble rfl, ?_⟩) <;> conv => whnf) | fail
      all_goals exact ret_imm2 rfl rfl rfl rfl rfl rfl rfl rfl
    | true =>
      rw [hi] at hd
      repeat' first | refine go_seq ?_ | refine go_region ?_ | refine go_miss rfl rfl rfl ?_ | refine go_undef rfl rfl rfl ?_ | ((first | refine go_op rfl ?_ | refine go_nil ?_ | refine go_hit rfl rfl rfl ?_ | refine go_splitT rfl rfl rfl (fun h => ?_) (fun h => ?_) | refine go_splitF rfl rfl rfl (fun h => ?_) (fun h => ?_) | refine go_pickT rfl ?_ | refine go_pickF rfl ?_ | refine go_pick rfl (fun h => ?_) (fun h => ?_) | refine go_call [] (hc) rfl rfl rfl rfl ?_ | refine go_call [] (hd) rfl rfl rfl rfl ?_ | refine go_call [] (hr) rfl rfl rfl rfl ?_) <;> conv => whnf) | ((first | refine go_loadB ?_ | refine ⟨by kernel_rfl, ?_⟩ | refine go_ret ?_) <;> conv => whnf) | ((first | refine go_skip ?_) <;> conv => whnf) | refine go_true rfl ?_ | refine go_false rfl ?_ | refine go_cond rfl (fun h => ?_) (fun h => ?_) | refine ⟨rfl, ?_⟩ | ((first | refine ⟨trivial, ?_⟩ | refine ⟨le_of_ble rfl, ?_⟩) <;> conv => whnf) | fail
      all_goals exact ret_imm2 rfl rfl rfl rfl rfl rfl rfl rfl

def cntD (c : Cal) (j : Nat) : Nat := ((rngN c.fro j).filter (run c)).length
theorem cntD_yes {c : Cal} {j : Nat} (h : run c (c.fro + j) = true) : cntD c (j + 1) = cntD c j + 1 := by
  unfold cntD; rw [rngN_snoc, List.filter_append, List.length_append]; simp [h]
theorem cntD_no {c : Cal} {j : Nat} (h : run c (c.fro + j) = false) : cntD c (j + 1) = cntD c j := by
  unfold cntD; rw [rngN_snoc, List.filter_append, List.length_append]; simp [h]
theorem cntD_le (c : Cal) (j : Nat) : cntD c j ≤ j := by
  unfold cntD; have := List.length_filter_le (run c) (rngN c.fro j); rwa [rngN_len] at this

theorem c9 (c : Cal) (hf : Cal.fit c) : CallOk Try.prog 9 [.imm (.agg (calE c))] { res := [.imm (.int .i64 (if validC c then (cntD c (span c) : Int) else 0)), .imm (.bool (validC c))] } := by
  refine callOk_of tyOk Try.func9 rfl rfl (le_of_ble rfl) (le_of_ble rfl) (mutOk_imm rfl _) ?_
  have hc := c10 c hf
  cases hv : validC c with
  | false =>
    rw [hv] at hc
    repeat' first | refine go_seq ?_ | refine go_region ?_ | ((first | refine go_op rfl ?_ | refine go_nil ?_ | refine go_call [] (hc) rfl rfl rfl rfl ?_) <;> conv => whnf) | ((first | refine go_loadB ?_ | refine ⟨by kernel_rfl, ?_⟩ | refine go_ret ?_) <;> conv => whnf) | refine go_block ?_ | ((first | refine go_skip ?_ | refine go_exit ?_) <;> conv => whnf) | refine go_true rfl ?_ | refine go_false rfl ?_ | refine go_cond rfl (fun h => ?_) (fun h => ?_) | refine ⟨rfl, ?_⟩ | ((first | refine ⟨trivial, ?_⟩ | refine ⟨le_of_ble rfl, ?_⟩) <;> conv => whnf) | fail
    all_goals exact ret_imm2 rfl rfl rfl rfl rfl rfl rfl rfl
  | true =>
    rw [hv] at hc
    obtain ⟨k1, k2, k3, k4, k5⟩ := valid_facts hv
    have hsp : ((span c : Nat) : Int) = c.to + 1 - c.fro := by unfold span; omega
    repeat' first | refine go_seq ?_ | refine go_region ?_ | ((first | refine go_op rfl ?_ | refine go_nil ?_ | refine go_call [] (hc) rfl rfl rfl rfl ?_) <;> conv => whnf) | ((first | refine go_loadB ?_ | refine ⟨by kernel_rfl, ?_⟩ | refine go_ret ?_) <;> conv => whnf) | refine go_block ?_ | ((first | refine go_skip ?_ | refine go_exit ?_) <;> conv => whnf) | refine go_true rfl ?_ | refine go_false rfl ?_ | refine go_cond rfl (fun h => ?_) (fun h => ?_) | refine ⟨rfl, ?_⟩ | ((first | refine ⟨trivial, ?_⟩ | refine ⟨le_of_ble rfl, ?_⟩) <;> conv => whnf) | fail
    refine go_loop (α := Nat) (fun j => j ≤ span c) (fun j => span c - j) (fun j => st Try.f9.ntmps [(1, .box 1000 0), (4, .imm (.int .i64 (cntD c j : Nat))), (5, .imm (.int .i64 (c.fro + (j : Nat))))] [(1000, .box 28 ((calE c).map .imm))] []) 0
      (Nat.zero_le _) (ref_st (fun _ => nid 1 1) rfl ⟨⟨rfl, rfl⟩, rfl, (by show AV.imm (.int .i64 c.fro) = .imm (.int .i64 (c.fro + ((0 : Nat) : Int))); rw [Int.natCast_zero, Int.add_zero]), trivial⟩ ⟨⟨rfl, wavs_imm _⟩, trivial⟩ (by simp) rfl (by simp)) ?_
    intro j hj
    have hcl := cntD_le c j
    have hd1 : AV.imm (.int .i64 (IntKind.i64.wrap (c.fro + (j : Int) + 1))) = .imm (.int .i64 (c.fro + ((j + 1 : Nat) : Int))) := by
      rw [wrap_small (by omega) (by omega)]; congr 2; omega
    by_cases hlast : j = span c
    · subst hlast
      repeat' first | refine go_seq ?_ | refine go_region ?_ | ((first | refine go_op rfl ?_ | refine go_nil ?_) <;> conv => whnf) | ((first | refine go_loadB ?_ | refine ⟨by kernel_rfl, ?_⟩ | refine go_ret ?_) <;> conv => whnf) | refine go_block ?_ | ((first | refine go_skip ?_ | refine go_exit ?_) <;> conv => whnf) | refine go_true rfl ?_ | refine go_false rfl ?_ | refine go_cond rfl (fun h => ?_) (fun h => ?_) | refine ⟨rfl, ?_⟩ | ((first | refine ⟨trivial, ?_⟩ | refine ⟨le_of_ble rfl, ?_⟩) <;> conv => whnf) | fail
      all_goals first
        | exact ret_imm2 rfl rfl rfl rfl rfl rfl rfl rfl
        | (exfalso; have g := of_decide_eq_true h; omega)
        | trace_state
    · have hr := c32 c hv (c.fro + (j : Int))
      rw [runD_run (by omega)] at hr
      cases e : run c (c.fro + (j : Int)) with
      | true =>
        rw [e] at hr
        have hc1 : AV.imm (.int .i64 (IntKind.i64.wrap ((cntD c j : Nat) + 1))) = .imm (.int .i64 (cntD c (j + 1) : Nat)) := by
          rw [cntD_yes e, wrap_small (by omega) (by omega)]; rfl
        repeat' first | refine go_seq ?_ | refine go_region ?_ | ((first | refine go_op rfl ?_ | refine go_nil ?_ | refine go_call [] (hr) rfl rfl rfl rfl ?_) <;> conv => whnf) | ((first | refine go_loadB ?_ | refine ⟨by kernel_rfl, ?_⟩ | refine go_ret ?_) <;> conv => whnf) | refine go_block ?_ | ((first | refine go_skip ?_ | refine go_exit ?_) <;> conv => whnf) | refine go_true rfl ?_ | refine go_false rfl ?_ | refine go_cond rfl (fun h => ?_) (fun h => ?_) | refine ⟨rfl, ?_⟩ | ((first | refine ⟨trivial, ?_⟩ | refine ⟨le_of_ble rfl, ?_⟩) <;> conv => whnf) | fail
        all_goals first
          | exact go_next (j + 1) (by show j + 1 ≤ _; omega) (by show _ - (j + 1) < _ - j; omega) (ref_st (fun _ => 1000) rfl ⟨⟨rfl, rfl⟩, hc1, hd1, trivial⟩ ⟨⟨rfl, wavs_imm _⟩, trivial⟩ (by simp) rfl (by simp))
          | (exfalso; have g := of_decide_eq_false h; omega)
          | trace_state
      | false =>
        rw [e] at hr
        have hc1 : AV.imm (.int .i64 (cntD c j : Nat)) = .imm (.int .i64 (cntD c (j + 1) : Nat)) := by rw [cntD_no e]
        repeat' first | refine go_seq ?_ | refine go_region ?_ | ((first | refine go_op rfl ?_ | refine go_nil ?_ | refine go_call [] (hr) rfl rfl rfl rfl ?_) <;> conv => whnf) | ((first | refine go_loadB ?_ | refine ⟨by kernel_rfl, ?_⟩ | refine go_ret ?_) <;> conv => whnf) | refine go_block ?_ | ((first | refine go_skip ?_ | refine go_exit ?_) <;> conv => whnf) | refine go_true rfl ?_ | refine go_false rfl ?_ | refine go_cond rfl (fun h => ?_) (fun h => ?_) | refine ⟨rfl, ?_⟩ | ((first | refine ⟨trivial, ?_⟩ | refine ⟨le_of_ble rfl, ?_⟩) <;> conv => whnf) | fail
        all_goals first
          | exact go_next (j + 1) (by show j + 1 ≤ _; omega) (by show _ - (j + 1) < _ - j; omega) (ref_st (fun _ => 1000) rfl ⟨⟨rfl, rfl⟩, hc1, hd1, trivial⟩ ⟨⟨rfl, wavs_imm _⟩, trivial⟩ (by simp) rfl (by simp))
          | (exfalso; have g := of_decide_eq_false h; omega)
          | trace_state
end Go.Proofs.Ytlpdlfdafgoafaa

