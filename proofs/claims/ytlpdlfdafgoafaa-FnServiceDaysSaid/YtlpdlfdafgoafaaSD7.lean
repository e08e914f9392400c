/- Calendars: NextRun: both sides. MADE BY PROGRAM (r9/sd7.py). -/
import Derived.Test.YtlpdlfdafgoafaaSD6
namespace Go.Proofs.Ytlpdlfdafgoafaa
open Go Go.Am Go.SD
set_option maxRecDepth 100000
set_option maxHeartbeats 8000000
attribute [local irreducible] amOps amC opCall opIndexAddr opPick retQ opMake opStore amDraw opAppend opLoad opNilCmp opIndex opSlice

def mx (a b : Int) : Int := if b > a then b else a
def nextN (c : Cal) (day : Int) : Nat := (c.to + 1 - mx day c.fro).toNat
def nextO (c : Cal) (day : Int) : Option Int := next c (mx day c.fro) (nextN c day)
def nxB (c : Cal) (day : Int) : Bool := (validC c && inR day 0 3650) && (nextO c day).isSome
def nxV (c : Cal) (day : Int) : Int := if validC c && inR day 0 3650 then (nextO c day).getD 0 else 0

theorem next_step {c : Cal} {a : Int} {n : Nat} (h : run c a = false) : next c a (n + 1) = next c (a + 1) n := by
  unfold next; rw [rngN, List.find?_cons_of_neg (by simp [h])]

theorem c35 (a b : Int) : CallOk Try.prog 35 [.imm (.int .i64 a), .imm (.int .i64 b)] { res := [.imm (.int .i64 (mx a b))] } := by
  refine callOk_of tyOk Try.func35 rfl rfl (le_of_ble rfl) (le_of_ble rfl) (mutOk_imm rfl _) ?_
  repeat' first | refine go_seq ?_ | refine go_region ?_ | ((first | refine go_op rfl ?_ | refine go_nil ?_) <;> conv => whnf) | ((first | refine ⟨by kernel_rfl, ?_⟩ | refine go_ret ?_) <;> conv => whnf) | ((first | refine go_skip ?_) <;> conv => whnf) | refine go_true rfl ?_ | refine go_false rfl ?_ | refine go_cond rfl (fun h => ?_) (fun h => ?_) | refine ⟨rfl, ?_⟩ | ((first | refine ⟨trivial, ?_⟩ | refine ⟨le_of_ble rfl, ?_⟩) <;> conv => whnf) | fail
  all_goals
    refine ret_imm rfl rfl rfl rfl ?_ rfl
    first
      | (have g := of_decide_eq_true h; unfold mx; congr 1; split <;> omega)
      | (have g := of_decide_eq_false h; unfold mx; congr 1; split <;> omega)

theorem c15 (c : Cal) (hf : Cal.fit c) (day : Int) : CallOk Try.prog 15 [.imm (.agg (calE c)), .imm (.int .i64 day)] { res := [.imm (.int .i64 (nxV c day)), .imm (.bool (nxB c day))] } := by
  refine callOk_of tyOk Try.func15 rfl rfl (le_of_ble rfl) (le_of_ble rfl) (mutOk_imm rfl _) ?_
  have hc := c10 c hf
  have hd := c22 day
  cases hv : validC c with
  | false =>
    rw [hv] at hc
    rw [show nxV c day = 0 from by unfold nxV; rw [hv]; rfl, show nxB c day = false from by unfold nxB; rw [hv]; rfl]
    repeat' first | refine go_seq ?_ | refine go_region ?_ | refine go_miss rfl rfl rfl ?_ | refine go_undef rfl rfl rfl ?_ | ((first | refine go_op rfl ?_ | refine go_nil ?_ | refine go_hit rfl rfl rfl ?_ | refine go_splitT rfl rfl rfl (fun h => ?_) (fun h => ?_) | refine go_splitF rfl rfl rfl (fun h => ?_) (fun h => ?_) | refine go_pickT rfl ?_ | refine go_pickF rfl ?_ | refine go_pick rfl (fun h => ?_) (fun h => ?_) | refine go_call [] (hc) rfl rfl rfl rfl ?_ | refine go_call [] (hd) rfl rfl rfl rfl ?_) <;> conv => whnf) | ((first | refine go_loadB ?_ | refine ⟨by kernel_rfl, ?_⟩ | refine go_ret ?_) <;> conv => whnf) | refine go_block ?_ | ((first | refine go_skip ?_ | refine go_exit ?_) <;> conv => whnf) | refine go_true rfl ?_ | refine go_false rfl ?_ | refine go_cond rfl (fun h => ?_) (fun h => ?_) | refine ⟨rfl, ?_⟩ | ((first | refine ⟨trivial, ?_⟩ | refine ⟨le_of_ble rfl, ?_⟩) <;> conv => whnf) | fail
    all_goals exact ret_imm2 rfl rfl rfl rfl rfl rfl rfl rfl
  | true =>
    rw [hv] at hc
    cases hi : inR day 0 3650 with
    | false =>
      rw [hi] at hd
      rw [show nxV c day = 0 from by unfold nxV; rw [hv, hi]; rfl, show nxB c day = false from by unfold nxB; rw [hv, hi]; rfl]
      repeat' first | refine go_seq ?_ | refine go_region ?_ | refine go_miss rfl rfl rfl ?_ | refine go_undef rfl rfl rfl ?_ | ((first | refine go_op rfl ?_ | refine go_nil ?_ | refine go_hit rfl rfl rfl ?_ | refine go_splitT rfl rfl rfl (fun h => ?_) (fun h => ?_) | refine go_splitF rfl rfl rfl (fun h => ?_) (fun h => ?_) | refine go_pickT rfl ?_ | refine go_pickF rfl ?_ | refine go_pick rfl (fun h => ?_) (fun h => ?_) | refine go_call [] (hc) rfl rfl rfl rfl ?_ | refine go_call [] (hd) rfl rfl rfl rfl ?_) <;> conv => whnf) | ((first | refine go_loadB ?_ | refine ⟨by kernel_rfl, ?_⟩ | refine go_ret ?_) <;> conv => whnf) | refine go_block ?_ | ((first | refine go_skip ?_ | refine go_exit ?_) <;> conv => whnf) | refine go_true rfl ?_ | refine go_false rfl ?_ | refine go_cond rfl (fun h => ?_) (fun h => ?_) | refine ⟨rfl, ?_⟩ | ((first | refine ⟨trivial, ?_⟩ | refine ⟨le_of_ble rfl, ?_⟩) <;> conv => whnf) | fail
      all_goals exact ret_imm2 rfl rfl rfl rfl rfl rfl rfl rfl
    | true =>
      rw [hi] at hd
      obtain ⟨k1, k2, k3, k4, k5⟩ := valid_facts hv
      simp only [inR, Bool.and_eq_true, decide_eq_true_eq] at hi
      have hV : nxV c day = (nextO c day).getD 0 := by unfold nxV; rw [hv, show inR day 0 3650 = true from by simp only [inR, Bool.and_eq_true, decide_eq_true_eq]; exact hi]; rfl
      have hB : nxB c day = (nextO c day).isSome := by unfold nxB; rw [hv, show inR day 0 3650 = true from by simp only [inR, Bool.and_eq_true, decide_eq_true_eq]; exact hi]; rfl
      rw [hV, hB]
      have hm : c.fro ≤ mx day c.fro ∧ mx day c.fro ≤ 3650 := by unfold mx; split <;> omega
      have hN : nextN c day = (c.to + 1 - mx day c.fro).toNat := rfl
      repeat' first | refine go_seq ?_ | refine go_region ?_ | refine go_miss rfl rfl rfl ?_ | refine go_undef rfl rfl rfl ?_ | ((first | refine go_op rfl ?_ | refine go_nil ?_ | refine go_hit rfl rfl rfl ?_ | refine go_splitT rfl rfl rfl (fun h => ?_) (fun h => ?_) | refine go_splitF rfl rfl rfl (fun h => ?_) (fun h => ?_) | refine go_pickT rfl ?_ | refine go_pickF rfl ?_ | refine go_pick rfl (fun h => ?_) (fun h => ?_) | refine go_call [] (hc) rfl rfl rfl rfl ?_ | refine go_call [] (hd) rfl rfl rfl rfl ?_) <;> conv => whnf) | ((first | refine go_loadB ?_ | refine ⟨by kernel_rfl, ?_⟩ | refine go_ret ?_) <;> conv => whnf) | refine go_block ?_ | ((first | refine go_skip ?_ | refine go_exit ?_) <;> conv => whnf) | refine go_true rfl ?_ | refine go_false rfl ?_ | refine go_cond rfl (fun h => ?_) (fun h => ?_) | refine ⟨rfl, ?_⟩ | ((first | refine ⟨trivial, ?_⟩ | refine ⟨le_of_ble rfl, ?_⟩) <;> conv => whnf) | fail
      refine go_loop (α := Nat) (fun j => j ≤ nextN c day ∧ nextO c day = next c (mx day c.fro + j) (nextN c day - j)) (fun j => nextN c day - j) (fun j => st Try.f15.ntmps [(2, .box 1000 0), (6, .imm (.int .i64 (mx day c.fro + (j : Nat))))] [(1000, .box 28 ((calE c).map .imm))] []) 0
        ⟨Nat.zero_le _, by rw [Int.natCast_zero, Int.add_zero]; rfl⟩ (ref_st (fun _ => nid 1 2) rfl ⟨⟨rfl, rfl⟩, (by show AV.imm (.int .i64 (mx day c.fro)) = .imm (.int .i64 (mx day c.fro + ((0 : Nat) : Int))); rw [Int.natCast_zero, Int.add_zero]), trivial⟩ ⟨⟨rfl, wavs_imm _⟩, trivial⟩ (by simp) rfl (by simp)) ?_
      rintro j ⟨hj, hn⟩
      have hd1 : AV.imm (.int .i64 (IntKind.i64.wrap (mx day c.fro + (j : Int) + 1))) = .imm (.int .i64 (mx day c.fro + ((j + 1 : Nat) : Int))) := by
        rw [wrap_small (by omega) (by omega)]; congr 2; omega
      by_cases hlast : j = nextN c day
      · rw [hn, show nextN c day - j = 0 from by omega]
        repeat' first | refine go_seq ?_ | refine go_region ?_ | refine go_miss rfl rfl rfl ?_ | refine go_undef rfl rfl rfl ?_ | ((first | refine go_op rfl ?_ | refine go_nil ?_ | refine go_hit rfl rfl rfl ?_ | refine go_splitT rfl rfl rfl (fun h => ?_) (fun h => ?_) | refine go_splitF rfl rfl rfl (fun h => ?_) (fun h => ?_) | refine go_pickT rfl ?_ | refine go_pickF rfl ?_ | refine go_pick rfl (fun h => ?_) (fun h => ?_)) <;> conv => whnf) | ((first | refine go_loadB ?_ | refine ⟨by kernel_rfl, ?_⟩ | refine go_ret ?_) <;> conv => whnf) | refine go_block ?_ | ((first | refine go_skip ?_ | refine go_exit ?_) <;> conv => whnf) | refine go_true rfl ?_ | refine go_false rfl ?_ | refine go_cond rfl (fun h => ?_) (fun h => ?_) | refine ⟨rfl, ?_⟩ | ((first | refine ⟨trivial, ?_⟩ | refine ⟨le_of_ble rfl, ?_⟩) <;> conv => whnf) | fail
        all_goals first
          | exact ret_imm2 rfl rfl rfl rfl rfl rfl rfl rfl
          | (exfalso; have g := of_decide_eq_true h; omega)
          | trace_state
      · obtain ⟨k, hk⟩ : ∃ k, nextN c day - j = k + 1 := ⟨nextN c day - j - 1, by omega⟩
        have hr := c32 c hv (mx day c.fro + (j : Int))
        rw [runD_run (by omega)] at hr
        cases e : run c (mx day c.fro + (j : Int)) with
        | true =>
          rw [e] at hr
          rw [hn, hk, next_self e]
          repeat' first | refine go_seq ?_ | refine go_region ?_ | refine go_miss rfl rfl rfl ?_ | refine go_undef rfl rfl rfl ?_ | ((first | refine go_op rfl ?_ | refine go_nil ?_ | refine go_hit rfl rfl rfl ?_ | refine go_splitT rfl rfl rfl (fun h => ?_) (fun h => ?_) | refine go_splitF rfl rfl rfl (fun h => ?_) (fun h => ?_) | refine go_pickT rfl ?_ | refine go_pickF rfl ?_ | refine go_pick rfl (fun h => ?_) (fun h => ?_) | refine go_call [] (hr) rfl rfl rfl rfl ?_) <;> conv => whnf) | ((first | refine go_loadB ?_ | refine ⟨by kernel_rfl, ?_⟩ | refine go_ret ?_) <;> conv => whnf) | refine go_block ?_ | ((first | refine go_skip ?_ | refine go_exit ?_) <;> conv => whnf) | refine go_true rfl ?_ | refine go_false rfl ?_ | refine go_cond rfl (fun h => ?_) (fun h => ?_) | refine ⟨rfl, ?_⟩ | ((first | refine ⟨trivial, ?_⟩ | refine ⟨le_of_ble rfl, ?_⟩) <;> conv => whnf) | fail
          all_goals first
            | exact ret_imm2 rfl rfl rfl rfl rfl rfl rfl rfl
            | (exfalso; have g := of_decide_eq_false h; omega)
            | trace_state
        | false =>
          rw [e] at hr
          have hn2 : nextO c day = next c (mx day c.fro + ((j + 1 : Nat) : Int)) (nextN c day - (j + 1)) := by
            rw [hn, hk, next_step e, show nextN c day - (j + 1) = k from by omega]; congr 1; omega
          repeat' first | refine go_seq ?_ | refine go_region ?_ | refine go_miss rfl rfl rfl ?_ | refine go_undef rfl rfl rfl ?_ | ((first | refine go_op rfl ?_ | refine go_nil ?_ | refine go_hit rfl rfl rfl ?_ | refine go_splitT rfl rfl rfl (fun h => ?_) (fun h => ?_) | refine go_splitF rfl rfl rfl (fun h => ?_) (fun h => ?_) | refine go_pickT rfl ?_ | refine go_pickF rfl ?_ | refine go_pick rfl (fun h => ?_) (fun h => ?_) | refine go_call [] (hr) rfl rfl rfl rfl ?_) <;> conv => whnf) | ((first | refine go_loadB ?_ | refine ⟨by kernel_rfl, ?_⟩ | refine go_ret ?_) <;> conv => whnf) | refine go_block ?_ | ((first | refine go_skip ?_ | refine go_exit ?_) <;> conv => whnf) | refine go_true rfl ?_ | refine go_false rfl ?_ | refine go_cond rfl (fun h => ?_) (fun h => ?_) | refine ⟨rfl, ?_⟩ | ((first | refine ⟨trivial, ?_⟩ | refine ⟨le_of_ble rfl, ?_⟩) <;> conv => whnf) | fail
          all_goals first
            | exact go_next (j + 1) ⟨by omega, hn2⟩ (by omega) (ref_st (fun _ => 1000) rfl ⟨⟨rfl, rfl⟩, hd1, trivial⟩ ⟨⟨rfl, wavs_imm _⟩, trivial⟩ (by simp) rfl (by simp))
            | (exfalso; have g := of_decide_eq_false h; omega)
            | trace_state

theorem c16 (c : Cal) (hf : Cal.fit c) (day : Int) : CallOk Try.prog 16 [.imm (.agg (calE c)), .imm (.int .i64 day)] { res := [.imm (.int .i64 (nxV c day)), .imm (.bool (nxB c day))] } := by
  refine callOk_of tyOk Try.func16 rfl rfl (le_of_ble rfl) (le_of_ble rfl) (mutOk_imm rfl _) ?_
  have hc := c31 c hf
  have hd := c26 day
  cases hv : validC c with
  | false =>
    rw [hv] at hc
    rw [show nxV c day = 0 from by unfold nxV; rw [hv]; rfl, show nxB c day = false from by unfold nxB; rw [hv]; rfl]
    repeat' first | refine go_seq ?_ | refine go_region ?_ | refine go_miss rfl rfl rfl ?_ | refine go_undef rfl rfl rfl ?_ | ((first | refine go_op rfl ?_ | refine go_nil ?_ | refine go_hit rfl rfl rfl ?_ | refine go_splitT rfl rfl rfl (fun h => ?_) (fun h => ?_) | refine go_splitF rfl rfl rfl (fun h => ?_) (fun h => ?_) | refine go_pickT rfl ?_ | refine go_pickF rfl ?_ | refine go_pick rfl (fun h => ?_) (fun h => ?_) | refine go_call [] (hc) rfl rfl rfl rfl ?_ | refine go_call [] (hd) rfl rfl rfl rfl ?_) <;> conv => whnf) | ((first | refine go_loadB ?_ | refine ⟨by kernel_rfl, ?_⟩ | refine go_ret ?_) <;> conv => whnf) | refine go_block ?_ | ((first | refine go_skip ?_ | refine go_exit ?_) <;> conv => whnf) | refine go_true rfl ?_ | refine go_false rfl ?_ | refine go_cond rfl (fun h => ?_) (fun h => ?_) | refine ⟨rfl, ?_⟩ | ((first | refine ⟨trivial, ?_⟩ | refine ⟨le_of_ble rfl, ?_⟩) <;> conv => whnf) | fail
    all_goals exact ret_imm2 rfl rfl rfl rfl rfl rfl rfl rfl
  | true =>
    rw [hv] at hc
    cases hi : inR day 0 3650 with
    | false =>
      rw [hi] at hd
      rw [show nxV c day = 0 from by unfold nxV; rw [hv, hi]; rfl, show nxB c day = false from by unfold nxB; rw [hv, hi]; rfl]
      repeat' first | refine go_seq ?_ | refine go_region ?_ | refine go_miss rfl rfl rfl ?_ | refine go_undef rfl rfl rfl ?_ | ((first | refine go_op rfl ?_ | refine go_nil ?_ | refine go_hit rfl rfl rfl ?_ | refine go_splitT rfl rfl rfl (fun h => ?_) (fun h => ?_) | refine go_splitF rfl rfl rfl (fun h => ?_) (fun h => ?_) | refine go_pickT rfl ?_ | refine go_pickF rfl ?_ | refine go_pick rfl (fun h => ?_) (fun h => ?_) | refine go_call [] (hc) rfl rfl rfl rfl ?_ | refine go_call [] (hd) rfl rfl rfl rfl ?_) <;> conv => whnf) | ((first | refine go_loadB ?_ | refine ⟨by kernel_rfl, ?_⟩ | refine go_ret ?_) <;> conv => whnf) | refine go_block ?_ | ((first | refine go_skip ?_ | refine go_exit ?_) <;> conv => whnf) | refine go_true rfl ?_ | refine go_false rfl ?_ | refine go_cond rfl (fun h => ?_) (fun h => ?_) | refine ⟨rfl, ?_⟩ | ((first | refine ⟨trivial, ?_⟩ | refine ⟨le_of_ble rfl, ?_⟩) <;> conv => whnf) | fail
      all_goals exact ret_imm2 rfl rfl rfl rfl rfl rfl rfl rfl
    | true =>
      rw [hi] at hd
      obtain ⟨k1, k2, k3, k4, k5⟩ := valid_facts hv
      simp only [inR, Bool.and_eq_true, decide_eq_true_eq] at hi
      have hV : nxV c day = (nextO c day).getD 0 := by unfold nxV; rw [hv, show inR day 0 3650 = true from by simp only [inR, Bool.and_eq_true, decide_eq_true_eq]; exact hi]; rfl
      have hB : nxB c day = (nextO c day).isSome := by unfold nxB; rw [hv, show inR day 0 3650 = true from by simp only [inR, Bool.and_eq_true, decide_eq_true_eq]; exact hi]; rfl
      rw [hV, hB]
      have hm : c.fro ≤ mx day c.fro ∧ mx day c.fro ≤ 3650 := by unfold mx; split <;> omega
      have hN : nextN c day = (c.to + 1 - mx day c.fro).toNat := rfl
      have hmo := c35 day c.fro
      repeat' first | refine go_seq ?_ | refine go_region ?_ | refine go_miss rfl rfl rfl ?_ | refine go_undef rfl rfl rfl ?_ | ((first | refine go_op rfl ?_ | refine go_nil ?_ | refine go_hit rfl rfl rfl ?_ | refine go_splitT rfl rfl rfl (fun h => ?_) (fun h => ?_) | refine go_splitF rfl rfl rfl (fun h => ?_) (fun h => ?_) | refine go_pickT rfl ?_ | refine go_pickF rfl ?_ | refine go_pick rfl (fun h => ?_) (fun h => ?_) | refine go_call [] (hc) rfl rfl rfl rfl ?_ | refine go_call [] (hd) rfl rfl rfl rfl ?_ | refine go_call [] (hmo) rfl rfl rfl rfl ?_) <;> conv => whnf) | ((first | refine go_loadB ?_ | refine ⟨by kernel_rfl, ?_⟩ | refine go_ret ?_) <;> conv => whnf) | refine go_block ?_ | ((first | refine go_skip ?_ | refine go_exit ?_) <;> conv => whnf) | refine go_true rfl ?_ | refine go_false rfl ?_ | refine go_cond rfl (fun h => ?_) (fun h => ?_) | refine ⟨rfl, ?_⟩ | ((first | refine ⟨trivial, ?_⟩ | refine ⟨le_of_ble rfl, ?_⟩) <;> conv => whnf) | fail
      refine go_loop (α := Nat) (fun j => j ≤ nextN c day ∧ nextO c day = next c (mx day c.fro + j) (nextN c day - j)) (fun j => nextN c day - j) (fun j => st Try.f16.ntmps [(2, .box 1000 0), (6, .imm (.int .i64 (mx day c.fro + (j : Nat))))] [(1000, .box 28 ((calE c).map .imm))] []) 0
        ⟨Nat.zero_le _, by rw [Int.natCast_zero, Int.add_zero]; rfl⟩ (ref_st (fun _ => nid 1 2) rfl ⟨⟨rfl, rfl⟩, (by show AV.imm (.int .i64 (mx day c.fro)) = .imm (.int .i64 (mx day c.fro + ((0 : Nat) : Int))); rw [Int.natCast_zero, Int.add_zero]), trivial⟩ ⟨⟨rfl, wavs_imm _⟩, trivial⟩ (by simp) rfl (by simp)) ?_
      rintro j ⟨hj, hn⟩
      have hd1 : AV.imm (.int .i64 (IntKind.i64.wrap (mx day c.fro + (j : Int) + 1))) = .imm (.int .i64 (mx day c.fro + ((j + 1 : Nat) : Int))) := by
        rw [wrap_small (by omega) (by omega)]; congr 2; omega
      by_cases hlast : j = nextN c day
      · rw [hn, show nextN c day - j = 0 from by omega]
        repeat' first | refine go_seq ?_ | refine go_region ?_ | refine go_miss rfl rfl rfl ?_ | refine go_undef rfl rfl rfl ?_ | ((first | refine go_op rfl ?_ | refine go_nil ?_ | refine go_hit rfl rfl rfl ?_ | refine go_splitT rfl rfl rfl (fun h => ?_) (fun h => ?_) | refine go_splitF rfl rfl rfl (fun h => ?_) (fun h => ?_) | refine go_pickT rfl ?_ | refine go_pickF rfl ?_ | refine go_pick rfl (fun h => ?_) (fun h => ?_)) <;> conv => whnf) | ((first | refine go_loadB ?_ | refine ⟨by kernel_rfl, ?_⟩ | refine go_ret ?_) <;> conv => whnf) | refine go_block ?_ | ((first | refine go_skip ?_ | refine go_exit ?_) <;> conv => whnf) | refine go_true rfl ?_ | refine go_false rfl ?_ | refine go_cond rfl (fun h => ?_) (fun h => ?_) | refine ⟨rfl, ?_⟩ | ((first | refine ⟨trivial, ?_⟩ | refine ⟨le_of_ble rfl, ?_⟩) <;> conv => whnf) | fail
        all_goals first
          | exact ret_imm2 rfl rfl rfl rfl rfl rfl rfl rfl
          | (exfalso; have g := of_decide_eq_true h; omega)
          | trace_state
      · obtain ⟨k, hk⟩ : ∃ k, nextN c day - j = k + 1 := ⟨nextN c day - j - 1, by omega⟩
        have hr := c18 c hv (mx day c.fro + (j : Int))
        rw [runD_run (by omega)] at hr
        cases e : run c (mx day c.fro + (j : Int)) with
        | true =>
          rw [e] at hr
          rw [hn, hk, next_self e]
          repeat' first | refine go_seq ?_ | refine go_region ?_ | refine go_miss rfl rfl rfl ?_ | refine go_undef rfl rfl rfl ?_ | ((first | refine go_op rfl ?_ | refine go_nil ?_ | refine go_hit rfl rfl rfl ?_ | refine go_splitT rfl rfl rfl (fun h => ?_) (fun h => ?_) | refine go_splitF rfl rfl rfl (fun h => ?_) (fun h => ?_) | refine go_pickT rfl ?_ | refine go_pickF rfl ?_ | refine go_pick rfl (fun h => ?_) (fun h => ?_) | refine go_call [] (hr) rfl rfl rfl rfl ?_) <;> conv => whnf) | ((first | refine go_loadB ?_ | refine ⟨by kernel_rfl, ?_⟩ | refine go_ret ?_) <;> conv => whnf) | refine go_block ?_ | ((first | refine go_skip ?_ | refine go_exit ?_) <;> conv => whnf) | refine go_true rfl ?_ | refine go_false rfl ?_ | refine go_cond rfl (fun h => ?_) (fun h => ?_) | refine ⟨rfl, ?_⟩ | ((first | refine ⟨trivial, ?_⟩ | refine ⟨le_of_ble rfl, ?_⟩) <;> conv => whnf) | fail
          all_goals first
            | exact ret_imm2 rfl rfl rfl rfl rfl rfl rfl rfl
            | (exfalso; have g := of_decide_eq_false h; omega)
            | trace_state
        | false =>
          rw [e] at hr
          have hn2 : nextO c day = next c (mx day c.fro + ((j + 1 : Nat) : Int)) (nextN c day - (j + 1)) := by
            rw [hn, hk, next_step e, show nextN c day - (j + 1) = k from by omega]; congr 1; omega
          repeat' first | refine go_seq ?_ | refine go_region ?_ | refine go_miss rfl rfl rfl ?_ | refine go_undef rfl rfl rfl ?_ | ((first | refine go_op rfl ?_ | refine go_nil ?_ | refine go_hit rfl rfl rfl ?_ | refine go_splitT rfl rfl rfl (fun h => ?_) (fun h => ?_) | refine go_splitF rfl rfl rfl (fun h => ?_) (fun h => ?_) | refine go_pickT rfl ?_ | refine go_pickF rfl ?_ | refine go_pick rfl (fun h => ?_) (fun h => ?_) | refine go_call [] (hr) rfl rfl rfl rfl ?_) <;> conv => whnf) | ((first | refine go_loadB ?_ | refine ⟨by kernel_rfl, ?_⟩ | refine go_ret ?_) <;> conv => whnf) | refine go_block ?_ | ((first | refine go_skip ?_ | refine go_exit ?_) <;> conv => whnf) | refine go_true rfl ?_ | refine go_false rfl ?_ | refine go_cond rfl (fun h => ?_) (fun h => ?_) | refine ⟨rfl, ?_⟩ | ((first | refine ⟨trivial, ?_⟩ | refine ⟨le_of_ble rfl, ?_⟩) <;> conv => whnf) | fail
          all_goals first
            | exact go_next (j + 1) ⟨by omega, hn2⟩ (by omega) (ref_st (fun _ => 1000) rfl ⟨⟨rfl, rfl⟩, hd1, trivial⟩ ⟨⟨rfl, wavs_imm _⟩, trivial⟩ (by simp) rfl (by simp))
            | (exfalso; have g := of_decide_eq_false h; omega)
            | trace_state
end Go.Proofs.Ytlpdlfdafgoafaa

