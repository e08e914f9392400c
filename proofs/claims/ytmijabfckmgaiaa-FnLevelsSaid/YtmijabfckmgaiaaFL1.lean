/- Charging: legs, batteries and plans: whether they are valid: the program. -/
import Derived.Test.YtmijabfckmgaiaaFL0
import Derived.Test.YtmijabfckmgaiaaFL1x
namespace Go.Proofs.Ytmijabfckmgaiaa
open Go Go.Am
set_option maxRecDepth 100000
set_option maxHeartbeats 8000000
attribute [local irreducible] amOps amC opCall opIndexAddr opPick retQ opMake opStore amDraw opAppend opLoad opNilCmp opIndex opSlice

theorem c11 (xs : List Leg) (hl : xs.length ≤ 1048576) : CallOk Try.prog 11 [.imm (.list (xs.map Leg.enc))] { res := [.imm (.bool (legsOk xs))] } := by
  refine callOk_of tyOk Try.func11 rfl rfl (le_of_ble rfl) (le_of_ble rfl) (mutOk_imm rfl _) ?_
  have hlm : ((xs.map Leg.enc).length : Int) = xs.length := by rw [List.length_map]
  have h0 := c33 ((xs.map Leg.enc).length : Int) 1 12
  cases e0 : inR ((xs.map Leg.enc).length : Int) 1 12 with
  | false =>
    rw [e0] at h0
    rw [show legsOk xs = false from by unfold legsOk; rw [← hlm, e0]; rfl]
    repeat' first | refine go_seq ?_ | refine go_region ?_ | refine go_miss rfl rfl rfl ?_ | refine go_undef rfl rfl rfl ?_ | refine go_draw drawsOk ?_ | ((first | refine go_op rfl ?_ | refine go_nil ?_ | refine go_hit rfl rfl rfl ?_ | refine go_splitT rfl rfl rfl (fun h => ?_) (fun h => ?_) | refine go_splitF rfl rfl rfl (fun h => ?_) (fun h => ?_) | refine go_storeBox rfl rfl rfl rfl rfl rfl ?_ | refine go_dop rfl ?_ | refine go_dhit rfl rfl ?_ | refine go_dmiss rfl rfl ?_ | refine go_dundef rfl rfl ?_ | refine go_dend (by kernel_rfl) ?_ | refine go_pickT rfl ?_ | refine go_pickF rfl ?_ | refine go_pick rfl (fun h => ?_) (fun h => ?_) | refine go_call [] (h0) rfl rfl rfl rfl ?_) <;> conv => whnf) | ((first | refine go_dsplit2 rfl (fun h => ?_) (fun h => ?_) | refine go_loadB ?_ | refine ⟨by kernel_rfl, ?_⟩ | refine go_ret ?_) <;> conv => whnf) | refine go_block ?_ | ((first | refine go_skip ?_ | refine go_exit ?_) <;> conv => whnf) | refine go_true rfl ?_ | refine go_false rfl ?_ | refine go_cond rfl (fun h => ?_) (fun h => ?_) | refine ⟨rfl, ?_⟩ | ((first | refine ⟨trivial, ?_⟩ | refine ⟨le_of_ble rfl, ?_⟩) <;> conv => whnf) | fail
    all_goals exact ret_imm rfl rfl rfl rfl rfl rfl
  | true =>
  rw [e0] at h0
  have hleg : legsOk xs = legsTo xs xs.length := by unfold legsOk; rw [← hlm, e0, Bool.true_and]
  repeat' first | refine go_seq ?_ | refine go_region ?_ | refine go_miss rfl rfl rfl ?_ | refine go_undef rfl rfl rfl ?_ | refine go_draw drawsOk ?_ | ((first | refine go_op rfl ?_ | refine go_nil ?_ | refine go_hit rfl rfl rfl ?_ | refine go_splitT rfl rfl rfl (fun h => ?_) (fun h => ?_) | refine go_splitF rfl rfl rfl (fun h => ?_) (fun h => ?_) | refine go_storeBox rfl rfl rfl rfl rfl rfl ?_ | refine go_dop rfl ?_ | refine go_dhit rfl rfl ?_ | refine go_dmiss rfl rfl ?_ | refine go_dundef rfl rfl ?_ | refine go_dend (by kernel_rfl) ?_ | refine go_pickT rfl ?_ | refine go_pickF rfl ?_ | refine go_pick rfl (fun h => ?_) (fun h => ?_) | refine go_call [] (h0) rfl rfl rfl rfl ?_) <;> conv => whnf) | ((first | refine go_dsplit2 rfl (fun h => ?_) (fun h => ?_) | refine go_loadB ?_ | refine ⟨by kernel_rfl, ?_⟩ | refine go_ret ?_) <;> conv => whnf) | refine go_block ?_ | ((first | refine go_skip ?_ | refine go_exit ?_) <;> conv => whnf) | refine go_true rfl ?_ | refine go_false rfl ?_ | refine go_cond rfl (fun h => ?_) (fun h => ?_) | refine ⟨rfl, ?_⟩ | ((first | refine ⟨trivial, ?_⟩ | refine ⟨le_of_ble rfl, ?_⟩) <;> conv => whnf) | fail
  refine go_loop (α := Nat) (fun i => i ≤ xs.length ∧ legsTo xs i = true) (fun i => xs.length - i) (fun i => st Try.f11.ntmps [(0, .imm (.list (xs.map Leg.enc))), (9, .imm (.list (xs.map Leg.enc))), (10, .imm (.int .i64 (xs.map Leg.enc).length)), (11, .imm (.int .i64 (i : Nat)))] [] []) 0
    ⟨Nat.zero_le _, rfl⟩ (ref_st0 rfl ⟨rfl, rfl, rfl, rfl, trivial⟩ rfl) ?_
  rintro i ⟨hi, ha⟩
  cases hx : xs[i]? with
  | none =>
    have hge := le_of_at hx
    have hie : i = xs.length := by omega
    subst hie
    repeat' first | refine go_seq ?_ | refine go_region ?_ | refine go_miss rfl rfl rfl ?_ | refine go_undef rfl rfl rfl ?_ | refine go_draw drawsOk ?_ | ((first | refine go_op rfl ?_ | refine go_nil ?_ | refine go_hit rfl rfl rfl ?_ | refine go_splitT rfl rfl rfl (fun h => ?_) (fun h => ?_) | refine go_splitF rfl rfl rfl (fun h => ?_) (fun h => ?_) | refine go_storeBox rfl rfl rfl rfl rfl rfl ?_ | refine go_dop rfl ?_ | refine go_dhit rfl rfl ?_ | refine go_dmiss rfl rfl ?_ | refine go_dundef rfl rfl ?_ | refine go_dend (by kernel_rfl) ?_ | refine go_pickT rfl ?_ | refine go_pickF rfl ?_ | refine go_pick rfl (fun h => ?_) (fun h => ?_)) <;> conv => whnf) | ((first | refine go_dsplit2 rfl (fun h => ?_) (fun h => ?_) | refine go_loadB ?_ | refine ⟨by kernel_rfl, ?_⟩ | refine go_ret ?_) <;> conv => whnf) | refine go_block ?_ | ((first | refine go_skip ?_ | refine go_exit ?_) <;> conv => whnf) | refine go_true rfl ?_ | refine go_false rfl ?_ | refine go_cond rfl (fun h => ?_) (fun h => ?_) | refine ⟨rfl, ?_⟩ | ((first | refine ⟨trivial, ?_⟩ | refine ⟨le_of_ble rfl, ?_⟩) <;> conv => whnf) | fail
    all_goals first
      | exact ret_imm rfl rfl rfl rfl (by rw [hleg, ha]) rfl
      | (exfalso; simp only [decide_eq_true_eq, decide_eq_false_iff_not, hlm] at *; omega)
      | trace_state
  | some l =>
    have hlt := lt_of_at hx
    have hr := row_at Leg.enc hx
    have t1 := c34 l.fro
    have t2 := c34 l.to
    have t3 := c33 l.use 0 10000
    have q1 := time_iff l.fro
    have q2 := time_iff l.to
    have q3 := inR_is l.use 0 10000
    have hno := fun h => legsOk_no (i := i) hlt h
    have hyes : legB xs i = true → legsTo xs (i + 1) = true := fun h => by rw [legsTo_next, ha, h]; rfl
    cases i with
    | zero =>
      have hiff := legB_0 hx
      cases b1 : timeOk l.fro with
      | false =>
        rw [b1] at t1 q1
        simp only [true_iff, Bool.false_eq_true, false_iff] at q1
        repeat' first | refine go_seq ?_ | refine go_region ?_ | refine go_miss rfl rfl rfl ?_ | refine go_undef rfl rfl rfl ?_ | refine go_draw drawsOk ?_ | ((first | refine go_op rfl ?_ | refine go_nil ?_ | refine go_hit rfl rfl rfl ?_ | refine go_splitT rfl rfl rfl (fun h => ?_) (fun h => ?_) | refine go_splitF rfl rfl rfl (fun h => ?_) (fun h => ?_) | refine go_storeBox rfl rfl rfl rfl rfl rfl ?_ | refine go_dop rfl ?_ | refine go_dhit rfl rfl ?_ | refine go_dmiss rfl rfl ?_ | refine go_dundef rfl rfl ?_ | refine go_dend (by kernel_rfl) ?_ | refine go_pickT rfl ?_ | refine go_pickF rfl ?_ | refine go_pick rfl (fun h => ?_) (fun h => ?_) | refine go_call [] (t1) rfl rfl rfl rfl ?_ | refine go_call [] (t2) rfl rfl rfl rfl ?_ | refine go_call [] (t3) rfl rfl rfl rfl ?_ | refine go_idx rfl rfl rfl rfl (by omega) hr rfl ?_) <;> conv => whnf) | ((first | refine go_dsplit2 rfl (fun h => ?_) (fun h => ?_) | refine go_loadB ?_ | refine ⟨by kernel_rfl, ?_⟩ | refine go_ret ?_) <;> conv => whnf) | refine go_block ?_ | ((first | refine go_skip ?_ | refine go_exit ?_) <;> conv => whnf) | refine go_true rfl ?_ | refine go_false rfl ?_ | refine go_cond rfl (fun h => ?_) (fun h => ?_) | refine ⟨rfl, ?_⟩ | ((first | refine ⟨trivial, ?_⟩ | refine ⟨le_of_ble rfl, ?_⟩) <;> conv => whnf) | fail
        all_goals first
          | (exfalso; simp only [decide_eq_true_eq, decide_eq_false_iff_not, hlm] at *; omega)
          | exact ret_imm rfl rfl rfl rfl (by rw [hno (by rw [hiff]; omega)]) rfl
          | exact ret_imm rfl rfl rfl rfl (by have g := of_decide_eq_true h; rw [hno (by rw [hiff]; omega)]) rfl
          | exact go_next 1 ⟨by omega, hyes (by have g := of_decide_eq_false h; rw [hiff]; omega)⟩ (by omega) (ref_st0 rfl ⟨rfl, rfl, rfl, rfl, trivial⟩ rfl)
          | exact go_next 1 ⟨by omega, hyes (by rename_i g0 _; have g := of_decide_eq_false g0; rw [hiff]; omega)⟩ (by omega) (ref_st0 rfl ⟨rfl, rfl, rfl, rfl, trivial⟩ rfl)
          | exact go_next 1 ⟨by omega, hyes (by rename_i g0; have g := of_decide_eq_false g0; rw [hiff]; omega)⟩ (by omega) (ref_st0 rfl ⟨rfl, rfl, rfl, rfl, trivial⟩ rfl)
          | trace_state
      | true =>
      cases b2 : timeOk l.to with
      | false =>
        rw [b1] at t1 q1
        rw [b2] at t2 q2
        simp only [true_iff, Bool.false_eq_true, false_iff] at q1 q2
        repeat' first | refine go_seq ?_ | refine go_region ?_ | refine go_miss rfl rfl rfl ?_ | refine go_undef rfl rfl rfl ?_ | refine go_draw drawsOk ?_ | ((first | refine go_op rfl ?_ | refine go_nil ?_ | refine go_hit rfl rfl rfl ?_ | refine go_splitT rfl rfl rfl (fun h => ?_) (fun h => ?_) | refine go_splitF rfl rfl rfl (fun h => ?_) (fun h => ?_) | refine go_storeBox rfl rfl rfl rfl rfl rfl ?_ | refine go_dop rfl ?_ | refine go_dhit rfl rfl ?_ | refine go_dmiss rfl rfl ?_ | refine go_dundef rfl rfl ?_ | refine go_dend (by kernel_rfl) ?_ | refine go_pickT rfl ?_ | refine go_pickF rfl ?_ | refine go_pick rfl (fun h => ?_) (fun h => ?_) | refine go_call [] (t1) rfl rfl rfl rfl ?_ | refine go_call [] (t2) rfl rfl rfl rfl ?_ | refine go_call [] (t3) rfl rfl rfl rfl ?_ | refine go_idx rfl rfl rfl rfl (by omega) hr rfl ?_) <;> conv => whnf) | ((first | refine go_dsplit2 rfl (fun h => ?_) (fun h => ?_) | refine go_loadB ?_ | refine ⟨by kernel_rfl, ?_⟩ | refine go_ret ?_) <;> conv => whnf) | refine go_block ?_ | ((first | refine go_skip ?_ | refine go_exit ?_) <;> conv => whnf) | refine go_true rfl ?_ | refine go_false rfl ?_ | refine go_cond rfl (fun h => ?_) (fun h => ?_) | refine ⟨rfl, ?_⟩ | ((first | refine ⟨trivial, ?_⟩ | refine ⟨le_of_ble rfl, ?_⟩) <;> conv => whnf) | fail
        all_goals first
          | (exfalso; simp only [decide_eq_true_eq, decide_eq_false_iff_not, hlm] at *; omega)
          | exact ret_imm rfl rfl rfl rfl (by rw [hno (by rw [hiff]; omega)]) rfl
          | exact ret_imm rfl rfl rfl rfl (by have g := of_decide_eq_true h; rw [hno (by rw [hiff]; omega)]) rfl
          | exact go_next 1 ⟨by omega, hyes (by have g := of_decide_eq_false h; rw [hiff]; omega)⟩ (by omega) (ref_st0 rfl ⟨rfl, rfl, rfl, rfl, trivial⟩ rfl)
          | exact go_next 1 ⟨by omega, hyes (by rename_i g0 _; have g := of_decide_eq_false g0; rw [hiff]; omega)⟩ (by omega) (ref_st0 rfl ⟨rfl, rfl, rfl, rfl, trivial⟩ rfl)
          | exact go_next 1 ⟨by omega, hyes (by rename_i g0; have g := of_decide_eq_false g0; rw [hiff]; omega)⟩ (by omega) (ref_st0 rfl ⟨rfl, rfl, rfl, rfl, trivial⟩ rfl)
          | trace_state
      | true =>
      cases b3 : inR l.use 0 10000 with
      | false =>
        rw [b1] at t1 q1
        rw [b2] at t2 q2
        rw [b3] at t3 q3
        simp only [true_iff, Bool.false_eq_true, false_iff] at q1 q2 q3
        repeat' first | refine go_seq ?_ | refine go_region ?_ | refine go_miss rfl rfl rfl ?_ | refine go_undef rfl rfl rfl ?_ | refine go_draw drawsOk ?_ | ((first | refine go_op rfl ?_ | refine go_nil ?_ | refine go_hit rfl rfl rfl ?_ | refine go_splitT rfl rfl rfl (fun h => ?_) (fun h => ?_) | refine go_splitF rfl rfl rfl (fun h => ?_) (fun h => ?_) | refine go_storeBox rfl rfl rfl rfl rfl rfl ?_ | refine go_dop rfl ?_ | refine go_dhit rfl rfl ?_ | refine go_dmiss rfl rfl ?_ | refine go_dundef rfl rfl ?_ | refine go_dend (by kernel_rfl) ?_ | refine go_pickT rfl ?_ | refine go_pickF rfl ?_ | refine go_pick rfl (fun h => ?_) (fun h => ?_) | refine go_call [] (t1) rfl rfl rfl rfl ?_ | refine go_call [] (t2) rfl rfl rfl rfl ?_ | refine go_call [] (t3) rfl rfl rfl rfl ?_ | refine go_idx rfl rfl rfl rfl (by omega) hr rfl ?_) <;> conv => whnf) | ((first | refine go_dsplit2 rfl (fun h => ?_) (fun h => ?_) | refine go_loadB ?_ | refine ⟨by kernel_rfl, ?_⟩ | refine go_ret ?_) <;> conv => whnf) | refine go_block ?_ | ((first | refine go_skip ?_ | refine go_exit ?_) <;> conv => whnf) | refine go_true rfl ?_ | refine go_false rfl ?_ | refine go_cond rfl (fun h => ?_) (fun h => ?_) | refine ⟨rfl, ?_⟩ | ((first | refine ⟨trivial, ?_⟩ | refine ⟨le_of_ble rfl, ?_⟩) <;> conv => whnf) | fail
        all_goals first
          | (exfalso; simp only [decide_eq_true_eq, decide_eq_false_iff_not, hlm] at *; omega)
          | exact ret_imm rfl rfl rfl rfl (by rw [hno (by rw [hiff]; omega)]) rfl
          | exact ret_imm rfl rfl rfl rfl (by have g := of_decide_eq_true h; rw [hno (by rw [hiff]; omega)]) rfl
          | exact go_next 1 ⟨by omega, hyes (by have g := of_decide_eq_false h; rw [hiff]; omega)⟩ (by omega) (ref_st0 rfl ⟨rfl, rfl, rfl, rfl, trivial⟩ rfl)
          | exact go_next 1 ⟨by omega, hyes (by rename_i g0 _; have g := of_decide_eq_false g0; rw [hiff]; omega)⟩ (by omega) (ref_st0 rfl ⟨rfl, rfl, rfl, rfl, trivial⟩ rfl)
          | exact go_next 1 ⟨by omega, hyes (by rename_i g0; have g := of_decide_eq_false g0; rw [hiff]; omega)⟩ (by omega) (ref_st0 rfl ⟨rfl, rfl, rfl, rfl, trivial⟩ rfl)
          | trace_state
      | true =>
        rw [b1] at t1 q1
        rw [b2] at t2 q2
        rw [b3] at t3 q3
        simp only [true_iff, Bool.false_eq_true, false_iff] at q1 q2 q3
        repeat' first | refine go_seq ?_ | refine go_region ?_ | refine go_miss rfl rfl rfl ?_ | refine go_undef rfl rfl rfl ?_ | refine go_draw drawsOk ?_ | ((first | refine go_op rfl ?_ | refine go_nil ?_ | refine go_hit rfl rfl rfl ?_ | refine go_splitT rfl rfl rfl (fun h => ?_) (fun h => ?_) | refine go_splitF rfl rfl rfl (fun h => ?_) (fun h => ?_) | refine go_storeBox rfl rfl rfl rfl rfl rfl ?_ | refine go_dop rfl ?_ | refine go_dhit rfl rfl ?_ | refine go_dmiss rfl rfl ?_ | refine go_dundef rfl rfl ?_ | refine go_dend (by kernel_rfl) ?_ | refine go_pickT rfl ?_ | refine go_pickF rfl ?_ | refine go_pick rfl (fun h => ?_) (fun h => ?_) | refine go_call [] (t1) rfl rfl rfl rfl ?_ | refine go_call [] (t2) rfl rfl rfl rfl ?_ | refine go_call [] (t3) rfl rfl rfl rfl ?_ | refine go_idx rfl rfl rfl rfl (by omega) hr rfl ?_) <;> conv => whnf) | ((first | refine go_dsplit2 rfl (fun h => ?_) (fun h => ?_) | refine go_loadB ?_ | refine ⟨by kernel_rfl, ?_⟩ | refine go_ret ?_) <;> conv => whnf) | refine go_block ?_ | ((first | refine go_skip ?_ | refine go_exit ?_) <;> conv => whnf) | refine go_true rfl ?_ | refine go_false rfl ?_ | refine go_cond rfl (fun h => ?_) (fun h => ?_) | refine ⟨rfl, ?_⟩ | ((first | refine ⟨trivial, ?_⟩ | refine ⟨le_of_ble rfl, ?_⟩) <;> conv => whnf) | fail
        all_goals first
          | (exfalso; simp only [decide_eq_true_eq, decide_eq_false_iff_not, hlm] at *; omega)
          | exact ret_imm rfl rfl rfl rfl (by rw [hno (by rw [hiff]; omega)]) rfl
          | exact ret_imm rfl rfl rfl rfl (by have g := of_decide_eq_true h; rw [hno (by rw [hiff]; omega)]) rfl
          | exact go_next 1 ⟨by omega, hyes (by have g := of_decide_eq_false h; rw [hiff]; omega)⟩ (by omega) (ref_st0 rfl ⟨rfl, rfl, rfl, rfl, trivial⟩ rfl)
          | exact go_next 1 ⟨by omega, hyes (by rename_i g0 _; have g := of_decide_eq_false g0; rw [hiff]; omega)⟩ (by omega) (ref_st0 rfl ⟨rfl, rfl, rfl, rfl, trivial⟩ rfl)
          | exact go_next 1 ⟨by omega, hyes (by rename_i g0; have g := of_decide_eq_false g0; rw [hiff]; omega)⟩ (by omega) (ref_st0 rfl ⟨rfl, rfl, rfl, rfl, trivial⟩ rfl)
          | trace_state
    | succ k =>
      have hq : xs[k]? = some xs[k] := List.getElem?_eq_getElem (by omega)
      have hiff := legB_s hx hq
      have hrq := row_at Leg.enc hq
      generalize xs[k] = q at *
      have hw : IntKind.i64.wrap (((k + 1 : Nat) : Int) - 1) = (k : Int) := by rw [wrap_small (by omega) (by omega)]; omega
      cases b1 : timeOk l.fro with
      | false =>
        rw [b1] at t1 q1
        simp only [true_iff, Bool.false_eq_true, false_iff] at q1
        repeat' first | refine go_seq ?_ | refine go_region ?_ | refine go_miss rfl rfl rfl ?_ | refine go_undef rfl rfl rfl ?_ | refine go_draw drawsOk ?_ | ((first | refine go_op rfl ?_ | refine go_nil ?_ | refine go_hit rfl rfl rfl ?_ | refine go_splitT rfl rfl rfl (fun h => ?_) (fun h => ?_) | refine go_splitF rfl rfl rfl (fun h => ?_) (fun h => ?_) | refine go_storeBox rfl rfl rfl rfl rfl rfl ?_ | refine go_dop rfl ?_ | refine go_dhit rfl rfl ?_ | refine go_dmiss rfl rfl ?_ | refine go_dundef rfl rfl ?_ | refine go_dend (by kernel_rfl) ?_ | refine go_pickT rfl ?_ | refine go_pickF rfl ?_ | refine go_pick rfl (fun h => ?_) (fun h => ?_) | refine go_call [] (t1) rfl rfl rfl rfl ?_ | refine go_call [] (t2) rfl rfl rfl rfl ?_ | refine go_call [] (t3) rfl rfl rfl rfl ?_ | refine go_idx rfl rfl rfl rfl (by omega) hr rfl ?_ | refine go_idx (i := IntKind.i64.wrap (((k + 1 : Nat) : Int) - 1)) rfl rfl rfl rfl (by rw [hw]; omega) (by rw [hw]; exact hrq) rfl ?_) <;> conv => whnf) | ((first | refine go_dsplit2 rfl (fun h => ?_) (fun h => ?_) | refine go_loadB ?_ | refine ⟨by kernel_rfl, ?_⟩ | refine go_ret ?_) <;> conv => whnf) | refine go_block ?_ | ((first | refine go_skip ?_ | refine go_exit ?_) <;> conv => whnf) | refine go_true rfl ?_ | refine go_false rfl ?_ | refine go_cond rfl (fun h => ?_) (fun h => ?_) | refine ⟨rfl, ?_⟩ | ((first | refine ⟨trivial, ?_⟩ | refine ⟨le_of_ble rfl, ?_⟩) <;> conv => whnf) | fail
        all_goals first
          | (exfalso; simp only [decide_eq_true_eq, decide_eq_false_iff_not, hlm] at *; omega)
          | exact ret_imm rfl rfl rfl rfl (by rw [hno (by rw [hiff]; omega)]) rfl
          | exact ret_imm rfl rfl rfl rfl (by have g := of_decide_eq_true h; rw [hno (by rw [hiff]; omega)]) rfl
          | exact ret_imm rfl rfl rfl rfl (by rename_i g0; have g := of_decide_eq_true g0; rw [hno (by rw [hiff]; omega)]) rfl
          | exact go_next (k + 2) ⟨by omega, hyes (by have g := of_decide_eq_false h; rename_i g0 _; have g1 := of_decide_eq_false g0; rw [hiff]; omega)⟩ (by omega) (ref_st0 rfl ⟨rfl, rfl, rfl, next_i (by omega), trivial⟩ rfl)
          | exact go_next (k + 2) ⟨by omega, hyes (by have g := of_decide_eq_false h; rename_i g0; have g1 := of_decide_eq_false g0; rw [hiff]; omega)⟩ (by omega) (ref_st0 rfl ⟨rfl, rfl, rfl, next_i (by omega), trivial⟩ rfl)
          | trace_state
      | true =>
      cases b2 : timeOk l.to with
      | false =>
        rw [b1] at t1 q1
        rw [b2] at t2 q2
        simp only [true_iff, Bool.false_eq_true, false_iff] at q1 q2
        repeat' first | refine go_seq ?_ | refine go_region ?_ | refine go_miss rfl rfl rfl ?_ | refine go_undef rfl rfl rfl ?_ | refine go_draw drawsOk ?_ | ((first | refine go_op rfl ?_ | refine go_nil ?_ | refine go_hit rfl rfl rfl ?_ | refine go_splitT rfl rfl rfl (fun h => ?_) (fun h => ?_) | refine go_splitF rfl rfl rfl (fun h => ?_) (fun h => ?_) | refine go_storeBox rfl rfl rfl rfl rfl rfl ?_ | refine go_dop rfl ?_ | refine go_dhit rfl rfl ?_ | refine go_dmiss rfl rfl ?_ | refine go_dundef rfl rfl ?_ | refine go_dend (by kernel_rfl) ?_ | refine go_pickT rfl ?_ | refine go_pickF rfl ?_ | refine go_pick rfl (fun h => ?_) (fun h => ?_) | refine go_call [] (t1) rfl rfl rfl rfl ?_ | refine go_call [] (t2) rfl rfl rfl rfl ?_ | refine go_call [] (t3) rfl rfl rfl rfl ?_ | refine go_idx rfl rfl rfl rfl (by omega) hr rfl ?_ | refine go_idx (i := IntKind.i64.wrap (((k + 1 : Nat) : Int) - 1)) rfl rfl rfl rfl (by rw [hw]; omega) (by rw [hw]; exact hrq) rfl ?_) <;> conv => whnf) | ((first | refine go_dsplit2 rfl (fun h => ?_) (fun h => ?_) | refine go_loadB ?_ | refine ⟨by kernel_rfl, ?_⟩ | refine go_ret ?_) <;> conv => whnf) | refine go_block ?_ | ((first | refine go_skip ?_ | refine go_exit ?_) <;> conv => whnf) | refine go_true rfl ?_ | refine go_false rfl ?_ | refine go_cond rfl (fun h => ?_) (fun h => ?_) | refine ⟨rfl, ?_⟩ | ((first | refine ⟨trivial, ?_⟩ | refine ⟨le_of_ble rfl, ?_⟩) <;> conv => whnf) | fail
        all_goals first
          | (exfalso; simp only [decide_eq_true_eq, decide_eq_false_iff_not, hlm] at *; omega)
          | exact ret_imm rfl rfl rfl rfl (by rw [hno (by rw [hiff]; omega)]) rfl
          | exact ret_imm rfl rfl rfl rfl (by have g := of_decide_eq_true h; rw [hno (by rw [hiff]; omega)]) rfl
          | exact ret_imm rfl rfl rfl rfl (by rename_i g0; have g := of_decide_eq_true g0; rw [hno (by rw [hiff]; omega)]) rfl
          | exact go_next (k + 2) ⟨by omega, hyes (by have g := of_decide_eq_false h; rename_i g0 _; have g1 := of_decide_eq_false g0; rw [hiff]; omega)⟩ (by omega) (ref_st0 rfl ⟨rfl, rfl, rfl, next_i (by omega), trivial⟩ rfl)
          | exact go_next (k + 2) ⟨by omega, hyes (by have g := of_decide_eq_false h; rename_i g0; have g1 := of_decide_eq_false g0; rw [hiff]; omega)⟩ (by omega) (ref_st0 rfl ⟨rfl, rfl, rfl, next_i (by omega), trivial⟩ rfl)
          | trace_state
      | true =>
      cases b3 : inR l.use 0 10000 with
      | false =>
        rw [b1] at t1 q1
        rw [b2] at t2 q2
        rw [b3] at t3 q3
        simp only [true_iff, Bool.false_eq_true, false_iff] at q1 q2 q3
        repeat' first | refine go_seq ?_ | refine go_region ?_ | refine go_miss rfl rfl rfl ?_ | refine go_undef rfl rfl rfl ?_ | refine go_draw drawsOk ?_ | ((first | refine go_op rfl ?_ | refine go_nil ?_ | refine go_hit rfl rfl rfl ?_ | refine go_splitT rfl rfl rfl (fun h => ?_) (fun h => ?_) | refine go_splitF rfl rfl rfl (fun h => ?_) (fun h => ?_) | refine go_storeBox rfl rfl rfl rfl rfl rfl ?_ | refine go_dop rfl ?_ | refine go_dhit rfl rfl ?_ | refine go_dmiss rfl rfl ?_ | refine go_dundef rfl rfl ?_ | refine go_dend (by kernel_rfl) ?_ | refine go_pickT rfl ?_ | refine go_pickF rfl ?_ | refine go_pick rfl (fun h => ?_) (fun h => ?_) | refine go_call [] (t1) rfl rfl rfl rfl ?_ | refine go_call [] (t2) rfl rfl rfl rfl ?_ | refine go_call [] (t3) rfl rfl rfl rfl ?_ | refine go_idx rfl rfl rfl rfl (by omega) hr rfl ?_ | refine go_idx (i := IntKind.i64.wrap (((k + 1 : Nat) : Int) - 1)) rfl rfl rfl rfl (by rw [hw]; omega) (by rw [hw]; exact hrq) rfl ?_) <;> conv => whnf) | ((first | refine go_dsplit2 rfl (fun h => ?_) (fun h => ?_) | refine go_loadB ?_ | refine ⟨by kernel_rfl, ?_⟩ | refine go_ret ?_) <;> conv => whnf) | refine go_block ?_ | ((first | refine go_skip ?_ | refine go_exit ?_) <;> conv => whnf) | refine go_true rfl ?_ | refine go_false rfl ?_ | refine go_cond rfl (fun h => ?_) (fun h => ?_) | refine ⟨rfl, ?_⟩ | ((first | refine ⟨trivial, ?_⟩ | refine ⟨le_of_ble rfl, ?_⟩) <;> conv => whnf) | fail
        all_goals first
          | (exfalso; simp only [decide_eq_true_eq, decide_eq_false_iff_not, hlm] at *; omega)
          | exact ret_imm rfl rfl rfl rfl (by rw [hno (by rw [hiff]; omega)]) rfl
          | exact ret_imm rfl rfl rfl rfl (by have g := of_decide_eq_true h; rw [hno (by rw [hiff]; omega)]) rfl
          | exact ret_imm rfl rfl rfl rfl (by rename_i g0; have g := of_decide_eq_true g0; rw [hno (by rw [hiff]; omega)]) rfl
          | exact go_next (k + 2) ⟨by omega, hyes (by have g := of_decide_eq_false h; rename_i g0 _; have g1 := of_decide_eq_false g0; rw [hiff]; omega)⟩ (by omega) (ref_st0 rfl ⟨rfl, rfl, rfl, next_i (by omega), trivial⟩ rfl)
          | exact go_next (k + 2) ⟨by omega, hyes (by have g := of_decide_eq_false h; rename_i g0; have g1 := of_decide_eq_false g0; rw [hiff]; omega)⟩ (by omega) (ref_st0 rfl ⟨rfl, rfl, rfl, next_i (by omega), trivial⟩ rfl)
          | trace_state
      | true =>
        rw [b1] at t1 q1
        rw [b2] at t2 q2
        rw [b3] at t3 q3
        simp only [true_iff, Bool.false_eq_true, false_iff] at q1 q2 q3
        repeat' first | refine go_seq ?_ | refine go_region ?_ | refine go_miss rfl rfl rfl ?_ | refine go_undef rfl rfl rfl ?_ | refine go_draw drawsOk ?_ | ((first | refine go_op rfl ?_ | refine go_nil ?_ | refine go_hit rfl rfl rfl ?_ | refine go_splitT rfl rfl rfl (fun h => ?_) (fun h => ?_) | refine go_splitF rfl rfl rfl (fun h => ?_) (fun h => ?_) | refine go_storeBox rfl rfl rfl rfl rfl rfl ?_ | refine go_dop rfl ?_ | refine go_dhit rfl rfl ?_ | refine go_dmiss rfl rfl ?_ | refine go_dundef rfl rfl ?_ | refine go_dend (by kernel_rfl) ?_ | refine go_pickT rfl ?_ | refine go_pickF rfl ?_ | refine go_pick rfl (fun h => ?_) (fun h => ?_) | refine go_call [] (t1) rfl rfl rfl rfl ?_ | refine go_call [] (t2) rfl rfl rfl rfl ?_ | refine go_call [] (t3) rfl rfl rfl rfl ?_ | refine go_idx rfl rfl rfl rfl (by omega) hr rfl ?_ | refine go_idx (i := IntKind.i64.wrap (((k + 1 : Nat) : Int) - 1)) rfl rfl rfl rfl (by rw [hw]; omega) (by rw [hw]; exact hrq) rfl ?_) <;> conv => whnf) | ((first | refine go_dsplit2 rfl (fun h => ?_) (fun h => ?_) | refine go_loadB ?_ | refine ⟨by kernel_rfl, ?_⟩ | refine go_ret ?_) <;> conv => whnf) | refine go_block ?_ | ((first | refine go_skip ?_ | refine go_exit ?_) <;> conv => whnf) | refine go_true rfl ?_ | refine go_false rfl ?_ | refine go_cond rfl (fun h => ?_) (fun h => ?_) | refine ⟨rfl, ?_⟩ | ((first | refine ⟨trivial, ?_⟩ | refine ⟨le_of_ble rfl, ?_⟩) <;> conv => whnf) | fail
        all_goals first
          | (exfalso; simp only [decide_eq_true_eq, decide_eq_false_iff_not, hlm] at *; omega)
          | exact ret_imm rfl rfl rfl rfl (by rw [hno (by rw [hiff]; omega)]) rfl
          | exact ret_imm rfl rfl rfl rfl (by have g := of_decide_eq_true h; rw [hno (by rw [hiff]; omega)]) rfl
          | exact ret_imm rfl rfl rfl rfl (by rename_i g0; have g := of_decide_eq_true g0; rw [hno (by rw [hiff]; omega)]) rfl
          | exact go_next (k + 2) ⟨by omega, hyes (by have g := of_decide_eq_false h; rename_i g0 _; have g1 := of_decide_eq_false g0; rw [hiff]; omega)⟩ (by omega) (ref_st0 rfl ⟨rfl, rfl, rfl, next_i (by omega), trivial⟩ rfl)
          | exact go_next (k + 2) ⟨by omega, hyes (by have g := of_decide_eq_false h; rename_i g0; have g1 := of_decide_eq_false g0; rw [hiff]; omega)⟩ (by omega) (ref_st0 rfl ⟨rfl, rfl, rfl, next_i (by omega), trivial⟩ rfl)
          | trace_state
end Go.Proofs.Ytmijabfckmgaiaa

