/- Charging: plans, levels: both sides. -/
import Derived.Test.YtmijabfckmgaiaaFL2
namespace Go.Proofs.Ytmijabfckmgaiaa
open Go Go.Am
set_option maxRecDepth 100000
set_option maxHeartbeats 8000000
attribute [local irreducible] amOps amC opCall opIndexAddr opPick retQ opMake opStore amDraw opAppend opLoad opNilCmp opIndex opSlice

theorem plB_at {xs : List Leg} {p : List Int} {i : Nat} {v : Int} (h : p[i]? = some v) : plB xs p i = inR v 0 (brk xs i) := by
  unfold plB; rw [plAt_of h]

theorem c24 (xs : List Leg) (hv : legsOk xs = true) (p : List Int) (hp : p.length ≤ 1048576) : CallOk Try.prog 24 [.imm (.list (xs.map Leg.enc)), .imm (.list (p.map intRow))] { res := [.imm (.bool (plOk xs p))] } := by
  refine callOk_of tyOk Try.func24 rfl rfl (le_of_ble rfl) (le_of_ble rfl) (mutOk_imm rfl _) ?_
  have hn := (legs_at hv).1
  have hlm : ((xs.map Leg.enc).length : Int) = xs.length := by rw [List.length_map]
  have hpm : ((p.map intRow).length : Int) = p.length := by rw [List.length_map]
  have hw : IntKind.i64.wrap (((xs.map Leg.enc).length : Int) - 1) = (xs.length : Int) - 1 := by rw [hlm]; exact wrap_small (by omega) (by omega)
  unfold plOk
  by_cases hlen : p.length + 1 = xs.length
  · rw [decide_eq_true hlen, Bool.true_and]
    repeat' first | refine go_seq ?_ | refine go_region ?_ | ((first | refine go_op rfl ?_ | refine go_nil ?_) <;> conv => whnf) | ((first | refine go_loadB ?_ | refine ⟨by kernel_rfl, ?_⟩ | refine go_ret ?_) <;> conv => whnf) | refine go_block ?_ | ((first | refine go_skip ?_ | refine go_exit ?_) <;> conv => whnf) | refine go_true rfl ?_ | refine go_false rfl ?_ | refine go_cond rfl (fun h => ?_) (fun h => ?_) | refine ⟨rfl, ?_⟩ | ((first | refine ⟨trivial, ?_⟩ | refine ⟨le_of_ble rfl, ?_⟩) <;> conv => whnf) | fail
    all_goals try first
      | (exfalso; simp only [Bool.not_eq_true', Bool.not_eq_false', decide_eq_true_eq, decide_eq_false_iff_not, hpm, hw] at *; omega)
    refine go_loop (α := Nat) (fun i => i ≤ p.length ∧ plTo xs p i = true) (fun i => p.length - i) (fun i => st Try.f24.ntmps [(0, .imm (.list (xs.map Leg.enc))), (13, .imm (.list (p.map intRow))), (14, .imm (.int .i64 (p.map intRow).length)), (15, .imm (.int .i64 (i : Nat)))] [] []) 0
      ⟨Nat.zero_le _, rfl⟩ (ref_st0 rfl ⟨rfl, rfl, rfl, rfl, trivial⟩ rfl) ?_
    rintro i ⟨hi, ha⟩
    cases hx : p[i]? with
    | none =>
      have hge := le_of_at hx
      have hie : i = p.length := by omega
      subst hie
      rw [ha]
      repeat' first | refine go_seq ?_ | refine go_region ?_ | ((first | refine go_op rfl ?_ | refine go_nil ?_) <;> conv => whnf) | ((first | refine go_loadB ?_ | refine ⟨by kernel_rfl, ?_⟩ | refine go_ret ?_) <;> conv => whnf) | refine go_block ?_ | ((first | refine go_skip ?_ | refine go_exit ?_) <;> conv => whnf) | refine go_true rfl ?_ | refine go_false rfl ?_ | refine go_cond rfl (fun h => ?_) (fun h => ?_) | refine ⟨rfl, ?_⟩ | ((first | refine ⟨trivial, ?_⟩ | refine ⟨le_of_ble rfl, ?_⟩) <;> conv => whnf) | fail
      all_goals first
        | exact ret_imm rfl rfl rfl rfl rfl rfl
        | (exfalso; simp only [decide_eq_true_eq, decide_eq_false_iff_not, hpm] at *; omega)
        | trace_state
    | some v =>
      have hlt := lt_of_at hx
      have hr := row_at intRow hx
      have e1 : IntKind.i64.wrap ((i : Int) + 1) = ((i + 1 : Nat) : Int) := by rw [wrap_small (by omega) (by omega)]; omega
      have hB : CallOk Try.prog 31 [.imm (.list (xs.map Leg.enc)), .imm (.int .i64 (IntKind.i64.wrap ((i : Int) + 1)))] { res := [.imm (.int .i64 (brk xs i))] } := by
        rw [e1]; exact c31 xs hv i (by omega)
      have hI := c33 v 0 (brk xs i)
      have hpb := plB_at (xs := xs) hx
      cases b1 : inR v 0 (brk xs i) with
      | true =>
        rw [b1] at hI hpb
        repeat' first | refine go_seq ?_ | refine go_region ?_ | ((first | refine go_op rfl ?_ | refine go_nil ?_ | refine go_call [] (hB) rfl rfl rfl rfl ?_ | refine go_call [] (hI) rfl rfl rfl rfl ?_ | refine go_idx rfl rfl rfl rfl (by omega) hr rfl ?_) <;> conv => whnf) | ((first | refine go_loadB ?_ | refine ⟨by kernel_rfl, ?_⟩ | refine go_ret ?_) <;> conv => whnf) | refine go_block ?_ | ((first | refine go_skip ?_ | refine go_exit ?_) <;> conv => whnf) | refine go_true rfl ?_ | refine go_false rfl ?_ | refine go_cond rfl (fun h => ?_) (fun h => ?_) | refine ⟨rfl, ?_⟩ | ((first | refine ⟨trivial, ?_⟩ | refine ⟨le_of_ble rfl, ?_⟩) <;> conv => whnf) | fail
        all_goals first
          | exact go_next (i + 1) ⟨by omega, by rw [plTo_next, ha, hpb]; rfl⟩ (by omega) (ref_st0 rfl ⟨rfl, rfl, rfl, next_i (by omega), trivial⟩ rfl)
          | (exfalso; simp only [decide_eq_true_eq, decide_eq_false_iff_not, hpm] at *; omega)
          | trace_state
      | false =>
        rw [b1] at hI hpb
        rw [plTo_no hlt hpb]
        repeat' first | refine go_seq ?_ | refine go_region ?_ | ((first | refine go_op rfl ?_ | refine go_nil ?_ | refine go_call [] (hB) rfl rfl rfl rfl ?_ | refine go_call [] (hI) rfl rfl rfl rfl ?_ | refine go_idx rfl rfl rfl rfl (by omega) hr rfl ?_) <;> conv => whnf) | ((first | refine go_loadB ?_ | refine ⟨by kernel_rfl, ?_⟩ | refine go_ret ?_) <;> conv => whnf) | refine go_block ?_ | ((first | refine go_skip ?_ | refine go_exit ?_) <;> conv => whnf) | refine go_true rfl ?_ | refine go_false rfl ?_ | refine go_cond rfl (fun h => ?_) (fun h => ?_) | refine ⟨rfl, ?_⟩ | ((first | refine ⟨trivial, ?_⟩ | refine ⟨le_of_ble rfl, ?_⟩) <;> conv => whnf) | fail
        all_goals first
          | exact ret_imm rfl rfl rfl rfl rfl rfl
          | (exfalso; simp only [decide_eq_true_eq, decide_eq_false_iff_not, hpm] at *; omega)
          | trace_state
  · rw [decide_eq_false hlen, Bool.false_and]
    repeat' first | refine go_seq ?_ | refine go_region ?_ | ((first | refine go_op rfl ?_ | refine go_nil ?_) <;> conv => whnf) | ((first | refine go_loadB ?_ | refine ⟨by kernel_rfl, ?_⟩ | refine go_ret ?_) <;> conv => whnf) | refine go_block ?_ | ((first | refine go_skip ?_ | refine go_exit ?_) <;> conv => whnf) | refine go_true rfl ?_ | refine go_false rfl ?_ | refine go_cond rfl (fun h => ?_) (fun h => ?_) | refine ⟨rfl, ?_⟩ | ((first | refine ⟨trivial, ?_⟩ | refine ⟨le_of_ble rfl, ?_⟩) <;> conv => whnf) | fail
    all_goals first
      | exact ret_imm rfl rfl rfl rfl rfl rfl
      | (exfalso; simp only [Bool.not_eq_true', Bool.not_eq_false', decide_eq_true_eq, decide_eq_false_iff_not, hpm, hw] at *; omega)
      | trace_state

theorem c28 (xs : List Leg) (hv : legsOk xs = true) (p : List Int) (hp : p.length ≤ 1048576) : CallOk Try.prog 28 [.imm (.list (xs.map Leg.enc)), .imm (.list (p.map intRow))] { res := [.imm (.bool (plOk xs p))] } := by
  refine callOk_of tyOk Try.func28 rfl rfl (le_of_ble rfl) (le_of_ble rfl) (mutOk_imm rfl _) ?_
  have hn := (legs_at hv).1
  have hlm : ((xs.map Leg.enc).length : Int) = xs.length := by rw [List.length_map]
  have hpm : ((p.map intRow).length : Int) = p.length := by rw [List.length_map]
  have hw : IntKind.i64.wrap (((xs.map Leg.enc).length : Int) - 1) = (xs.length : Int) - 1 := by rw [hlm]; exact wrap_small (by omega) (by omega)
  repeat' first | refine go_seq ?_ | refine go_region ?_ | refine go_miss rfl rfl rfl ?_ | refine go_undef rfl rfl rfl ?_ | refine go_draw drawsOk ?_ | ((first | refine go_op rfl ?_ | refine go_nil ?_ | refine go_hit rfl rfl rfl ?_ | refine go_splitT rfl rfl rfl (fun h => ?_) (fun h => ?_) | refine go_splitF rfl rfl rfl (fun h => ?_) (fun h => ?_) | refine go_dop rfl ?_ | refine go_dhit rfl rfl ?_ | refine go_dmiss rfl rfl ?_ | refine go_dundef rfl rfl ?_ | refine go_dend (by kernel_rfl) ?_ | refine go_pickT rfl ?_ | refine go_pickF rfl ?_ | refine go_pick rfl (fun h => ?_) (fun h => ?_)) <;> conv => whnf) | ((first | refine go_dsplit2 rfl (fun h => ?_) (fun h => ?_) | refine go_loadB ?_ | refine ⟨by kernel_rfl, ?_⟩ | refine go_ret ?_) <;> conv => whnf) | refine go_block ?_ | ((first | refine go_skip ?_ | refine go_exit ?_) <;> conv => whnf) | refine go_true rfl ?_ | refine go_false rfl ?_ | refine go_cond rfl (fun h => ?_) (fun h => ?_) | refine ⟨rfl, ?_⟩ | ((first | refine ⟨trivial, ?_⟩ | refine ⟨le_of_ble rfl, ?_⟩) <;> conv => whnf) | fail
  refine go_loop (α := Nat) (fun i => (i ≤ p.length ∧ i + 1 ≤ xs.length) ∧ plTo xs p i = true) (fun i => xs.length - i) (fun i => st Try.f28.ntmps [(0, .imm (.list (xs.map Leg.enc))), (1, .imm (.list (p.map intRow))), (5, .imm (.int .i64 (i : Nat)))] [] []) 0
    ⟨⟨Nat.zero_le _, by omega⟩, rfl⟩ (ref_st0 rfl ⟨rfl, rfl, rfl, trivial⟩ rfl) ?_
  rintro i ⟨⟨hi, hi2⟩, ha⟩
  have e1 : IntKind.i64.wrap ((i : Int) + 1) = ((i + 1 : Nat) : Int) := by rw [wrap_small (by omega) (by omega)]; omega
  by_cases hgo : i < p.length ∧ i + 1 < xs.length
  · obtain ⟨h1, h2⟩ := hgo
    have hx : p[i]? = some p[i] := List.getElem?_eq_getElem h1
    have g1 : xs[i]? = some xs[i] := List.getElem?_eq_getElem (by omega)
    have g2 : xs[i + 1]? = some xs[i + 1] := List.getElem?_eq_getElem h2
    have hk := brk_at hv h2
    have hb : brk xs i = xs[i + 1].fro - xs[i].to := by unfold brk; rw [legAt_of g1, legAt_of g2]
    have hpb := plB_at (xs := xs) hx
    have hr := row_at intRow hx
    have r1 := row_at Leg.enc g1
    have r2 := row_at Leg.enc g2
    generalize xs[i + 1] = l2 at *
    generalize xs[i] = l1 at *
    generalize p[i] = v at *
    have hw2 : IntKind.i64.wrap (l2.fro - l1.to) = brk xs i := by rw [hb] at hk ⊢; exact wrap_small (by omega) (by omega)
    have hI : CallOk Try.prog 38 [.imm (.int .i64 v), .imm (.int .i64 0), .imm (.int .i64 (IntKind.i64.wrap (l2.fro - l1.to)))] { res := [.imm (.bool (inR v 0 (brk xs i)))] } := by rw [hw2]; exact c38 _ _ _
    cases b1 : inR v 0 (brk xs i) with
    | true =>
      rw [b1] at hI hpb
      repeat' first | refine go_seq ?_ | refine go_region ?_ | refine go_miss rfl rfl rfl ?_ | refine go_undef rfl rfl rfl ?_ | refine go_draw drawsOk ?_ | ((first | refine go_op rfl ?_ | refine go_nil ?_ | refine go_hit rfl rfl rfl ?_ | refine go_splitT rfl rfl rfl (fun h => ?_) (fun h => ?_) | refine go_splitF rfl rfl rfl (fun h => ?_) (fun h => ?_) | refine go_dop rfl ?_ | refine go_dhit rfl rfl ?_ | refine go_dmiss rfl rfl ?_ | refine go_dundef rfl rfl ?_ | refine go_dend (by kernel_rfl) ?_ | refine go_pickT rfl ?_ | refine go_pickF rfl ?_ | refine go_pick rfl (fun h => ?_) (fun h => ?_) | refine go_call [] (hI) rfl rfl rfl rfl ?_ | refine go_idx rfl rfl rfl rfl (by omega) hr rfl ?_ | refine go_idx rfl rfl rfl rfl (by omega) r1 rfl ?_ | refine go_idx (i := IntKind.i64.wrap ((i : Int) + 1)) rfl rfl rfl rfl (by rw [e1]; omega) (by rw [e1]; exact r2) rfl ?_) <;> conv => whnf) | ((first | refine go_dsplit2 rfl (fun h => ?_) (fun h => ?_) | refine go_loadB ?_ | refine ⟨by kernel_rfl, ?_⟩ | refine go_ret ?_) <;> conv => whnf) | refine go_block ?_ | ((first | refine go_skip ?_ | refine go_exit ?_) <;> conv => whnf) | refine go_true rfl ?_ | refine go_false rfl ?_ | refine go_cond rfl (fun h => ?_) (fun h => ?_) | refine ⟨rfl, ?_⟩ | ((first | refine ⟨trivial, ?_⟩ | refine ⟨le_of_ble rfl, ?_⟩) <;> conv => whnf) | fail
      all_goals first
        | (exfalso; simp only [decide_eq_true_eq, decide_eq_false_iff_not, hpm, hlm, e1] at *; omega)
        | exact go_next (i + 1) ⟨⟨by omega, by omega⟩, by rw [plTo_next, ha, hpb]; rfl⟩ (by omega) (ref_st0 rfl ⟨rfl, rfl, next_i (by omega), trivial⟩ rfl)
        | trace_state
    | false =>
      rw [b1] at hI hpb
      have hno : plOk xs p = false := by unfold plOk; rw [plTo_no h1 hpb, Bool.and_false]
      rw [hno]
      repeat' first | refine go_seq ?_ | refine go_region ?_ | refine go_miss rfl rfl rfl ?_ | refine go_undef rfl rfl rfl ?_ | refine go_draw drawsOk ?_ | ((first | refine go_op rfl ?_ | refine go_nil ?_ | refine go_hit rfl rfl rfl ?_ | refine go_splitT rfl rfl rfl (fun h => ?_) (fun h => ?_) | refine go_splitF rfl rfl rfl (fun h => ?_) (fun h => ?_) | refine go_dop rfl ?_ | refine go_dhit rfl rfl ?_ | refine go_dmiss rfl rfl ?_ | refine go_dundef rfl rfl ?_ | refine go_dend (by kernel_rfl) ?_ | refine go_pickT rfl ?_ | refine go_pickF rfl ?_ | refine go_pick rfl (fun h => ?_) (fun h => ?_) | refine go_call [] (hI) rfl rfl rfl rfl ?_ | refine go_idx rfl rfl rfl rfl (by omega) hr rfl ?_ | refine go_idx rfl rfl rfl rfl (by omega) r1 rfl ?_ | refine go_idx (i := IntKind.i64.wrap ((i : Int) + 1)) rfl rfl rfl rfl (by rw [e1]; omega) (by rw [e1]; exact r2) rfl ?_) <;> conv => whnf) | ((first | refine go_dsplit2 rfl (fun h => ?_) (fun h => ?_) | refine go_loadB ?_ | refine ⟨by kernel_rfl, ?_⟩ | refine go_ret ?_) <;> conv => whnf) | refine go_block ?_ | ((first | refine go_skip ?_ | refine go_exit ?_) <;> conv => whnf) | refine go_true rfl ?_ | refine go_false rfl ?_ | refine go_cond rfl (fun h => ?_) (fun h => ?_) | refine ⟨rfl, ?_⟩ | ((first | refine ⟨trivial, ?_⟩ | refine ⟨le_of_ble rfl, ?_⟩) <;> conv => whnf) | fail
      all_goals first
        | (exfalso; simp only [decide_eq_true_eq, decide_eq_false_iff_not, hpm, hlm, e1] at *; omega)
        | exact ret_imm rfl rfl rfl rfl rfl rfl
        | trace_state
  · have hfin : plOk xs p = decide (((p.map intRow).length : Int) = IntKind.i64.wrap (((xs.map Leg.enc).length : Int) - 1)) := by
      unfold plOk
      rw [hpm, hw]
      by_cases hlen : p.length + 1 = xs.length
      · have : i = p.length := by omega
        subst this
        rw [ha, decide_eq_true hlen, decide_eq_true (by omega)]; rfl
      · rw [decide_eq_false hlen, decide_eq_false (by omega)]; rfl
    rw [hfin]
    repeat' first | refine go_seq ?_ | refine go_region ?_ | refine go_miss rfl rfl rfl ?_ | refine go_undef rfl rfl rfl ?_ | refine go_draw drawsOk ?_ | ((first | refine go_op rfl ?_ | refine go_nil ?_ | refine go_hit rfl rfl rfl ?_ | refine go_splitT rfl rfl rfl (fun h => ?_) (fun h => ?_) | refine go_splitF rfl rfl rfl (fun h => ?_) (fun h => ?_) | refine go_dop rfl ?_ | refine go_dhit rfl rfl ?_ | refine go_dmiss rfl rfl ?_ | refine go_dundef rfl rfl ?_ | refine go_dend (by kernel_rfl) ?_ | refine go_pickT rfl ?_ | refine go_pickF rfl ?_ | refine go_pick rfl (fun h => ?_) (fun h => ?_)) <;> conv => whnf) | ((first | refine go_dsplit2 rfl (fun h => ?_) (fun h => ?_) | refine go_loadB ?_ | refine ⟨by kernel_rfl, ?_⟩ | refine go_ret ?_) <;> conv => whnf) | refine go_block ?_ | ((first | refine go_skip ?_ | refine go_exit ?_) <;> conv => whnf) | refine go_true rfl ?_ | refine go_false rfl ?_ | refine go_cond rfl (fun h => ?_) (fun h => ?_) | refine ⟨rfl, ?_⟩ | ((first | refine ⟨trivial, ?_⟩ | refine ⟨le_of_ble rfl, ?_⟩) <;> conv => whnf) | fail
    all_goals first
      | exact ret_imm rfl rfl rfl rfl rfl rfl
      | (exfalso; simp only [decide_eq_true_eq, decide_eq_false_iff_not, hpm, hlm, e1] at *; omega)
      | trace_state

theorem least_mm (a b : Int) : (if b < a then b else a) = least a b := by unfold least; split <;> split <;> omega
theorem c32 (b : Bat) (l m : Int) (h1 : -1000000 ≤ l ∧ l ≤ b.cap) (h2 : 0 ≤ b.rate * m ∧ b.rate * m ≤ 2000000) (h3 : b.cap ≤ 10000) : CallOk Try.prog 32 [.imm (.agg (batE b)), .imm (.int .i64 l), .imm (.int .i64 m)] { res := [.imm (.int .i64 (least (l + b.rate * m) b.cap))] } := by
  refine callOk_of tyOk Try.func32 rfl rfl (le_of_ble rfl) (le_of_ble rfl) (mutOk_imm rfl _) ?_
  have hw : IntKind.i64.wrap (b.rate * m) = b.rate * m := wrap_small (by omega) (by omega)
  have hw2 : IntKind.i64.wrap (l + b.rate * m) = l + b.rate * m := wrap_small (by omega) (by omega)
  repeat' first | refine go_seq ?_ | refine go_region ?_ | ((first | refine go_op rfl ?_ | refine go_nil ?_) <;> conv => whnf) | ((first | refine go_loadB ?_ | refine ⟨by kernel_rfl, ?_⟩ | refine go_ret ?_) <;> conv => whnf) | ((first | refine go_skip ?_) <;> conv => whnf) | refine go_true rfl ?_ | refine go_false rfl ?_ | refine go_cond rfl (fun h => ?_) (fun h => ?_) | refine ⟨rfl, ?_⟩ | ((first | refine ⟨trivial, ?_⟩ | refine ⟨le_of_ble rfl, ?_⟩) <;> conv => whnf) | fail
  all_goals
    refine ret_imm rfl rfl rfl rfl ?_ rfl
    first
      | (have g := of_decide_eq_true h; congr 1; unfold least; split <;> omega)
      | (show D.int .i64 (if b.cap < IntKind.i64.wrap (l + IntKind.i64.wrap (b.rate * m)) then b.cap else IntKind.i64.wrap (l + IntKind.i64.wrap (b.rate * m))) = _
         rw [hw, hw2, least_mm])
theorem c41 (a b : Int) : CallOk Try.prog 41 [.imm (.int .i64 a), .imm (.int .i64 b)] { res := [.imm (.int .i64 (least a b))] } := by
  refine callOk_of tyOk Try.func41 rfl rfl (le_of_ble rfl) (le_of_ble rfl) (mutOk_imm rfl _) ?_
  unfold least
  by_cases h1 : a < b
  · rw [if_pos h1]
    repeat' first | refine go_seq ?_ | refine go_region ?_ | ((first | refine go_op rfl ?_ | refine go_nil ?_) <;> conv => whnf) | ((first | refine ⟨by kernel_rfl, ?_⟩ | refine go_ret ?_) <;> conv => whnf) | ((first | refine go_skip ?_) <;> conv => whnf) | refine go_true rfl ?_ | refine go_false rfl ?_ | refine go_cond rfl (fun h => ?_) (fun h => ?_) | refine ⟨rfl, ?_⟩ | ((first | refine ⟨trivial, ?_⟩ | refine ⟨le_of_ble rfl, ?_⟩) <;> conv => whnf) | fail
    all_goals first
      | exact ret_imm rfl rfl rfl rfl rfl rfl
      | (exfalso; simp at h; omega)
  · rw [if_neg h1]
    repeat' first | refine go_seq ?_ | refine go_region ?_ | ((first | refine go_op rfl ?_ | refine go_nil ?_) <;> conv => whnf) | ((first | refine ⟨by kernel_rfl, ?_⟩ | refine go_ret ?_) <;> conv => whnf) | ((first | refine go_skip ?_) <;> conv => whnf) | refine go_true rfl ?_ | refine go_false rfl ?_ | refine go_cond rfl (fun h => ?_) (fun h => ?_) | refine ⟨rfl, ?_⟩ | ((first | refine ⟨trivial, ?_⟩ | refine ⟨le_of_ble rfl, ?_⟩) <;> conv => whnf) | fail
    all_goals first
      | exact ret_imm rfl rfl rfl rfl rfl rfl
      | (exfalso; simp at h; omega)
end Go.Proofs.Ytmijabfckmgaiaa

