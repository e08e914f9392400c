/- Calendars: the days on which a calendar and the same calendar run; what a fitted calendar's weekdays are. -/
import Derived.Test.YtlpdlfdafgoafaaSD8
namespace Go.SD

theorem take_all {xs : List Int} {n : Nat} (h : xs.length ≤ n) : xs.take n = xs := List.take_of_length_le h

/-- The days of the first j that run. -/
def cdN (c : Cal) (j : Nat) : List Int := (rngN c.fro j).filter (run c)
theorem cdN_yes {c : Cal} {j : Nat} (h : run c (c.fro + j) = true) : cdN c (j + 1) = cdN c j ++ [c.fro + (j : Int)] := by
  unfold cdN; rw [rngN_snoc, List.filter_append]; simp [h]
theorem cdN_no {c : Cal} {j : Nat} (h : run c (c.fro + j) = false) : cdN c (j + 1) = cdN c j := by
  unfold cdN; rw [rngN_snoc, List.filter_append]; simp [h]
theorem cdN_pre (c : Cal) (j : Nat) : ∀ k, ∃ r, cdN c (j + k) = cdN c j ++ r
  | 0 => ⟨[], by simp⟩
  | k + 1 => by
    obtain ⟨r, hr⟩ := cdN_pre c j k
    cases e : run c (c.fro + ((j + k : Nat) : Int)) with
    | true => exact ⟨r ++ [c.fro + ((j + k : Nat) : Int)], by rw [← Nat.add_assoc, cdN_yes e, hr, List.append_assoc]⟩
    | false => exact ⟨r, by rw [← Nat.add_assoc, cdN_no e, hr]⟩
theorem cdN_full {c : Cal} {j : Nat} (h : j ≤ span c) (hl : (cdN c j).length = 20) : (daysOf c).take 20 = cdN c j := by
  obtain ⟨r, hr⟩ := cdN_pre c j (span c - j)
  rw [show j + (span c - j) = span c from by omega] at hr
  show (cdN c (span c)).take 20 = _
  rw [hr, ← hl, List.take_left]

/-- Of the n days from a on, those that fall on weekday w and are given (are not given). -/
def gvN (days : List Int) (a w : Int) (n : Nat) : Nat := ((rngN a n).filter fun d => decide (d % 7 = w) && days.contains d).length
def msN (days : List Int) (a w : Int) (n : Nat) : Nat := ((rngN a n).filter fun d => decide (d % 7 = w) && !days.contains d).length
theorem fl1 (p : Int → Bool) (x : Int) : ([x].filter p).length = if p x = true then 1 else 0 := by
  cases h : p x <;> simp [h]
theorem gvN_next (days : List Int) (a w : Int) (n : Nat) : gvN days a w (n + 1) = gvN days a w n + if (a + n) % 7 = w ∧ days.contains (a + n) = true then 1 else 0 := by
  unfold gvN
  rw [rngN_snoc, List.filter_append, List.length_append, fl1]
  simp only [Bool.and_eq_true, decide_eq_true_eq]
theorem msN_next (days : List Int) (a w : Int) (n : Nat) : msN days a w (n + 1) = msN days a w n + if (a + n) % 7 = w ∧ days.contains (a + n) = false then 1 else 0 := by
  unfold msN
  rw [rngN_snoc, List.filter_append, List.length_append, fl1]
  simp only [Bool.and_eq_true, decide_eq_true_eq, Bool.not_eq_true']
theorem gvN_le (days : List Int) (a w : Int) (n : Nat) : gvN days a w n ≤ n := by
  unfold gvN; have := List.length_filter_le (fun d => decide (d % 7 = w) && days.contains d) (rngN a n); rwa [rngN_len] at this
theorem msN_le (days : List Int) (a w : Int) (n : Nat) : msN days a w n ≤ n := by
  unfold msN; have := List.length_filter_le (fun d => decide (d % 7 = w) && !days.contains d) (rngN a n); rwa [rngN_len] at this

/-- The weekdays on which more days are given than not. -/
def mostW (days : List Int) (a : Int) (n : Nat) (w : Nat) : Bool := decide (msN days a w n < gvN days a w n)
def wdN (p : Nat → Bool) : Nat → Nat
  | 0 => 0
  | k + 1 => wdN p k + (if p k then 2 ^ k else 0)
theorem wdN_lt (p : Nat → Bool) : ∀ k, wdN p k < 2 ^ k
  | 0 => by simp [wdN]
  | k + 1 => by
    have := wdN_lt p k
    rw [wdN, Nat.pow_succ]
    split <;> omega
def wdF (days : List Int) (a : Int) (n : Nat) : Int := (wdN (mostW days a n) 7 : Nat)
theorem wdF_in (days : List Int) (a : Int) (n : Nat) : 0 ≤ wdF days a n ∧ wdF days a n ≤ 127 := by
  have := wdN_lt (mostW days a n) 7
  unfold wdF
  omega
end Go.SD
namespace Go.Proofs.Ytlpdlfdafgoafaa
open Go Go.Am Go.SD
set_option maxRecDepth 100000
set_option maxHeartbeats 8000000
attribute [local irreducible] amOps amC opCall opIndexAddr opPick retQ opMake opStore amDraw opAppend opLoad opNilCmp opIndex opSlice

theorem or_all : ∀ k : Fin 7, ∀ s : Fin 128, s.val < 2 ^ k.val → bits BinOp.or IntKind.i64 (s.val : Int) (IntKind.i64.wrap (1 * 2 ^ (min k.val IntKind.i64.bits))) = ((s.val + 2 ^ k.val : Nat) : Int) := by decide +kernel
theorem wdN_or {p : Nat → Bool} {k : Nat} (hk : k < 7) (h : p k = true) : bits BinOp.or IntKind.i64 ((wdN p k : Nat) : Int) (IntKind.i64.wrap (1 * 2 ^ (min k IntKind.i64.bits))) = ((wdN p (k + 1) : Nat) : Int) := by
  have h1 := wdN_lt p k
  have h2 : 2 ^ k ≤ 128 := Nat.pow_le_pow_right (n := 2) (by omega) (show k ≤ 7 by omega)
  have := or_all ⟨k, hk⟩ ⟨wdN p k, by omega⟩ h1
  rw [this, wdN, if_pos h]

/-- The first 20 days on which a valid calendar runs. -/
theorem c12 (c : Cal) (hf : Cal.fit c) (hv : validC c = true) : CallOk Try.prog 12 [.imm (.agg (calE c)), .imm (.agg (calE c))] { res := [.arr 3 1 (((daysOf c).take 20).map intRow), .imm (.bool true)] } := by
  refine callOk_of tyOk Try.func12 rfl rfl (le_of_ble rfl) (le_of_ble rfl) (mutOk_imm rfl _) ?_
  have hc := c10 c hf
  rw [hv] at hc
  obtain ⟨k1, k2, k3, k4, k5⟩ := valid_facts hv
  have hsp : ((span c : Nat) : Int) = c.to + 1 - c.fro := by unfold span; omega
  repeat' first | refine go_seq ?_ | refine go_region ?_ | refine go_miss rfl rfl rfl ?_ | refine go_undef rfl rfl rfl ?_ | ((first | refine go_op rfl ?_ | refine go_nil ?_ | refine go_hit rfl rfl rfl ?_ | refine go_splitT rfl rfl rfl (fun h => ?_) (fun h => ?_) | refine go_splitF rfl rfl rfl (fun h => ?_) (fun h => ?_) | refine go_pickT rfl ?_ | refine go_pickF rfl ?_ | refine go_pick rfl (fun h => ?_) (fun h => ?_) | refine go_call [] (hc) rfl rfl rfl rfl ?_) <;> conv => whnf) | ((first | refine go_loadB ?_ | refine ⟨by kernel_rfl, ?_⟩ | refine go_ret ?_) <;> conv => whnf) | refine go_block ?_ | ((first | refine go_skip ?_ | refine go_exit ?_) <;> conv => whnf) | refine go_true rfl ?_ | refine go_false rfl ?_ | refine go_cond rfl (fun h => ?_) (fun h => ?_) | refine ⟨rfl, ?_⟩ | ((first | refine ⟨trivial, ?_⟩ | refine ⟨le_of_ble rfl, ?_⟩) <;> conv => whnf) | fail
  refine go_loop (α := Nat) (fun j => j ≤ span c ∧ (cdN c j).length ≤ 20) (fun j => span c - j)
    (fun j => st Try.f12.ntmps [(2, .box 1001 0), (3, .box 1002 0), (6, .own 1000 0 ((cdN c j).map intRow).length), (7, .imm (.int .i64 (c.fro + (j : Nat))))]
      [(1000, .arr 3 1 ((cdN c j).map intRow)), (1001, .box 28 ((calE c).map .imm)), (1002, .box 28 ((calE c).map .imm))] []) 0 ⟨Nat.zero_le _, by show 0 ≤ 20; omega⟩ ?_ ?_
  · refine ref_st (fun i => if i = 1000 then nid 3 6 else if i = 1001 then nid 1 2 else nid 1 3) rfl ⟨⟨rfl, rfl⟩, ⟨rfl, rfl⟩, ⟨rfl, rfl⟩, ?_, trivial⟩ ⟨rfl, ⟨rfl, wavs_imm _⟩, ⟨rfl, wavs_imm _⟩, trivial⟩ (by simp [nid]) rfl (by simp)
    show AV.imm (.int .i64 (if c.fro > c.fro then c.fro else c.fro)) = .imm (.int .i64 (c.fro + ((0 : Nat) : Int)))
    rw [ite_self, Int.natCast_zero, Int.add_zero]
  rintro j ⟨hj, hlen⟩
  have hmin : (if c.to < c.to then c.to else c.to) = c.to := ite_self _
  have hlm : ((cdN c j).map intRow).length = (cdN c j).length := List.length_map _
  have hd1 : AV.imm (.int .i64 (IntKind.i64.wrap (c.fro + (j : Int) + 1))) = .imm (.int .i64 (c.fro + ((j + 1 : Nat) : Int))) := by
    rw [wrap_small (by omega) (by omega)]; congr 2; omega
  by_cases hlast : j = span c
  · have e0 : (daysOf c).take 20 = cdN c j := by
      rw [hlast]; rw [hlast] at hlen; exact take_all hlen
    rw [e0]
    repeat' first | refine go_seq ?_ | refine go_region ?_ | refine go_miss rfl rfl rfl ?_ | refine go_undef rfl rfl rfl ?_ | ((first | refine go_op rfl ?_ | refine go_nil ?_ | refine go_hit rfl rfl rfl ?_ | refine go_splitT rfl rfl rfl (fun h => ?_) (fun h => ?_) | refine go_splitF rfl rfl rfl (fun h => ?_) (fun h => ?_) | refine go_pickT rfl ?_ | refine go_pickF rfl ?_ | refine go_pick rfl (fun h => ?_) (fun h => ?_)) <;> conv => whnf) | ((first | refine go_loadB ?_ | refine ⟨by kernel_rfl, ?_⟩ | refine go_ret ?_) <;> conv => whnf) | refine go_block ?_ | ((first | refine go_skip ?_ | refine go_exit ?_) <;> conv => whnf) | refine go_true rfl ?_ | refine go_false rfl ?_ | refine go_cond rfl (fun h => ?_) (fun h => ?_) | refine ⟨rfl, ?_⟩ | ((first | refine ⟨trivial, ?_⟩ | refine ⟨le_of_ble rfl, ?_⟩) <;> conv => whnf) | fail
    all_goals first
      | exact ret_arr2 rfl rfl rfl rfl rfl (by rw [List.drop_zero, List.take_length]) (int_gr _) rfl rfl rfl
      | (exfalso; simp only [decide_eq_true_eq, hmin] at *; omega)
      | trace_state
  · by_cases hfull : (cdN c j).length = 20
    · rw [cdN_full hj hfull]
      repeat' first | refine go_seq ?_ | refine go_region ?_ | refine go_miss rfl rfl rfl ?_ | refine go_undef rfl rfl rfl ?_ | ((first | refine go_op rfl ?_ | refine go_nil ?_ | refine go_hit rfl rfl rfl ?_ | refine go_splitT rfl rfl rfl (fun h => ?_) (fun h => ?_) | refine go_splitF rfl rfl rfl (fun h => ?_) (fun h => ?_) | refine go_pickT rfl ?_ | refine go_pickF rfl ?_ | refine go_pick rfl (fun h => ?_) (fun h => ?_)) <;> conv => whnf) | ((first | refine go_loadB ?_ | refine ⟨by kernel_rfl, ?_⟩ | refine go_ret ?_) <;> conv => whnf) | refine go_block ?_ | ((first | refine go_skip ?_ | refine go_exit ?_) <;> conv => whnf) | refine go_true rfl ?_ | refine go_false rfl ?_ | refine go_cond rfl (fun h => ?_) (fun h => ?_) | refine ⟨rfl, ?_⟩ | ((first | refine ⟨trivial, ?_⟩ | refine ⟨le_of_ble rfl, ?_⟩) <;> conv => whnf) | fail
      all_goals first
        | exact ret_arr2 rfl rfl rfl rfl rfl (by rw [List.drop_zero, List.take_length]) (int_gr _) rfl rfl rfl
        | (exfalso; simp only [decide_eq_true_eq, hmin] at *; omega)
        | trace_state
    · have hr := c32 c hv (c.fro + (j : Int))
      rw [runD_run (by omega)] at hr
      cases e : run c (c.fro + (j : Int)) with
      | true =>
        rw [e] at hr
        have hone := int_one [c.fro + (j : Int)]
        have hb : ((cdN c j).map intRow).length + 1 ≤ 1073741824 := by omega
        repeat' first | refine go_seq ?_ | refine go_region ?_ | refine go_miss rfl rfl rfl ?_ | refine go_undef rfl rfl rfl ?_ | ((first | refine go_op rfl ?_ | refine go_nil ?_ | refine go_hit rfl rfl rfl ?_ | refine go_splitT rfl rfl rfl (fun h => ?_) (fun h => ?_) | refine go_splitF rfl rfl rfl (fun h => ?_) (fun h => ?_) | refine go_pickT rfl ?_ | refine go_pickF rfl ?_ | refine go_pick rfl (fun h => ?_) (fun h => ?_) | refine go_call [] (hr) rfl rfl rfl rfl ?_ | refine go_append (rows2 := [c.fro + (j : Int)].map intRow) rfl rfl rfl rfl rfl rfl rfl rfl rfl rfl rfl rfl hone rfl rfl rfl hb ?_) <;> conv => whnf) | ((first | refine go_loadB ?_ | refine ⟨by kernel_rfl, ?_⟩ | refine go_ret ?_) <;> conv => whnf) | refine go_block ?_ | ((first | refine go_skip ?_ | refine go_exit ?_) <;> conv => whnf) | refine go_true rfl ?_ | refine go_false rfl ?_ | refine go_cond rfl (fun h => ?_) (fun h => ?_) | refine ⟨rfl, ?_⟩ | ((first | refine ⟨trivial, ?_⟩ | refine ⟨le_of_ble rfl, ?_⟩) <;> conv => whnf) | fail
        all_goals first
          | (refine go_next (j + 1) ⟨by omega, by rw [cdN_yes e, List.length_append]; simp; omega⟩ (by omega) (ref_st (fun i => if i = 1000 then nid 4 46 else i) rfl ⟨⟨rfl, rfl⟩, ⟨rfl, rfl⟩, ⟨?_, rfl⟩, hd1, trivial⟩ ⟨?_, ⟨rfl, wavs_imm _⟩, ⟨rfl, wavs_imm _⟩, trivial⟩ (by simp [nid]) rfl (by simp))
             · show AV.own _ _ _ = AV.own _ _ _
               rw [cdN_yes e]; simp; try rfl
             · show some _ = some _
               rw [cdN_yes e]; simp; try rfl)
          | (exfalso; simp only [decide_eq_true_eq, decide_eq_false_iff_not, hmin] at *; omega)
          | trace_state
      | false =>
        rw [e] at hr
        repeat' first | refine go_seq ?_ | refine go_region ?_ | refine go_miss rfl rfl rfl ?_ | refine go_undef rfl rfl rfl ?_ | ((first | refine go_op rfl ?_ | refine go_nil ?_ | refine go_hit rfl rfl rfl ?_ | refine go_splitT rfl rfl rfl (fun h => ?_) (fun h => ?_) | refine go_splitF rfl rfl rfl (fun h => ?_) (fun h => ?_) | refine go_pickT rfl ?_ | refine go_pickF rfl ?_ | refine go_pick rfl (fun h => ?_) (fun h => ?_) | refine go_call [] (hr) rfl rfl rfl rfl ?_) <;> conv => whnf) | ((first | refine go_loadB ?_ | refine ⟨by kernel_rfl, ?_⟩ | refine go_ret ?_) <;> conv => whnf) | refine go_block ?_ | ((first | refine go_skip ?_ | refine go_exit ?_) <;> conv => whnf) | refine go_true rfl ?_ | refine go_false rfl ?_ | refine go_cond rfl (fun h => ?_) (fun h => ?_) | refine ⟨rfl, ?_⟩ | ((first | refine ⟨trivial, ?_⟩ | refine ⟨le_of_ble rfl, ?_⟩) <;> conv => whnf) | fail
        all_goals first
          | (refine go_next (j + 1) ⟨by omega, by rw [cdN_no e]; exact hlen⟩ (by omega) (ref_st id rfl ⟨⟨rfl, rfl⟩, ⟨rfl, rfl⟩, ⟨?_, rfl⟩, hd1, trivial⟩ ⟨?_, ⟨rfl, wavs_imm _⟩, ⟨rfl, wavs_imm _⟩, trivial⟩ (by simp) rfl (by simp))
             · show AV.own _ _ _ = AV.own _ _ _
               rw [cdN_no e]; try rfl
             · show some _ = some _
               rw [cdN_no e]; try rfl)
          | (exfalso; simp only [decide_eq_true_eq, decide_eq_false_iff_not, hmin] at *; omega)
          | trace_state
end Go.Proofs.Ytlpdlfdafgoafaa

