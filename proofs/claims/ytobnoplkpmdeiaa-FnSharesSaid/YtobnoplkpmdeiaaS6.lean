/- Shares, walked (as for the other rows over visits; names for numbers: conv.py). -/
import Derived.Test.YtobnoplkpmdeiaaS5
namespace Go.Proofs.Ytobnoplkpmdeiaa
open Go Go.Am
set_option maxRecDepth 100000
set_option maxHeartbeats 4000000
attribute [local irreducible] amOps amC opCall opIndexAddr opPick retQ opMake opStore amDraw

theorem c16 (xs : List Visit) (e l : Int) (hl : xs.length ≤ 1048576) : CallOk Try.prog 16 [.imm (.list (xs.map Visit.enc)), .imm (.int .i64 e), .imm (.int .i64 l)]
    { res := [.imm (.int .i64 (shN (punOk e l xs) (pSum (fun _ => 1) e l xs) xs.length)), .imm (.int .i64 (shD (punOk e l xs) (pSum (fun _ => 1) e l xs) xs.length)), .imm (.bool (punOk e l xs))] } := by
  refine callOk_of tyOk Try.func16 rfl rfl (le_of_ble rfl) (le_of_ble rfl) (mutOk_imm rfl _) ?_
  have hc47 := c33 xs e l hl
  cases hva : (valid xs && lim e l) with
  | false =>
    have hm : punOk e l xs = false := by simp [punOk, hva]
    rw [hva] at hc47
    repeat' first | refine go_seq ?_ | refine go_region ?_ | refine go_miss rfl rfl rfl ?_ | refine go_undef rfl rfl rfl ?_ | ((first | refine go_op rfl ?_ | refine go_nil ?_ | refine go_hit rfl rfl rfl ?_ | refine go_splitT rfl rfl rfl (fun h => ?_) (fun h => ?_) | refine go_splitF rfl rfl rfl (fun h => ?_) (fun h => ?_) | refine go_pickT rfl ?_ | refine go_pickF rfl ?_ | refine go_pick rfl (fun h => ?_) (fun h => ?_) | refine go_call [] (hc47) rfl rfl rfl rfl ?_) <;> conv => whnf) | ((first | refine ⟨by kernel_rfl, ?_⟩ | refine go_ret ?_) <;> conv => whnf) | ((first | refine go_skip ?_) <;> conv => whnf) | refine go_true rfl ?_ | refine go_false rfl ?_ | refine go_cond rfl (fun h => ?_) (fun h => ?_) | refine ⟨rfl, ?_⟩ | ((first | refine ⟨trivial, ?_⟩ | refine ⟨le_of_ble rfl, ?_⟩) <;> conv => whnf) | fail
    exact ret_imm3 rfl rfl rfl rfl rfl rfl (by simp [shN, hm]) (by simp [shD, hm]) (by simp [hm]) rfl
  | true =>
    rw [hva] at hc47
    have hva' := hva
    simp only [Bool.and_eq_true] at hva'
    obtain ⟨h30, _⟩ := valid_at hva'.1
    have hS := sums_all (wt := fun _ => 1) (e := e) (l := l) (xs := xs) (fun v _ => by omega)
    have h1 := wSum_one xs
    rw [h1] at hS
    by_cases h0 : xs.length = 0
    · have hm : punOk e l xs = false := by simp [punOk, h0]
      have hnil : xs = [] := List.eq_nil_of_length_eq_zero h0
      subst hnil
      repeat' first | refine go_seq ?_ | refine go_region ?_ | refine go_miss rfl rfl rfl ?_ | refine go_undef rfl rfl rfl ?_ | ((first | refine go_op rfl ?_ | refine go_nil ?_ | refine go_hit rfl rfl rfl ?_ | refine go_splitT rfl rfl rfl (fun h => ?_) (fun h => ?_) | refine go_splitF rfl rfl rfl (fun h => ?_) (fun h => ?_) | refine go_pickT rfl ?_ | refine go_pickF rfl ?_ | refine go_pick rfl (fun h => ?_) (fun h => ?_) | refine go_call [] (hc47) rfl rfl rfl rfl ?_) <;> conv => whnf) | ((first | refine ⟨by kernel_rfl, ?_⟩ | refine go_ret ?_) <;> conv => whnf) | ((first | refine go_skip ?_) <;> conv => whnf) | refine go_true rfl ?_ | refine go_false rfl ?_ | refine go_cond rfl (fun h => ?_) (fun h => ?_) | refine ⟨rfl, ?_⟩ | ((first | refine ⟨trivial, ?_⟩ | refine ⟨le_of_ble rfl, ?_⟩) <;> conv => whnf) | fail
      exact ret_imm3 rfl rfl rfl rfl rfl rfl (by simp [shN, hm]) (by simp [shD, hm]) (by simp [hm]) rfl
    · have hm : punOk e l xs = true := by simp [punOk, hva]; intro h; exact h0 (by simp [h])
      have hc48 := c35 36 (fun _ => 1) c36 xs e l h30 (fun v _ => by omega)
      rw [h1] at hc48
      have hc44 := c34 (pSum (fun _ => 1) e l xs) xs.length (by omega) (by omega) (by omega) (by omega)
      repeat' first | refine go_seq ?_ | refine go_region ?_ | refine go_miss rfl rfl rfl ?_ | refine go_undef rfl rfl rfl ?_ | ((first | refine go_op rfl ?_ | refine go_nil ?_ | refine go_hit rfl rfl rfl ?_ | refine go_splitT rfl rfl rfl (fun h => ?_) (fun h => ?_) | refine go_splitF rfl rfl rfl (fun h => ?_) (fun h => ?_) | refine go_pickT rfl ?_ | refine go_pickF rfl ?_ | refine go_pick rfl (fun h => ?_) (fun h => ?_) | refine go_call [] (hc47) rfl rfl rfl rfl ?_ | refine go_call [] (hc48) rfl rfl rfl rfl ?_ | refine go_call [] (hc44) rfl rfl rfl rfl ?_) <;> conv => whnf) | ((first | refine ⟨by kernel_rfl, ?_⟩ | refine go_ret ?_) <;> conv => whnf) | ((first | refine go_skip ?_) <;> conv => whnf) | refine go_true rfl ?_ | refine go_false rfl ?_ | refine go_cond rfl (fun h => ?_) (fun h => ?_) | refine ⟨rfl, ?_⟩ | ((first | refine ⟨trivial, ?_⟩ | refine ⟨le_of_ble rfl, ?_⟩) <;> conv => whnf) | fail
      · exfalso; simp at h; exact h0 (by simp [h])
      · exact ret_imm3 rfl rfl rfl rfl rfl rfl (by simp [shN, hm]) (by simp [shD, hm]) (by simp [hm]) rfl

theorem c20 (xs : List Visit) (e l : Int) (hl : xs.length ≤ 1048576) : CallOk Try.prog 20 [.imm (.list (xs.map Visit.enc)), .imm (.int .i64 e), .imm (.int .i64 l)]
    { res := [.imm (.int .i64 (shN (perOk e l xs) (pSum Visit.persons e l xs) (wSum Visit.persons xs))), .imm (.int .i64 (shD (perOk e l xs) (pSum Visit.persons e l xs) (wSum Visit.persons xs))), .imm (.bool (perOk e l xs))] } := by
  refine callOk_of tyOk Try.func20 rfl rfl (le_of_ble rfl) (le_of_ble rfl) (mutOk_imm rfl _) ?_
  have hc47 := c33 xs e l hl
  cases hva : (valid xs && lim e l) with
  | false =>
    have hm : perOk e l xs = false := by simp [perOk, hva]
    rw [hva] at hc47
    repeat' first | refine go_seq ?_ | refine go_region ?_ | ((first | refine go_op rfl ?_ | refine go_nil ?_ | refine go_call [] (hc47) rfl rfl rfl rfl ?_) <;> conv => whnf) | ((first | refine ⟨by kernel_rfl, ?_⟩ | refine go_ret ?_) <;> conv => whnf) | ((first | refine go_skip ?_) <;> conv => whnf) | refine go_true rfl ?_ | refine go_false rfl ?_ | refine go_cond rfl (fun h => ?_) (fun h => ?_) | refine ⟨rfl, ?_⟩ | ((first | refine ⟨trivial, ?_⟩ | refine ⟨le_of_ble rfl, ?_⟩) <;> conv => whnf) | fail
    exact ret_imm3 rfl rfl rfl rfl rfl rfl (by simp [shN, hm]) (by simp [shD, hm]) (by simp [hm]) rfl
  | true =>
    rw [hva] at hc47
    have hva' := hva
    simp only [Bool.and_eq_true] at hva'
    obtain ⟨h30, hper⟩ := valid_at hva'.1
    have hS := sums_all (e := e) (l := l) hper
    have hc48 := c35 43 Visit.persons c43 xs e l h30 hper
    by_cases h0 : wSum Visit.persons xs = 0
    · have hm : perOk e l xs = false := by simp [perOk, h0]
      repeat' first | refine go_seq ?_ | refine go_region ?_ | ((first | refine go_op rfl ?_ | refine go_nil ?_ | refine go_call [] (hc47) rfl rfl rfl rfl ?_ | refine go_call [] (hc48) rfl rfl rfl rfl ?_) <;> conv => whnf) | ((first | refine ⟨by kernel_rfl, ?_⟩ | refine go_ret ?_) <;> conv => whnf) | ((first | refine go_skip ?_) <;> conv => whnf) | refine go_true rfl ?_ | refine go_false rfl ?_ | refine go_cond rfl (fun h => ?_) (fun h => ?_) | refine ⟨rfl, ?_⟩ | ((first | refine ⟨trivial, ?_⟩ | refine ⟨le_of_ble rfl, ?_⟩) <;> conv => whnf) | fail
      · exact ret_imm3 rfl rfl rfl rfl rfl rfl (by simp [shN, hm]) (by simp [shD, hm]) (by simp [hm]) rfl
      · exfalso; simp [h0] at h
    · have hm : perOk e l xs = true := by simp [perOk, hva, h0]
      have hc44 := c34 (pSum Visit.persons e l xs) (wSum Visit.persons xs) (by omega) (by omega) (by omega) (by omega)
      repeat' first | refine go_seq ?_ | refine go_region ?_ | ((first | refine go_op rfl ?_ | refine go_nil ?_ | refine go_call [] (hc47) rfl rfl rfl rfl ?_ | refine go_call [] (hc48) rfl rfl rfl rfl ?_ | refine go_call [] (hc44) rfl rfl rfl rfl ?_) <;> conv => whnf) | ((first | refine ⟨by kernel_rfl, ?_⟩ | refine go_ret ?_) <;> conv => whnf) | ((first | refine go_skip ?_) <;> conv => whnf) | refine go_true rfl ?_ | refine go_false rfl ?_ | refine go_cond rfl (fun h => ?_) (fun h => ?_) | refine ⟨rfl, ?_⟩ | ((first | refine ⟨trivial, ?_⟩ | refine ⟨le_of_ble rfl, ?_⟩) <;> conv => whnf) | fail
      · exfalso; simp [h0] at h
      · exact ret_imm3 rfl rfl rfl rfl rfl rfl (by simp [shN, hm]) (by simp [shD, hm]) (by simp [hm]) rfl

theorem c21 (xs : List Visit) (e l : Int) (hok : ∀ v ∈ xs, v.ok) (hl : xs.length ≤ 1048576) : CallOk Try.prog 21 [.imm (.list (xs.map Visit.enc)), .imm (.int .i64 e), .imm (.int .i64 l)]
    { res := [.imm (.int .i64 (shN (perOk e l xs) (pSum Visit.persons e l xs) (wSum Visit.persons xs))), .imm (.int .i64 (shD (perOk e l xs) (pSum Visit.persons e l xs) (wSum Visit.persons xs))), .imm (.bool (perOk e l xs))] } := by
  refine callOk_of tyOk Try.func21 rfl rfl (le_of_ble rfl) (le_of_ble rfl) (mutOk_imm rfl _) ?_
  have hc38 := valid_spec hok hl
  cases hva : valid xs with
  | false =>
    have hm : perOk e l xs = false := by simp [perOk, hva]
    rw [hva] at hc38
    repeat' first | refine go_seq ?_ | refine go_region ?_ | refine go_miss rfl rfl rfl ?_ | refine go_undef rfl rfl rfl ?_ | ((first | refine go_op rfl ?_ | refine go_nil ?_ | refine go_hit rfl rfl rfl ?_ | refine go_splitT rfl rfl rfl (fun h => ?_) (fun h => ?_) | refine go_splitF rfl rfl rfl (fun h => ?_) (fun h => ?_) | refine go_pickT rfl ?_ | refine go_pickF rfl ?_ | refine go_pick rfl (fun h => ?_) (fun h => ?_) | refine go_call [] (hc38) rfl rfl rfl rfl ?_) <;> conv => whnf) | ((first | refine go_loadB ?_ | refine ⟨by kernel_rfl, ?_⟩ | refine go_ret ?_) <;> conv => whnf) | refine go_block ?_ | ((first | refine go_skip ?_ | refine go_exit ?_) <;> conv => whnf) | refine go_true rfl ?_ | refine go_false rfl ?_ | refine go_cond rfl (fun h => ?_) (fun h => ?_) | refine ⟨rfl, ?_⟩ | ((first | refine ⟨trivial, ?_⟩ | refine ⟨le_of_ble rfl, ?_⟩) <;> conv => whnf) | fail
    exact ret_imm3 rfl rfl rfl rfl rfl rfl (by simp [shN, hm]) (by simp [shD, hm]) (by simp [hm]) rfl
  | true =>
    rw [hva] at hc38
    obtain ⟨h30, hper⟩ := valid_at hva
    have hS := sums_le (e := e) (l := l) hper
    have hSa := sums_all (e := e) (l := l) hper
    have hc45 := c38 e l
    cases hli : lim e l with
    | false =>
      have hm : perOk e l xs = false := by simp [perOk, hli]
      rw [hli] at hc45
      repeat' first | refine go_seq ?_ | refine go_region ?_ | refine go_miss rfl rfl rfl ?_ | refine go_undef rfl rfl rfl ?_ | ((first | refine go_op rfl ?_ | refine go_nil ?_ | refine go_hit rfl rfl rfl ?_ | refine go_splitT rfl rfl rfl (fun h => ?_) (fun h => ?_) | refine go_splitF rfl rfl rfl (fun h => ?_) (fun h => ?_) | refine go_pickT rfl ?_ | refine go_pickF rfl ?_ | refine go_pick rfl (fun h => ?_) (fun h => ?_) | refine go_call [] (hc38) rfl rfl rfl rfl ?_ | refine go_call [] (hc45) rfl rfl rfl rfl ?_) <;> conv => whnf) | ((first | refine go_loadB ?_ | refine ⟨by kernel_rfl, ?_⟩ | refine go_ret ?_) <;> conv => whnf) | refine go_block ?_ | ((first | refine go_skip ?_ | refine go_exit ?_) <;> conv => whnf) | refine go_true rfl ?_ | refine go_false rfl ?_ | refine go_cond rfl (fun h => ?_) (fun h => ?_) | refine ⟨rfl, ?_⟩ | ((first | refine ⟨trivial, ?_⟩ | refine ⟨le_of_ble rfl, ?_⟩) <;> conv => whnf) | fail
      exact ret_imm3 rfl rfl rfl rfl rfl rfl (by simp [shN, hm]) (by simp [shD, hm]) (by simp [hm]) rfl
    | true =>
      rw [hli] at hc45
      repeat' first | refine go_seq ?_ | refine go_region ?_ | refine go_miss rfl rfl rfl ?_ | refine go_undef rfl rfl rfl ?_ | ((first | refine go_op rfl ?_ | refine go_nil ?_ | refine go_hit rfl rfl rfl ?_ | refine go_splitT rfl rfl rfl (fun h => ?_) (fun h => ?_) | refine go_splitF rfl rfl rfl (fun h => ?_) (fun h => ?_) | refine go_pickT rfl ?_ | refine go_pickF rfl ?_ | refine go_pick rfl (fun h => ?_) (fun h => ?_) | refine go_call [] (hc38) rfl rfl rfl rfl ?_ | refine go_call [] (hc45) rfl rfl rfl rfl ?_) <;> conv => whnf) | ((first | refine go_loadB ?_ | refine ⟨by kernel_rfl, ?_⟩ | refine go_ret ?_) <;> conv => whnf) | refine go_block ?_ | ((first | refine go_skip ?_ | refine go_exit ?_) <;> conv => whnf) | refine go_true rfl ?_ | refine go_false rfl ?_ | refine go_cond rfl (fun h => ?_) (fun h => ?_) | refine ⟨rfl, ?_⟩ | ((first | refine ⟨trivial, ?_⟩ | refine ⟨le_of_ble rfl, ?_⟩) <;> conv => whnf) | fail
      refine go_loop (α := Nat) (fun i => i ≤ xs.length) (fun i => xs.length - i) (fun i => st Try.f21.ntmps [(0, .imm (.list (xs.map Visit.enc))), (1, .imm (.int .i64 e)), (2, .imm (.int .i64 l)), (9, .imm (.int .i64 (pSum Visit.persons e l (xs.take i)))),
        (10, .imm (.int .i64 (wSum Visit.persons (xs.take i)))), (11, .imm (.int .i64 (i : Nat)))] [] []) 0 (Nat.zero_le _) (ref_st0 rfl ⟨rfl, rfl, rfl, rfl, rfl, rfl, trivial⟩ rfl) ?_
      intro i hi
      cases hx : xs[i]? with
      | none =>
        have hge := le_of_at hx
        have hie : xs.take i = xs := List.take_of_length_le hge
        rw [hie]
        by_cases h0 : wSum Visit.persons xs = 0
        · have hm : perOk e l xs = false := by simp [perOk, h0]
          rw [h0]
          repeat' first | refine go_seq ?_ | refine go_region ?_ | refine go_miss rfl rfl rfl ?_ | refine go_undef rfl rfl rfl ?_ | ((first | refine go_op rfl ?_ | refine go_nil ?_ | refine go_hit rfl rfl rfl ?_ | refine go_splitT rfl rfl rfl (fun h => ?_) (fun h => ?_) | refine go_splitF rfl rfl rfl (fun h => ?_) (fun h => ?_) | refine go_pickT rfl ?_ | refine go_pickF rfl ?_ | refine go_pick rfl (fun h => ?_) (fun h => ?_)) <;> conv => whnf) | ((first | refine go_loadB ?_ | refine ⟨by kernel_rfl, ?_⟩ | refine go_ret ?_) <;> conv => whnf) | refine go_block ?_ | ((first | refine go_skip ?_ | refine go_exit ?_) <;> conv => whnf) | refine go_true rfl ?_ | refine go_false rfl ?_ | refine go_cond rfl (fun h => ?_) (fun h => ?_) | refine ⟨rfl, ?_⟩ | ((first | refine ⟨trivial, ?_⟩ | refine ⟨le_of_ble rfl, ?_⟩) <;> conv => whnf) | fail
          · exfalso; simp at *; omega
          · exact ret_imm3 rfl rfl rfl rfl rfl rfl (by simp [shN, hm]) (by simp [shD, hm]) (by simp [hm]) rfl
        · have hm : perOk e l xs = true := by simp [perOk, hva, hli, h0]
          have hc43 := c39 (pSum Visit.persons e l xs) (wSum Visit.persons xs) (by omega) (by omega) (by omega) (by omega)
          repeat' first | refine go_seq ?_ | refine go_region ?_ | refine go_miss rfl rfl rfl ?_ | refine go_undef rfl rfl rfl ?_ | ((first | refine go_op rfl ?_ | refine go_nil ?_ | refine go_hit rfl rfl rfl ?_ | refine go_splitT rfl rfl rfl (fun h => ?_) (fun h => ?_) | refine go_splitF rfl rfl rfl (fun h => ?_) (fun h => ?_) | refine go_pickT rfl ?_ | refine go_pickF rfl ?_ | refine go_pick rfl (fun h => ?_) (fun h => ?_) | refine go_call [] (hc43) rfl rfl rfl rfl ?_) <;> conv => whnf) | ((first | refine go_loadB ?_ | refine ⟨by kernel_rfl, ?_⟩ | refine go_ret ?_) <;> conv => whnf) | refine go_block ?_ | ((first | refine go_skip ?_ | refine go_exit ?_) <;> conv => whnf) | refine go_true rfl ?_ | refine go_false rfl ?_ | refine go_cond rfl (fun h => ?_) (fun h => ?_) | refine ⟨rfl, ?_⟩ | ((first | refine ⟨trivial, ?_⟩ | refine ⟨le_of_ble rfl, ?_⟩) <;> conv => whnf) | fail
          · exfalso; simp at *; omega
          · exfalso; simp [h0] at h
          · exact ret_imm3 rfl rfl rfl rfl rfl rfl (by simp [shN, hm]) (by simp [shD, hm]) (by simp [hm]) rfl
      | some v =>
        have hlt := lt_of_at hx
        have hr := row_at Visit.enc hx
        have hSi := hS i
        obtain ⟨q1, q2⟩ := hper v (List.mem_of_getElem? hx)
        repeat' first | refine go_seq ?_ | refine go_region ?_ | refine go_miss rfl rfl rfl ?_ | refine go_undef rfl rfl rfl ?_ | ((first | refine go_op rfl ?_ | refine go_nil ?_ | refine go_hit rfl rfl rfl ?_ | refine go_splitT rfl rfl rfl (fun h => ?_) (fun h => ?_) | refine go_splitF rfl rfl rfl (fun h => ?_) (fun h => ?_) | refine go_pickT rfl ?_ | refine go_pickF rfl ?_ | refine go_pick rfl (fun h => ?_) (fun h => ?_) | refine go_call [] (c44 v e l) rfl rfl rfl rfl ?_ | refine go_idx rfl rfl rfl rfl (by omega) (by assumption) rfl ?_) <;> conv => whnf) | ((first | refine go_loadB ?_ | refine ⟨by kernel_rfl, ?_⟩ | refine go_ret ?_) <;> conv => whnf) | refine go_block ?_ | ((first | refine go_skip ?_ | refine go_exit ?_) <;> conv => whnf) | refine go_true rfl ?_ | refine go_false rfl ?_ | refine go_cond rfl (fun h => ?_) (fun h => ?_) | refine ⟨rfl, ?_⟩ | ((first | refine ⟨trivial, ?_⟩ | refine ⟨le_of_ble rfl, ?_⟩) <;> conv => whnf) | fail
        · refine go_next (i + 1) (by omega) (by omega) (ref_st0 rfl ⟨rfl, rfl, rfl, ?_, ?_, next_i (by omega), trivial⟩ rfl)
          · show AV.imm (.int .i64 _) = AV.imm (.int .i64 _)
            rw [pSum_next hx, if_pos h, wrap_small (by omega) (by omega)]
          · show AV.imm (.int .i64 _) = AV.imm (.int .i64 _)
            rw [wSum_next hx, wrap_small (by omega) (by omega)]
        · refine go_next (i + 1) (by omega) (by omega) (ref_st0 rfl ⟨rfl, rfl, rfl, ?_, ?_, next_i (by omega), trivial⟩ rfl)
          · show AV.imm (.int .i64 _) = AV.imm (.int .i64 _)
            rw [pSum_next hx, if_neg (by simp [h])]
            congr 2; omega
          · show AV.imm (.int .i64 _) = AV.imm (.int .i64 _)
            rw [wSum_next hx, wrap_small (by omega) (by omega)]
        all_goals (exfalso; simp at *; omega)

end Go.Proofs.Ytobnoplkpmdeiaa


