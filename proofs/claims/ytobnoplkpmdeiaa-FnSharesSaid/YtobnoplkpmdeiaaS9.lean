/- The worst stop, walked (as for the other rows over visits; names for numbers: conv.py). -/
import Derived.Test.YtobnoplkpmdeiaaS8
namespace Go.Proofs.Ytobnoplkpmdeiaa
open Go Go.Am
set_option maxRecDepth 100000
set_option maxHeartbeats 4000000
attribute [local irreducible] amOps amC opCall opIndexAddr opPick retQ opMake opStore amDraw opAppend

def wsB (e l : Int) (xs : List Visit) : Int := if punOk e l xs then (wAt 0 e l xs 8).b else 0
def wsP (e l : Int) (xs : List Visit) : Int := shN (punOk e l xs) (wAt 0 e l xs 8).p (wAt 0 e l xs 8).n
def wsN (e l : Int) (xs : List Visit) : Int := shD (punOk e l xs) (wAt 0 e l xs 8).p (wAt 0 e l xs 8).n

theorem mul_small {a b : Int} (h1 : 0 ≤ a) (h2 : a ≤ 30) (h3 : 0 ≤ b) (h4 : b ≤ 30) : IntKind.i64.wrap (a * b) = a * b := by
  have q1 : 0 ≤ a * b := Int.mul_nonneg h1 h3
  have q2 : a * b ≤ 30 * 30 := Int.mul_le_mul h2 h4 h3 (by omega)
  exact wrap_small (by omega) (by omega)

theorem stops_at {xs : List Visit} (hv : valid xs = true) (h0 : xs.length ≠ 0) (d e l : Int) : 0 ≤ (wAt d e l xs 8).b := by
  match xs, h0 with
  | v :: r, _ =>
    simp only [valid, Bool.and_eq_true, List.all_eq_true] at hv
    have hg := hv.2 v (by simp)
    simp only [vGood2, inR, Bool.and_eq_true, decide_eq_true_eq] at hg
    exact wAt_held (v := v) (by simp) (j := v.stop.toNat) (by omega) 8 (by omega)

theorem c18 (xs : List Visit) (e l : Int) (hl : xs.length ≤ 1048576) : CallOk Try.prog 18 [.imm (.list (xs.map Visit.enc)), .imm (.int .i64 e), .imm (.int .i64 l)]
    { res := [.imm (.int .i64 (wsB e l xs)), .imm (.int .i64 (wsP e l xs)), .imm (.int .i64 (wsN e l xs)), .imm (.bool (punOk e l xs))] } := by
  refine callOk_of tyOk Try.func18 rfl rfl (le_of_ble rfl) (le_of_ble rfl) (mutOk_imm rfl _) ?_
  have hc47 := c33 xs e l hl
  cases hva : (valid xs && lim e l) with
  | false =>
    have hm : punOk e l xs = false := by simp [punOk, hva]
    rw [hva] at hc47
    repeat' first | refine go_seq ?_ | refine go_region ?_ | refine go_miss rfl rfl rfl ?_ | refine go_undef rfl rfl rfl ?_ | ((first | refine go_op rfl ?_ | refine go_nil ?_ | refine go_hit rfl rfl rfl ?_ | refine go_splitT rfl rfl rfl (fun h => ?_) (fun h => ?_) | refine go_splitF rfl rfl rfl (fun h => ?_) (fun h => ?_) | refine go_pickT rfl ?_ | refine go_pickF rfl ?_ | refine go_pick rfl (fun h => ?_) (fun h => ?_) | refine go_call [] (hc47) rfl rfl rfl rfl ?_) <;> conv => whnf) | ((first | refine ⟨by kernel_rfl, ?_⟩ | refine go_ret ?_) <;> conv => whnf) | refine go_block ?_ | ((first | refine go_skip ?_ | refine go_exit ?_) <;> conv => whnf) | refine go_true rfl ?_ | refine go_false rfl ?_ | refine go_cond rfl (fun h => ?_) (fun h => ?_) | refine ⟨rfl, ?_⟩ | ((first | refine ⟨trivial, ?_⟩ | refine ⟨le_of_ble rfl, ?_⟩) <;> conv => whnf) | fail
    exact ret_imm4 rfl rfl rfl rfl rfl rfl rfl (by simp [wsB, hm]) (by simp [wsP, shN, hm]) (by simp [wsN, shD, hm]) (by simp [hm]) rfl
  | true =>
    rw [hva] at hc47
    have hva' := hva
    simp only [Bool.and_eq_true] at hva'
    obtain ⟨h30, _⟩ := valid_at hva'.1
    have hW := wAt_le (d := 0) (e := e) (l := l) (by omega) h30
    by_cases h0 : xs.length = 0
    · have hm : punOk e l xs = false := by simp [punOk, h0]
      have hnil : xs = [] := List.eq_nil_of_length_eq_zero h0
      subst hnil
      repeat' first | refine go_seq ?_ | refine go_region ?_ | refine go_miss rfl rfl rfl ?_ | refine go_undef rfl rfl rfl ?_ | ((first | refine go_op rfl ?_ | refine go_nil ?_ | refine go_hit rfl rfl rfl ?_ | refine go_splitT rfl rfl rfl (fun h => ?_) (fun h => ?_) | refine go_splitF rfl rfl rfl (fun h => ?_) (fun h => ?_) | refine go_pickT rfl ?_ | refine go_pickF rfl ?_ | refine go_pick rfl (fun h => ?_) (fun h => ?_) | refine go_call [] (hc47) rfl rfl rfl rfl ?_) <;> conv => whnf) | ((first | refine ⟨by kernel_rfl, ?_⟩ | refine go_ret ?_) <;> conv => whnf) | refine go_block ?_ | ((first | refine go_skip ?_ | refine go_exit ?_) <;> conv => whnf) | refine go_true rfl ?_ | refine go_false rfl ?_ | refine go_cond rfl (fun h => ?_) (fun h => ?_) | refine ⟨rfl, ?_⟩ | ((first | refine ⟨trivial, ?_⟩ | refine ⟨le_of_ble rfl, ?_⟩) <;> conv => whnf) | fail
      exact ret_imm4 rfl rfl rfl rfl rfl rfl rfl (by simp [wsB, hm]) (by simp [wsP, shN, hm]) (by simp [wsN, shD, hm]) (by simp [hm]) rfl
    · have hm : punOk e l xs = true := by simp [punOk, hva]; intro h; exact h0 (by simp [h])
      have hheld := stops_at hva'.1 h0 0 e l
      repeat' first | refine go_seq ?_ | refine go_region ?_ | refine go_miss rfl rfl rfl ?_ | refine go_undef rfl rfl rfl ?_ | ((first | refine go_op rfl ?_ | refine go_nil ?_ | refine go_hit rfl rfl rfl ?_ | refine go_splitT rfl rfl rfl (fun h => ?_) (fun h => ?_) | refine go_splitF rfl rfl rfl (fun h => ?_) (fun h => ?_) | refine go_pickT rfl ?_ | refine go_pickF rfl ?_ | refine go_pick rfl (fun h => ?_) (fun h => ?_) | refine go_call [] (hc47) rfl rfl rfl rfl ?_) <;> conv => whnf) | ((first | refine ⟨by kernel_rfl, ?_⟩ | refine go_ret ?_) <;> conv => whnf) | refine go_block ?_ | ((first | refine go_skip ?_ | refine go_exit ?_) <;> conv => whnf) | refine go_true rfl ?_ | refine go_false rfl ?_ | refine go_cond rfl (fun h => ?_) (fun h => ?_) | refine ⟨rfl, ?_⟩ | ((first | refine ⟨trivial, ?_⟩ | refine ⟨le_of_ble rfl, ?_⟩) <;> conv => whnf) | fail
      · exfalso; simp at h; exact h0 (by simp [h])
      refine go_loop (α := Nat) (fun i => i ≤ 8) (fun i => 8 - i) (fun i => st Try.f18.ntmps [(0, .imm (.list (xs.map Visit.enc))), (1, .imm (.int .i64 e)), (2, .imm (.int .i64 l)), (10, .imm (.int .i64 (wAt 0 e l xs i).b)), (11, .imm (.int .i64 (wAt 0 e l xs i).p)),
        (12, .imm (.int .i64 (wAt 0 e l xs i).n)), (26, .imm (.int .i64 (i : Nat)))] [] []) 0 (Nat.zero_le _) (ref_st0 rfl ⟨rfl, rfl, rfl, rfl, rfl, rfl, rfl, trivial⟩ rfl) ?_
      intro i hi
      have hWi := hW i
      by_cases hi8 : i = 8
      · subst hi8
        have hc44 := c34 (wAt 0 e l xs 8).p (wAt 0 e l xs 8).n (by omega) (by omega) (by omega) (by omega)
        repeat' first | refine go_seq ?_ | refine go_region ?_ | refine go_miss rfl rfl rfl ?_ | refine go_undef rfl rfl rfl ?_ | ((first | refine go_op rfl ?_ | refine go_nil ?_ | refine go_hit rfl rfl rfl ?_ | refine go_splitT rfl rfl rfl (fun h => ?_) (fun h => ?_) | refine go_splitF rfl rfl rfl (fun h => ?_) (fun h => ?_) | refine go_pickT rfl ?_ | refine go_pickF rfl ?_ | refine go_pick rfl (fun h => ?_) (fun h => ?_) | refine go_call [] (hc44) rfl rfl rfl rfl ?_) <;> conv => whnf) | ((first | refine ⟨by kernel_rfl, ?_⟩ | refine go_ret ?_) <;> conv => whnf) | refine go_block ?_ | ((first | refine go_skip ?_ | refine go_exit ?_) <;> conv => whnf) | refine go_true rfl ?_ | refine go_false rfl ?_ | refine go_cond rfl (fun h => ?_) (fun h => ?_) | refine ⟨rfl, ?_⟩ | ((first | refine ⟨trivial, ?_⟩ | refine ⟨le_of_ble rfl, ?_⟩) <;> conv => whnf) | fail
        exact ret_imm4 rfl rfl rfl rfl rfl rfl rfl (by simp [wsB, hm]) (by simp [wsP, shN, hm]) (by simp [wsN, shD, hm]) (by simp [hm]) rfl
      · have hlen := at_len xs i
        have hone := one_le e l xs i
        have hc56 : CallOk Try.prog 41 [.imm (.list (xs.map Visit.enc)), .imm (.int .i64 (i : Nat))] { res := [.imm (.list ((at' xs i).map Visit.enc))] } := c41 xs i hl
        have hc48 := c35 36 one' c36 (at' xs i) e l (by omega) (fun v _ => by simp [one'])
        rw [show wSum one' (at' xs i) = (at' xs i).length from wSum_one _] at hc48
        have hmul1 := mul_small (a := pSum one' e l (at' xs i)) (b := (wAt 0 e l xs i).n) (by omega) (by omega) (by omega) (by omega)
        have hmul2 := mul_small (a := (wAt 0 e l xs i).p) (b := ((at' xs i).length : Int)) (by omega) (by omega) (by omega) (by omega)
        have hstay : ((at' xs i).length = 0 ∨ (¬ (wAt 0 e l xs i).b < 0 ∧ ¬ pSum one' e l (at' xs i) * (wAt 0 e l xs i).n < (wAt 0 e l xs i).p * ((at' xs i).length : Int))) → wAt 0 e l xs (i + 1) = wAt 0 e l xs i := by
          intro hh
          simp only [wAt, wStep]
          rcases hh with hh | ⟨q1, q2⟩
          · rw [if_pos hh]
          · split
            · rfl
            · rw [if_neg (by intro hor; rcases hor with hor | hor <;> contradiction)]
        have htake : (at' xs i).length ≠ 0 → ((wAt 0 e l xs i).b < 0 ∨ pSum one' e l (at' xs i) * (wAt 0 e l xs i).n < (wAt 0 e l xs i).p * ((at' xs i).length : Int)) → wAt 0 e l xs (i + 1) = ⟨i, pSum one' e l (at' xs i), (at' xs i).length⟩ := by
          intro h1 h2
          simp only [wAt, wStep]
          rw [if_neg h1, if_pos h2]
        repeat' first | refine go_seq ?_ | refine go_region ?_ | refine go_miss rfl rfl rfl ?_ | refine go_undef rfl rfl rfl ?_ | ((first | refine go_op rfl ?_ | refine go_nil ?_ | refine go_hit rfl rfl rfl ?_ | refine go_splitT rfl rfl rfl (fun h => ?_) (fun h => ?_) | refine go_splitF rfl rfl rfl (fun h => ?_) (fun h => ?_) | refine go_pickT rfl ?_ | refine go_pickF rfl ?_ | refine go_pick rfl (fun h => ?_) (fun h => ?_) | refine go_call [] (hc56) rfl rfl rfl rfl ?_ | refine go_call [] (hc48) rfl rfl rfl rfl ?_) <;> conv => whnf) | ((first | refine ⟨by kernel_rfl, ?_⟩ | refine go_ret ?_) <;> conv => whnf) | refine go_block ?_ | ((first | refine go_skip ?_ | refine go_exit ?_) <;> conv => whnf) | refine go_true rfl ?_ | refine go_false rfl ?_ | refine go_cond rfl (fun h => ?_) (fun h => ?_) | refine ⟨rfl, ?_⟩ | ((first | refine ⟨trivial, ?_⟩ | refine ⟨le_of_ble rfl, ?_⟩) <;> conv => whnf) | fail
        all_goals (try rw [hmul1, hmul2] at h)
        all_goals simp only [decide_eq_true_eq, decide_eq_false_iff_not] at *
        all_goals first
          | (exfalso; omega)
          | (refine go_next (i + 1) (by omega) (by omega) ?_
             rw [htake (by omega) (by first | exact .inl (by assumption) | exact .inr (by assumption))]
             exact ref_st0 rfl ⟨rfl, rfl, rfl, rfl, rfl, rfl, next_i (by omega), trivial⟩ rfl)
          | (refine go_next (i + 1) (by omega) (by omega) ?_
             rw [hstay (by first | exact .inl (by omega) | exact .inr ⟨by assumption, by assumption⟩)]
             exact ref_st0 rfl ⟨rfl, rfl, rfl, rfl, rfl, rfl, next_i (by omega), trivial⟩ rfl)
          | trace_state

theorem c19 (xs : List Visit) (e l : Int) (hok : ∀ v ∈ xs, v.ok) (hl : xs.length ≤ 1048576) : CallOk Try.prog 19 [.imm (.list (xs.map Visit.enc)), .imm (.int .i64 e), .imm (.int .i64 l)]
    { res := [.imm (.int .i64 (wsB e l xs)), .imm (.int .i64 (wsP e l xs)), .imm (.int .i64 (wsN e l xs)), .imm (.bool (punOk e l xs))] } := by
  refine callOk_of tyOk Try.func19 rfl rfl (le_of_ble rfl) (le_of_ble rfl) (mutOk_imm rfl _) ?_
  have hc38 := valid_spec hok hl
  cases hva : valid xs with
  | false =>
    have hm : punOk e l xs = false := by simp [punOk, hva]
    rw [hva] at hc38
    repeat' first | refine go_seq ?_ | refine go_region ?_ | refine go_miss rfl rfl rfl ?_ | refine go_undef rfl rfl rfl ?_ | ((first | refine go_op rfl ?_ | refine go_nil ?_ | refine go_hit rfl rfl rfl ?_ | refine go_splitT rfl rfl rfl (fun h => ?_) (fun h => ?_) | refine go_splitF rfl rfl rfl (fun h => ?_) (fun h => ?_) | refine go_pickT rfl ?_ | refine go_pickF rfl ?_ | refine go_pick rfl (fun h => ?_) (fun h => ?_) | refine go_call [] (hc38) rfl rfl rfl rfl ?_) <;> conv => whnf) | ((first | refine ⟨by kernel_rfl, ?_⟩ | refine go_ret ?_) <;> conv => whnf) | refine go_block ?_ | ((first | refine go_skip ?_ | refine go_exit ?_) <;> conv => whnf) | refine go_true rfl ?_ | refine go_false rfl ?_ | refine go_cond rfl (fun h => ?_) (fun h => ?_) | refine ⟨rfl, ?_⟩ | ((first | refine ⟨trivial, ?_⟩ | refine ⟨le_of_ble rfl, ?_⟩) <;> conv => whnf) | fail
    exact ret_imm4 rfl rfl rfl rfl rfl rfl rfl (by simp [wsB, hm]) (by simp [wsP, shN, hm]) (by simp [wsN, shD, hm]) (by simp [hm]) rfl
  | true =>
    rw [hva] at hc38
    obtain ⟨h30, _⟩ := valid_at hva
    have hc45 := c38 e l
    cases hli : lim e l with
    | false =>
      have hm : punOk e l xs = false := by simp [punOk, hli]
      rw [hli] at hc45
      repeat' first | refine go_seq ?_ | refine go_region ?_ | refine go_miss rfl rfl rfl ?_ | refine go_undef rfl rfl rfl ?_ | ((first | refine go_op rfl ?_ | refine go_nil ?_ | refine go_hit rfl rfl rfl ?_ | refine go_splitT rfl rfl rfl (fun h => ?_) (fun h => ?_) | refine go_splitF rfl rfl rfl (fun h => ?_) (fun h => ?_) | refine go_pickT rfl ?_ | refine go_pickF rfl ?_ | refine go_pick rfl (fun h => ?_) (fun h => ?_) | refine go_call [] (hc38) rfl rfl rfl rfl ?_ | refine go_call [] (hc45) rfl rfl rfl rfl ?_) <;> conv => whnf) | ((first | refine ⟨by kernel_rfl, ?_⟩ | refine go_ret ?_) <;> conv => whnf) | refine go_block ?_ | ((first | refine go_skip ?_ | refine go_exit ?_) <;> conv => whnf) | refine go_true rfl ?_ | refine go_false rfl ?_ | refine go_cond rfl (fun h => ?_) (fun h => ?_) | refine ⟨rfl, ?_⟩ | ((first | refine ⟨trivial, ?_⟩ | refine ⟨le_of_ble rfl, ?_⟩) <;> conv => whnf) | fail
      exact ret_imm4 rfl rfl rfl rfl rfl rfl rfl (by simp [wsB, hm]) (by simp [wsP, shN, hm]) (by simp [wsN, shD, hm]) (by simp [hm]) rfl
    | true =>
      rw [hli] at hc45
      have hW := wAt_le (d := 1) (e := e) (l := l) (by omega) h30
      by_cases h0 : xs.length = 0
      · have hm : punOk e l xs = false := by simp [punOk, h0]
        have hnil : xs = [] := List.eq_nil_of_length_eq_zero h0
        subst hnil
        repeat' first | refine go_seq ?_ | refine go_region ?_ | refine go_miss rfl rfl rfl ?_ | refine go_undef rfl rfl rfl ?_ | ((first | refine go_op rfl ?_ | refine go_nil ?_ | refine go_hit rfl rfl rfl ?_ | refine go_splitT rfl rfl rfl (fun h => ?_) (fun h => ?_) | refine go_splitF rfl rfl rfl (fun h => ?_) (fun h => ?_) | refine go_pickT rfl ?_ | refine go_pickF rfl ?_ | refine go_pick rfl (fun h => ?_) (fun h => ?_) | refine go_call [] (hc38) rfl rfl rfl rfl ?_ | refine go_call [] (hc45) rfl rfl rfl rfl ?_) <;> conv => whnf) | ((first | refine ⟨by kernel_rfl, ?_⟩ | refine go_ret ?_) <;> conv => whnf) | refine go_block ?_ | ((first | refine go_skip ?_ | refine go_exit ?_) <;> conv => whnf) | refine go_true rfl ?_ | refine go_false rfl ?_ | refine go_cond rfl (fun h => ?_) (fun h => ?_) | refine ⟨rfl, ?_⟩ | ((first | refine ⟨trivial, ?_⟩ | refine ⟨le_of_ble rfl, ?_⟩) <;> conv => whnf) | fail
        exact ret_imm4 rfl rfl rfl rfl rfl rfl rfl (by simp [wsB, hm]) (by simp [wsP, shN, hm]) (by simp [wsN, shD, hm]) (by simp [hm]) rfl
      · have hm : punOk e l xs = true := by simp [punOk, hva, hli]; intro h; exact h0 (by simp [h])
        have hheld := stops_at hva h0 0 e l
        obtain ⟨hs1, hs2, hs3⟩ := wAt_same e l xs 8
        have hs4 := hs3 hheld
        repeat' first | refine go_seq ?_ | refine go_region ?_ | refine go_miss rfl rfl rfl ?_ | refine go_undef rfl rfl rfl ?_ | ((first | refine go_op rfl ?_ | refine go_nil ?_ | refine go_hit rfl rfl rfl ?_ | refine go_splitT rfl rfl rfl (fun h => ?_) (fun h => ?_) | refine go_splitF rfl rfl rfl (fun h => ?_) (fun h => ?_) | refine go_pickT rfl ?_ | refine go_pickF rfl ?_ | refine go_pick rfl (fun h => ?_) (fun h => ?_) | refine go_call [] (hc38) rfl rfl rfl rfl ?_ | refine go_call [] (hc45) rfl rfl rfl rfl ?_) <;> conv => whnf) | ((first | refine ⟨by kernel_rfl, ?_⟩ | refine go_ret ?_) <;> conv => whnf) | refine go_block ?_ | ((first | refine go_skip ?_ | refine go_exit ?_) <;> conv => whnf) | refine go_true rfl ?_ | refine go_false rfl ?_ | refine go_cond rfl (fun h => ?_) (fun h => ?_) | refine ⟨rfl, ?_⟩ | ((first | refine ⟨trivial, ?_⟩ | refine ⟨le_of_ble rfl, ?_⟩) <;> conv => whnf) | fail
        · exfalso; simp at h; exact h0 (by simp [h])
        refine go_loop (α := Nat) (fun i => i ≤ 8) (fun i => 8 - i) (fun i => st Try.f19.ntmps [(0, .imm (.list (xs.map Visit.enc))), (1, .imm (.int .i64 e)), (2, .imm (.int .i64 l)), (10, .imm (.int .i64 (wAt 1 e l xs i).b)), (11, .imm (.int .i64 (wAt 1 e l xs i).p)),
          (12, .imm (.int .i64 (wAt 1 e l xs i).n)), (13, .imm (.int .i64 (i : Nat)))] [] []) 0 (Nat.zero_le _) (ref_st0 rfl ⟨rfl, rfl, rfl, rfl, rfl, rfl, rfl, trivial⟩ rfl) ?_
        intro i hi
        have hWi := hW i
        by_cases hi8 : i = 8
        · subst hi8
          have hc43 := c39 (wAt 1 e l xs 8).p (wAt 1 e l xs 8).n (by omega) (by omega) (by omega) (by omega)
          repeat' first | refine go_seq ?_ | refine go_region ?_ | refine go_miss rfl rfl rfl ?_ | refine go_undef rfl rfl rfl ?_ | ((first | refine go_op rfl ?_ | refine go_nil ?_ | refine go_hit rfl rfl rfl ?_ | refine go_splitT rfl rfl rfl (fun h => ?_) (fun h => ?_) | refine go_splitF rfl rfl rfl (fun h => ?_) (fun h => ?_) | refine go_pickT rfl ?_ | refine go_pickF rfl ?_ | refine go_pick rfl (fun h => ?_) (fun h => ?_) | refine go_call [] (hc43) rfl rfl rfl rfl ?_) <;> conv => whnf) | ((first | refine ⟨by kernel_rfl, ?_⟩ | refine go_ret ?_) <;> conv => whnf) | refine go_block ?_ | ((first | refine go_skip ?_ | refine go_exit ?_) <;> conv => whnf) | refine go_true rfl ?_ | refine go_false rfl ?_ | refine go_cond rfl (fun h => ?_) (fun h => ?_) | refine ⟨rfl, ?_⟩ | ((first | refine ⟨trivial, ?_⟩ | refine ⟨le_of_ble rfl, ?_⟩) <;> conv => whnf) | fail
          exact ret_imm4 rfl rfl rfl rfl rfl rfl rfl (by simp [wsB, hm, hs1]) (by simp [wsP, shN, hm, hs2, hs4]) (by simp [wsN, shD, hm, hs2, hs4]) (by simp [hm]) rfl
        · have hlen := at_len xs i
          have hone := one_le e l xs i
          have hc55 : CallOk Try.prog 42 [.imm (.list (xs.map Visit.enc)), .imm (.int .i64 (i : Nat))] { res := [.imm (.list ((at' xs i).map Visit.enc))] } := c42 xs i hl
          have hc46 : CallOk Try.prog 40 [.imm (.list ((at' xs i).map Visit.enc)), .imm (.int .i64 e), .imm (.int .i64 l)] { res := [.imm (.int .i64 (pSum one' e l (at' xs i)))] } := c40 (at' xs i) e l (by omega)
          have hlm : ((at' xs i).map Visit.enc).length = (at' xs i).length := List.length_map _
          have hmul1 := mul_small (a := pSum one' e l (at' xs i)) (b := (wAt 1 e l xs i).n) (by omega) (by omega) (by omega) (by omega)
          have hmul2 := mul_small (a := (wAt 1 e l xs i).p) (b := ((at' xs i).length : Int)) (by omega) (by omega) (by omega) (by omega)
          have hstay : ((at' xs i).length = 0 ∨ (¬ (wAt 1 e l xs i).b < 0 ∧ ¬ pSum one' e l (at' xs i) * (wAt 1 e l xs i).n < (wAt 1 e l xs i).p * ((at' xs i).length : Int))) → wAt 1 e l xs (i + 1) = wAt 1 e l xs i := by
            intro hh
            simp only [wAt, wStep]
            rcases hh with hh | ⟨q1, q2⟩
            · rw [if_pos hh]
            · split
              · rfl
              · rw [if_neg (by intro hor; rcases hor with hor | hor <;> contradiction)]
          have htake : (at' xs i).length ≠ 0 → ((wAt 1 e l xs i).b < 0 ∨ pSum one' e l (at' xs i) * (wAt 1 e l xs i).n < (wAt 1 e l xs i).p * ((at' xs i).length : Int)) → wAt 1 e l xs (i + 1) = ⟨i, pSum one' e l (at' xs i), ((at' xs i).map Visit.enc).length⟩ := by
            intro h1 h2
            simp only [wAt, wStep]
            rw [if_neg h1, if_pos h2, hlm]
          repeat' first | refine go_seq ?_ | refine go_region ?_ | refine go_miss rfl rfl rfl ?_ | refine go_undef rfl rfl rfl ?_ | ((first | refine go_op rfl ?_ | refine go_nil ?_ | refine go_hit rfl rfl rfl ?_ | refine go_splitT rfl rfl rfl (fun h => ?_) (fun h => ?_) | refine go_splitF rfl rfl rfl (fun h => ?_) (fun h => ?_) | refine go_pickT rfl ?_ | refine go_pickF rfl ?_ | refine go_pick rfl (fun h => ?_) (fun h => ?_) | refine go_call [] (hc55) rfl rfl rfl rfl ?_ | refine go_call [] (hc46) rfl rfl rfl rfl ?_) <;> conv => whnf) | ((first | refine ⟨by kernel_rfl, ?_⟩ | refine go_ret ?_) <;> conv => whnf) | refine go_block ?_ | ((first | refine go_skip ?_ | refine go_exit ?_) <;> conv => whnf) | refine go_true rfl ?_ | refine go_false rfl ?_ | refine go_cond rfl (fun h => ?_) (fun h => ?_) | refine ⟨rfl, ?_⟩ | ((first | refine ⟨trivial, ?_⟩ | refine ⟨le_of_ble rfl, ?_⟩) <;> conv => whnf) | fail
          all_goals (try rw [hlm] at *)
          all_goals (try rw [hmul1, hmul2] at h)
          all_goals simp only [decide_eq_true_eq, decide_eq_false_iff_not] at *
          all_goals first
            | (exfalso; omega)
            | (refine go_next (i + 1) (by omega) (by omega) ?_
               rw [htake (by omega) (by first | exact .inl (by assumption) | exact .inr (by assumption))]
               exact ref_st0 rfl ⟨rfl, rfl, rfl, rfl, rfl, rfl, next_i (by omega), trivial⟩ rfl)
            | (refine go_next (i + 1) (by omega) (by omega) ?_
               rw [hstay (by first | exact .inl (by omega) | exact .inr ⟨by assumption, by assumption⟩)]
               exact ref_st0 rfl ⟨rfl, rfl, rfl, rfl, rfl, rfl, next_i (by omega), trivial⟩ rfl)
            | trace_state
end Go.Proofs.Ytobnoplkpmdeiaa


