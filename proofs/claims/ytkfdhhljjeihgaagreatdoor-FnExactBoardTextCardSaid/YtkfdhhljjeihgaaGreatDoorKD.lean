/- The walks of numbers and times as texts (out of r7/K1R). -/
import Derived.Test.YtkfdhhljjeihgaaGreatDoorEA
import Derived.Test.YtkfdhhljjeihgaaGreatDoorAmD
import Derived.Test.YtkfdhhljjeihgaaGreatDoorSh
import Derived.Test.YtkfdhhljjeihgaaGreatDoorLgP
namespace Go.Proofs.YtkfdhhljjeihgaaGreatDoor
open Go Go.Am
set_option maxRecDepth 100000
set_option maxHeartbeats 4000000
attribute [local irreducible] amOps amC opCall opIndexAddr opPick retQ opMake opStore amDraw opAppend opLoad opNilCmp opIndex opSlice

def numT (n : Nat) : List UInt8 := Lg.num n
theorem ten_ne : (10 : Int) ≠ 0 := by omega
theorem sixty_ne : (60 : Int) ≠ 0 := by omega

theorem c68 (n : Nat) (h : n ≤ 4611686018427387903) : CallOk Tryz.prog 68 [.imm (.int .i64 (n : Int))] { res := [.imm (.str (ofL (numT n)))] } := by
  have hc := callOk_itoa laysM171 ⟨_, Tryz.func68, rfl, rfl⟩ (g := 0) (by kernel_rfl) (List.mem_singleton.2 rfl) (n : Int) (by omega) (by omega)
  rw [Lib.itoa_nonneg] at hc
  exact hc

def digs : List UInt8 := [48, 49, 50, 51, 52, 53, 54, 55, 56, 57]
theorem digs_at : ∀ n, n < 10 → (digs.drop n).take (n + 1 - n) = [UInt8.ofNat (48 + n)] := by decide
theorem szLit (l : List UInt8) : (ByteArray.mk (List.toArray l)).size = l.length := rfl

theorem c34 (n : Nat) : n ≤ 4611686018427387903 → CallOk Tryz.prog 34 [.imm (.int .i64 (n : Int))] { res := [.imm (.str (ofL (numT n)))] } := by
  induction n using Nat.strongRecOn with
  | ind n ih =>
    intro hn
    refine callOk_of tyOk Tryz.func34 rfl rfl (le_of_ble rfl) (le_of_ble rfl) (mutOk_imm rfl _) ?_
    by_cases h10 : n < 10
    · have hw1 : IntKind.i64.wrap ((n : Int) + 1) = ((n + 1 : Nat) : Int) := by rw [wrap_small (by omega) (by omega)]; omega
      have hr : numT n = (digs.drop n).take (n + 1 - n) := by unfold numT; rw [digs_at n h10, Lg.num_eq, if_pos h10]
      repeat' first | refine go_seq ?_ | refine go_region ?_ | refine go_draw drawsOk ?_ | ((first | refine go_op rfl ?_ | refine go_nil ?_ | refine go_dop rfl ?_ | refine go_dend (by kernel_rfl) ?_ | refine go_sliceL (l := digs) n (n + 1) rfl rfl rfl (by show some _ = _; rw [hw1]) (by omega) (by show n + 1 ≤ 10; omega) ?_) <;> conv => whnf) | ((first | refine ⟨by kernel_rfl, ?_⟩ | refine go_ret ?_) <;> conv => whnf) | ((first | refine go_skip ?_) <;> conv => whnf) | refine go_true rfl ?_ | refine go_false rfl ?_ | refine go_cond rfl (fun h => ?_) (fun h => ?_) | refine ⟨rfl, ?_⟩ | ((first | refine ⟨trivial, ?_⟩ | refine ⟨le_of_ble rfl, ?_⟩) <;> conv => whnf) | fail
      all_goals first
        | (exfalso; simp at h; omega)
        | exact ret_imm rfl rfl rfl rfl (by rw [hr]) rfl
        | trace_state
    · have hq : IntKind.i64.wrap ((n : Int).tdiv 10) = ((n / 10 : Nat) : Int) := by
        rw [Int.tdiv_eq_ediv_of_nonneg (by omega), wrap_small (by omega) (by omega)]; omega
      have hr : (n : Int).tmod 10 = ((n % 10 : Nat) : Int) := by
        rw [Int.tmod_eq_emod_of_nonneg (by omega)]; omega
      have hr1 : IntKind.i64.wrap ((n : Int).tmod 10 + 1) = ((n % 10 + 1 : Nat) : Int) := by rw [hr, wrap_small (by omega) (by omega)]; omega
      have hc : CallOk Tryz.prog 34 [.imm (.int .i64 (IntKind.i64.wrap ((n : Int).tdiv 10)))] { res := [.imm (.str (ofL (numT (n / 10))))] } := by
        rw [hq]; exact ih (n / 10) (by omega) (by omega)
      have hd := digs_at (n % 10) (by omega)
      have hlen := Lg.num_len 18 (n / 10) (by omega)
      have hs : (ofL (numT (n / 10))).size + (ofL ((digs.drop (n % 10)).take (n % 10 + 1 - n % 10))).size ≤ 4611686018427387904 := by
        rw [hd]
        show (Lg.num (n / 10)).length + 1 ≤ _
        omega
      have he : ofL (numT (n / 10)) ++ ofL ((digs.drop (n % 10)).take (n % 10 + 1 - n % 10)) = ofL (numT n) := by
        unfold numT; rw [ofL_app, hd, Lg.num_eq n, if_neg h10]
      repeat' first | refine go_seq ?_ | refine go_region ?_ | refine go_draw drawsOk ?_ | ((first | refine go_op rfl ?_ | refine go_nil ?_ | refine go_dop rfl ?_ | refine go_dend (by kernel_rfl) ?_ | refine go_call [] (hc) rfl rfl rfl rfl ?_ | refine go_sliceL (l := digs) (n % 10) (n % 10 + 1) rfl rfl (by show some _ = _; rw [hr]) (by show some _ = _; rw [hr1]) (by omega) (by show n % 10 + 1 ≤ 10; omega) ?_ | refine ⟨ten_ne, ?_⟩ | refine ⟨hs, ?_⟩) <;> conv => whnf) | ((first | refine ⟨by kernel_rfl, ?_⟩ | refine go_ret ?_) <;> conv => whnf) | ((first | refine go_skip ?_) <;> conv => whnf) | refine go_true rfl ?_ | refine go_false rfl ?_ | refine go_cond rfl (fun h => ?_) (fun h => ?_) | refine ⟨rfl, ?_⟩ | ((first | refine ⟨trivial, ?_⟩ | refine ⟨le_of_ble rfl, ?_⟩) <;> conv => whnf) | fail
      all_goals first
        | (exfalso; simp at h; omega)
        | exact ret_imm rfl rfl rfl rfl (by rw [he]) rfl
        | trace_state

/-- Two digits. -/
def twoL (n : Nat) : List UInt8 := [UInt8.ofNat (48 + n / 10), UInt8.ofNat (48 + n % 10)]
def clockL (t : Nat) : List UInt8 := twoL (t / 60) ++ [58] ++ twoL (t % 60)
theorem two_bytes : ∀ n : Fin 100, bytesOf [IntKind.u8.wrap (IntKind.i64.wrap (48 + IntKind.i64.wrap (((n.val : Nat) : Int).tdiv 10))), IntKind.u8.wrap (IntKind.i64.wrap (48 + ((n.val : Nat) : Int).tmod 10))] = ofL (twoL n.val) := by decide +kernel

theorem c85 (n : Nat) (hn : n < 100) : CallOk Tryz.prog 85 [.imm (.int .i64 (n : Nat))] { res := [.imm (.str (ofL (twoL n)))] } := by
  refine callOk_of tyOk Tryz.func85 rfl rfl (le_of_ble rfl) (le_of_ble rfl) (mutOk_imm rfl _) ?_
  have h2 := two_bytes ⟨n, hn⟩
  repeat' first | refine go_seq ?_ | refine go_region ?_ | ((first | refine go_op rfl ?_ | refine go_nil ?_ | refine ⟨ten_ne, ?_⟩) <;> conv => whnf) | ((first | refine ⟨by kernel_rfl, ?_⟩ | refine go_ret ?_) <;> conv => whnf) | ((first | refine go_skip ?_) <;> conv => whnf) | refine ⟨rfl, ?_⟩ | ((first | refine ⟨trivial, ?_⟩ | refine ⟨le_of_ble rfl, ?_⟩) <;> conv => whnf) | fail
  all_goals exact ret_imm rfl rfl rfl rfl (congrArg D.str h2) rfl

theorem c54 (n : Nat) (hn : n < 100) : CallOk Tryz.prog 54 [.imm (.int .i64 (n : Nat))] { res := [.imm (.str (ofL (twoL n)))] } := by
  refine callOk_of tyOk Tryz.func54 rfl rfl (le_of_ble rfl) (le_of_ble rfl) (mutOk_imm rfl _) ?_
  have hq : IntKind.i64.wrap ((n : Int).tdiv 10) = ((n / 10 : Nat) : Int) := by
    rw [Int.tdiv_eq_ediv_of_nonneg (by omega), wrap_small (by omega) (by omega)]; omega
  have hq1 : IntKind.i64.wrap (IntKind.i64.wrap ((n : Int).tdiv 10) + 1) = ((n / 10 + 1 : Nat) : Int) := by rw [hq, wrap_small (by omega) (by omega)]; omega
  have hr : (n : Int).tmod 10 = ((n % 10 : Nat) : Int) := by
    rw [Int.tmod_eq_emod_of_nonneg (by omega)]; omega
  have hr1 : IntKind.i64.wrap ((n : Int).tmod 10 + 1) = ((n % 10 + 1 : Nat) : Int) := by rw [hr, wrap_small (by omega) (by omega)]; omega
  have hd := digs_at (n % 10) (by omega)
  have hd2 := digs_at (n / 10) (by omega)
  repeat' first | refine go_seq ?_ | refine go_region ?_ | refine go_draw drawsOk ?_ | ((first | refine go_op rfl ?_ | refine go_nil ?_ | refine go_dop rfl ?_ | refine go_dend (by kernel_rfl) ?_ | refine go_sliceR (l := digs) (n / 10) (n / 10 + 1) _ rfl rfl (by show some _ = _; rw [hq]) (by show some _ = _; rw [hq1]) (by omega) (by show n / 10 + 1 ≤ 10; omega) hd2 ?_ | refine go_sliceR (l := digs) (n % 10) (n % 10 + 1) _ rfl rfl (by show some _ = _; rw [hr]) (by show some _ = _; rw [hr1]) (by omega) (by show n % 10 + 1 ≤ 10; omega) hd ?_ | refine ⟨ten_ne, ?_⟩ | refine ⟨by simp only [ofL_size, List.length_cons, List.length_nil]; omega, ?_⟩) <;> conv => whnf) | ((first | refine ⟨by kernel_rfl, ?_⟩ | refine go_ret ?_) <;> conv => whnf) | ((first | refine go_skip ?_) <;> conv => whnf) | refine ⟨rfl, ?_⟩ | ((first | refine ⟨trivial, ?_⟩ | refine ⟨le_of_ble rfl, ?_⟩) <;> conv => whnf) | fail
  all_goals exact ret_imm rfl rfl rfl rfl (congrArg D.str (ofL_app _ _)) rfl

theorem c32 (t : Nat) (ht : t < 6000) : CallOk Tryz.prog 32 [.imm (.int .i64 (t : Nat))] { res := [.imm (.str (ofL (clockL t)))] } := by
  refine callOk_of tyOk Tryz.func32 rfl rfl (le_of_ble rfl) (le_of_ble rfl) (mutOk_imm rfl _) ?_
  have hq : IntKind.i64.wrap ((t : Int).tdiv 60) = ((t / 60 : Nat) : Int) := by
    rw [Int.tdiv_eq_ediv_of_nonneg (by omega), wrap_small (by omega) (by omega)]; omega
  have hr : (t : Int).tmod 60 = ((t % 60 : Nat) : Int) := by
    rw [Int.tmod_eq_emod_of_nonneg (by omega)]; omega
  have c1 : CallOk Tryz.prog 54 [.imm (.int .i64 (IntKind.i64.wrap ((t : Int).tdiv 60)))] { res := [.imm (.str (ofL (twoL (t / 60))))] } := by rw [hq]; exact c54 _ (by omega)
  have c2 : CallOk Tryz.prog 54 [.imm (.int .i64 ((t : Int).tmod 60))] { res := [.imm (.str (ofL (twoL (t % 60))))] } := by rw [hr]; exact c54 _ (by omega)
  repeat' first | refine go_seq ?_ | refine go_region ?_ | ((first | refine go_op rfl ?_ | refine go_nil ?_ | refine go_call [] (c1) rfl rfl rfl rfl ?_ | refine go_call [] (c2) rfl rfl rfl rfl ?_ | refine ⟨sixty_ne, ?_⟩ | refine ⟨by simp only [ByteArray.size_append, ofL_size, szLit, twoL, List.length_cons, List.length_nil]; omega, ?_⟩) <;> conv => whnf) | ((first | refine ⟨by kernel_rfl, ?_⟩ | refine go_ret ?_) <;> conv => whnf) | ((first | refine go_skip ?_) <;> conv => whnf) | refine ⟨rfl, ?_⟩ | ((first | refine ⟨trivial, ?_⟩ | refine ⟨le_of_ble rfl, ?_⟩) <;> conv => whnf) | fail
  all_goals exact ret_imm rfl rfl rfl rfl (by unfold clockL; rw [← ofL_app, ← ofL_app]; rfl) rfl

theorem c66 (t : Nat) (ht : t < 6000) : CallOk Tryz.prog 66 [.imm (.int .i64 (t : Nat))] { res := [.imm (.str (ofL (clockL t)))] } := by
  refine callOk_of tyOk Tryz.func66 rfl rfl (le_of_ble rfl) (le_of_ble rfl) (mutOk_imm rfl _) ?_
  have hq : IntKind.i64.wrap ((t : Int).tdiv 60) = ((t / 60 : Nat) : Int) := by
    rw [Int.tdiv_eq_ediv_of_nonneg (by omega), wrap_small (by omega) (by omega)]; omega
  have hr : (t : Int).tmod 60 = ((t % 60 : Nat) : Int) := by
    rw [Int.tmod_eq_emod_of_nonneg (by omega)]; omega
  have c1 : CallOk Tryz.prog 85 [.imm (.int .i64 (IntKind.i64.wrap ((t : Int).tdiv 60)))] { res := [.imm (.str (ofL (twoL (t / 60))))] } := by rw [hq]; exact c85 _ (by omega)
  have c2 : CallOk Tryz.prog 85 [.imm (.int .i64 ((t : Int).tmod 60))] { res := [.imm (.str (ofL (twoL (t % 60))))] } := by rw [hr]; exact c85 _ (by omega)
  repeat' first | refine go_seq ?_ | refine go_region ?_ | ((first | refine go_op rfl ?_ | refine go_nil ?_ | refine go_call [] (c1) rfl rfl rfl rfl ?_ | refine go_call [] (c2) rfl rfl rfl rfl ?_ | refine ⟨sixty_ne, ?_⟩ | refine ⟨by simp only [ByteArray.size_append, ofL_size, szLit, twoL, List.length_cons, List.length_nil]; omega, ?_⟩) <;> conv => whnf) | ((first | refine ⟨by kernel_rfl, ?_⟩ | refine go_ret ?_) <;> conv => whnf) | ((first | refine go_skip ?_) <;> conv => whnf) | refine ⟨rfl, ?_⟩ | ((first | refine ⟨trivial, ?_⟩ | refine ⟨le_of_ble rfl, ?_⟩) <;> conv => whnf) | fail
  all_goals exact ret_imm rfl rfl rfl rfl (by unfold clockL; rw [← ofL_app, ← ofL_app]; rfl) rfl
end Go.Proofs.YtkfdhhljjeihgaaGreatDoor

