/- The walks of numbers as texts (out of r14/KD). -/
import Derived.Test.YtekilollacmajaaGreatDoorB1
import Derived.Test.YtekilollacmajaaGreatDoorAmD
import Derived.Test.YtekilollacmajaaGreatDoorSh
import Derived.Test.YtekilollacmajaaGreatDoorLgP
namespace Go.Proofs.YtekilollacmajaaGreatDoor
open Go Go.Am
set_option maxRecDepth 100000
set_option maxHeartbeats 4000000
attribute [local irreducible] amOps amC opCall opIndexAddr opPick retQ opMake opStore amDraw opAppend opLoad opNilCmp opIndex opSlice

def numT (n : Nat) : List UInt8 := Lg.num n
theorem ten_ne : (10 : Int) ≠ 0 := by omega

theorem c42 (n : Nat) (h : n ≤ 4611686018427387903) : CallOk Tryz.prog 42 [.imm (.int .i64 (n : Int))] { res := [.imm (.str (ofL (numT n)))] } := by
  have hc := callOk_itoa laysM171 ⟨_, Tryz.func42, rfl, rfl⟩ (g := 0) (by kernel_rfl) (List.mem_singleton.2 rfl) (n : Int) (by omega) (by omega)
  rw [Lib.itoa_nonneg] at hc
  exact hc

def digs : List UInt8 := [48, 49, 50, 51, 52, 53, 54, 55, 56, 57]
theorem digs_at : ∀ n, n < 10 → (digs.drop n).take (n + 1 - n) = [UInt8.ofNat (48 + n)] := by decide
theorem szLit (l : List UInt8) : (ByteArray.mk (List.toArray l)).size = l.length := rfl

theorem c35 (n : Nat) : n ≤ 4611686018427387903 → CallOk Tryz.prog 35 [.imm (.int .i64 (n : Int))] { res := [.imm (.str (ofL (numT n)))] } := by
  induction n using Nat.strongRecOn with
  | ind n ih =>
    intro hn
    refine callOk_of tyOk Tryz.func35 rfl rfl (le_of_ble rfl) (le_of_ble rfl) (mutOk_imm rfl _) ?_
    by_cases h10 : n < 10
    · have hw1 : IntKind.i64.wrap ((n : Int) + 1) = ((n + 1 : Nat) : Int) := by rw [wrap_small (by omega) (by omega)]; omega
      have hr : numT n = (digs.drop n).take (n + 1 - n) := by unfold numT; rw [digs_at n h10, Lg.num_eq, if_pos h10]
      repeat' first | refine go_seq ?_ | refine go_region ?_ | refine go_draw drawsOk ?_ | ((first | refine go_op rfl ?_ | refine go_nil ?_ | refine go_dop rfl ?_ | refine go_dend (by kernel_rfl) ?_ | refine go_sliceL (l := digs) n (n + 1) rfl rfl rfl (by show some _ = _; rw [hw1]) (by omega) (by show n + 1 ≤ 10; omega) ?_) <;> conv => whnf) | ((first | refine ⟨by kernel_rfl, ?_⟩ | refine go_ret ?_) <;> conv => whnf) | ((first | refine go_skip ?_) <;> conv => whnf) | refine go_true rfl ?_ | refine go_false rfl ?_ | refine go_cond rfl (fun h => ?_) (fun h => ?_) | refine ⟨rfl, ?_⟩ | ((first | refine ⟨trivial, ?_⟩ | refine ⟨le_of_ble rfl, ?_⟩) <;> conv => whnf) | fail
      all_goals first
        | (exfalso; simp at h; omega)
        | exact ret_imm rfl rfl rfl rfl (by rw [hr]) rfl
        | trace_state
    · have hq : IntKind.i64.wrap ((n : Int).tdiv 10) = ((n / 10 : Nat) : Int) := by
        rw [Int.tdiv_eq_ediv_of_nonneg (by omega), wrap_small (by omega) (by omega)]; omega
      have hr : (n : Int).tmod 10 = ((n % 10 : Nat) : Int) := by
        rw [Int.tmod_eq_emod_of_nonneg (by omega)]; omega
      have hr1 : IntKind.i64.wrap ((n : Int).tmod 10 + 1) = ((n % 10 + 1 : Nat) : Int) := by rw [hr, wrap_small (by omega) (by omega)]; omega
      have hc : CallOk Tryz.prog 35 [.imm (.int .i64 (IntKind.i64.wrap ((n : Int).tdiv 10)))] { res := [.imm (.str (ofL (numT (n / 10))))] } := by
        rw [hq]; exact ih (n / 10) (by omega) (by omega)
      have hd := digs_at (n % 10) (by omega)
      have hlen := Lg.num_len 18 (n / 10) (by omega)
      have hs : (ofL (numT (n / 10))).size + (ofL ((digs.drop (n % 10)).take (n % 10 + 1 - n % 10))).size ≤ 4611686018427387904 := by
        rw [hd]
        show (Lg.num (n / 10)).length + 1 ≤ _
        omega
      have he : ofL (numT (n / 10)) ++ ofL ((digs.drop (n % 10)).take (n % 10 + 1 - n % 10)) = ofL (numT n) := by
        unfold numT; rw [ofL_app, hd, Lg.num_eq n, if_neg h10]
      repeat' first | refine go_seq ?_ | refine go_region ?_ | refine go_draw drawsOk ?_ | ((first | refine go_op rfl ?_ | refine go_nil ?_ | refine go_dop rfl ?_ | refine go_dend (by kernel_rfl) ?_ | refine go_call [] (hc) rfl rfl rfl rfl ?_ | refine go_sliceL (l := digs) (n % 10) (n % 10 + 1) rfl rfl (by show some _ = _; rw [hr]) (by show some _ = _; rw [hr1]) (by omega) (by show n % 10 + 1 ≤ 10; omega) ?_ | refine ⟨ten_ne, ?_⟩ | refine ⟨hs, ?_⟩) <;> conv => whnf) | ((first | refine ⟨by kernel_rfl, ?_⟩ | refine go_ret ?_) <;> conv => whnf) | ((first | refine go_skip ?_) <;> conv => whnf) | refine go_true rfl ?_ | refine go_false rfl ?_ | refine go_cond rfl (fun h => ?_) (fun h => ?_) | refine ⟨rfl, ?_⟩ | ((first | refine ⟨trivial, ?_⟩ | refine ⟨le_of_ble rfl, ?_⟩) <;> conv => whnf) | fail
      all_goals first
        | (exfalso; simp at h; omega)
        | exact ret_imm rfl rfl rfl rfl (by rw [he]) rfl
        | trace_state

end Go.Proofs.YtekilollacmajaaGreatDoor

