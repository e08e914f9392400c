/- The walks of numbers as texts, checksums, encodings of records. -/
import Derived.Test.YtnndgejlkljlaaaDoorG3
import Derived.Test.YtnndgejlkljlaaaDoorAmD
namespace Go.Proofs.YtnndgejlkljlaaaDoor
open Go Go.Am Go.Lg
set_option maxRecDepth 100000
set_option maxHeartbeats 4000000
attribute [local irreducible] amOps amC opCall opIndexAddr opPick retQ opMake opStore amDraw opAppend opLoad opNilCmp opIndex opSlice

def sumI (l : List UInt8) (i : Nat) : Nat := (l.take i).foldl Lg.step 7
theorem sumI_lt (l : List UInt8) (i : Nat) : sumI l i < 999979 := fold_lt _ 7 (by omega)
theorem sumI_next {l : List UInt8} {i : Nat} {b : UInt8} (hx : l[i]? = some b) : sumI l (i + 1) = Lg.step (sumI l i) b := by
  unfold sumI
  rw [List.take_add_one, hx]
  simp [List.foldl_append]
theorem sumI_end {l : List UInt8} {i : Nat} (h : l.length ≤ i) : sumI l i = sum l := by
  unfold sumI sum
  rw [List.take_of_length_le h]
theorem stepW (h : Nat) (b : UInt8) (hh : h < 999979) :
    (IntKind.i64.wrap (IntKind.i64.wrap (IntKind.i64.wrap (41 * (h : Int)) + IntKind.i64.wrap (b.toNat : Int)) + 1)).tmod 999979 = ((Lg.step h b : Nat) : Int) := by
  have hb := b.toNat_lt
  rw [wrap_small (n := 41 * (h : Int)) (by omega) (by omega), wrap_small (n := (b.toNat : Int)) (by omega) (by omega), wrap_small (n := 41 * (h : Int) + b.toNat) (by omega) (by omega),
    wrap_small (n := 41 * (h : Int) + b.toNat + 1) (by omega) (by omega), Int.tmod_eq_emod_of_nonneg (by omega)]
  unfold Lg.step
  omega
theorem mod_ne : (999979 : Int) ≠ 0 := by omega
theorem ten_ne : (10 : Int) ≠ 0 := by omega

theorem c34 (l : List UInt8) (hl : l.length ≤ 4611686018427387903) : CallOk Tryd.prog 34 [.imm (.str (ofL l))] { res := [.imm (.int .i64 (sum l : Nat))] } := by
  refine callOk_of tyOk Tryd.func34 rfl rfl (le_of_ble rfl) (le_of_ble rfl) (mutOk_imm rfl _) ?_
  have hsz := ofL_size l
  repeat' first | refine go_seq ?_ | refine go_region ?_ | ((first | refine go_op rfl ?_ | refine go_nil ?_) <;> conv => whnf) | ((first | refine ⟨by kernel_rfl, ?_⟩ | refine go_ret ?_) <;> conv => whnf) | refine go_block ?_ | ((first | refine go_skip ?_ | refine go_exit ?_) <;> conv => whnf) | refine go_true rfl ?_ | refine go_false rfl ?_ | refine go_cond rfl (fun h => ?_) (fun h => ?_) | refine ⟨rfl, ?_⟩ | ((first | refine ⟨trivial, ?_⟩ | refine ⟨le_of_ble rfl, ?_⟩) <;> conv => whnf) | fail
  refine go_loop (α := Nat) (fun i => i ≤ l.length) (fun i => l.length - i) (fun i => st Tryd.f34.ntmps [(0, .imm (.str (ofL l))), (3, .imm (.int .i64 (sumI l i : Nat))), (6, .imm (.int .i64 (ofL l).size)), (7, .imm (.int .i64 (i : Nat)))] [] []) 0
    (Nat.zero_le _) (ref_st0 rfl ⟨rfl, rfl, rfl, rfl, trivial⟩ rfl) ?_
  intro i hi
  cases hx : l[i]? with
  | none =>
    have hge := le_of_at hx
    repeat' first | refine go_seq ?_ | refine go_region ?_ | ((first | refine go_op rfl ?_ | refine go_nil ?_) <;> conv => whnf) | ((first | refine ⟨by kernel_rfl, ?_⟩ | refine go_ret ?_) <;> conv => whnf) | refine go_block ?_ | ((first | refine go_skip ?_ | refine go_exit ?_) <;> conv => whnf) | refine go_true rfl ?_ | refine go_false rfl ?_ | refine go_cond rfl (fun h => ?_) (fun h => ?_) | refine ⟨rfl, ?_⟩ | ((first | refine ⟨trivial, ?_⟩ | refine ⟨le_of_ble rfl, ?_⟩) <;> conv => whnf) | fail
    all_goals first
      | (exfalso; simp at h; omega)
      | exact ret_imm rfl rfl rfl rfl (by rw [sumI_end hge]) rfl
      | trace_state
  | some b =>
    have hlt := lt_of_at hx
    have hb := byteL hx
    repeat' first | refine go_seq ?_ | refine go_region ?_ | ((first | refine go_op rfl ?_ | refine go_nil ?_ | refine go_idxStr rfl rfl rfl (by omega) hb ?_ | refine ⟨mod_ne, ?_⟩) <;> conv => whnf) | ((first | refine ⟨by kernel_rfl, ?_⟩ | refine go_ret ?_) <;> conv => whnf) | refine go_block ?_ | ((first | refine go_skip ?_ | refine go_exit ?_) <;> conv => whnf) | refine go_true rfl ?_ | refine go_false rfl ?_ | refine go_cond rfl (fun h => ?_) (fun h => ?_) | refine ⟨rfl, ?_⟩ | ((first | refine ⟨trivial, ?_⟩ | refine ⟨le_of_ble rfl, ?_⟩) <;> conv => whnf) | fail
    all_goals first
      | (exfalso; simp at h; omega)
      | (exact go_next (i + 1) (by omega) (by omega) (ref_st0 rfl ⟨rfl, congrArg (fun z => AV.imm (D.int .i64 z)) ((stepW _ b (sumI_lt l i)).trans (by rw [sumI_next hx])), rfl, next_i (by omega), trivial⟩ rfl))
      | trace_state

theorem c31 (l : List UInt8) (hl : l.length ≤ 4611686018427387903) : CallOk Tryd.prog 31 [.imm (.str (ofL l))] { res := [.imm (.int .i64 (sum l : Nat))] } := by
  refine callOk_of tyOk Tryd.func31 rfl rfl (le_of_ble rfl) (le_of_ble rfl) (mutOk_imm rfl _) ?_
  have hsz := ofL_size l
  repeat' first | refine go_seq ?_ | refine go_region ?_ | ((first | refine go_op rfl ?_ | refine go_nil ?_) <;> conv => whnf) | ((first | refine ⟨by kernel_rfl, ?_⟩ | refine go_ret ?_) <;> conv => whnf) | refine go_block ?_ | ((first | refine go_skip ?_ | refine go_exit ?_) <;> conv => whnf) | refine go_true rfl ?_ | refine go_false rfl ?_ | refine go_cond rfl (fun h => ?_) (fun h => ?_) | refine ⟨rfl, ?_⟩ | ((first | refine ⟨trivial, ?_⟩ | refine ⟨le_of_ble rfl, ?_⟩) <;> conv => whnf) | fail
  refine go_loop (α := Nat) (fun i => i ≤ l.length) (fun i => l.length - i) (fun i => st Tryd.f31.ntmps [(0, .imm (.str (ofL l))), (3, .imm (.int .i64 (sumI l i : Nat))), (4, .imm (.int .i64 (i : Nat)))] [] []) 0
    (Nat.zero_le _) (ref_st0 rfl ⟨rfl, rfl, rfl, trivial⟩ rfl) ?_
  intro i hi
  cases hx : l[i]? with
  | none =>
    have hge := le_of_at hx
    repeat' first | refine go_seq ?_ | refine go_region ?_ | ((first | refine go_op rfl ?_ | refine go_nil ?_) <;> conv => whnf) | ((first | refine ⟨by kernel_rfl, ?_⟩ | refine go_ret ?_) <;> conv => whnf) | refine go_block ?_ | ((first | refine go_skip ?_ | refine go_exit ?_) <;> conv => whnf) | refine go_true rfl ?_ | refine go_false rfl ?_ | refine go_cond rfl (fun h => ?_) (fun h => ?_) | refine ⟨rfl, ?_⟩ | ((first | refine ⟨trivial, ?_⟩ | refine ⟨le_of_ble rfl, ?_⟩) <;> conv => whnf) | fail
    all_goals first
      | (exfalso; simp at h; omega)
      | exact ret_imm rfl rfl rfl rfl (by rw [sumI_end hge]) rfl
      | trace_state
  | some b =>
    have hlt := lt_of_at hx
    have hb := byteL hx
    repeat' first | refine go_seq ?_ | refine go_region ?_ | ((first | refine go_op rfl ?_ | refine go_nil ?_ | refine go_idxStr rfl rfl rfl (by omega) hb ?_ | refine ⟨mod_ne, ?_⟩) <;> conv => whnf) | ((first | refine ⟨by kernel_rfl, ?_⟩ | refine go_ret ?_) <;> conv => whnf) | refine go_block ?_ | ((first | refine go_skip ?_ | refine go_exit ?_) <;> conv => whnf) | refine go_true rfl ?_ | refine go_false rfl ?_ | refine go_cond rfl (fun h => ?_) (fun h => ?_) | refine ⟨rfl, ?_⟩ | ((first | refine ⟨trivial, ?_⟩ | refine ⟨le_of_ble rfl, ?_⟩) <;> conv => whnf) | fail
    all_goals first
      | (exfalso; simp at h; omega)
      | (exact go_next (i + 1) (by omega) (by omega) (ref_st0 rfl ⟨rfl, congrArg (fun z => AV.imm (D.int .i64 z)) ((stepW _ b (sumI_lt l i)).trans (by rw [sumI_next hx])), next_i (by omega), trivial⟩ rfl))
      | trace_state

theorem c30 (n : Nat) (h : n ≤ 4611686018427387903) : CallOk Tryd.prog 30 [.imm (.int .i64 (n : Int))] { res := [.imm (.str (ofL (num n)))] } := by
  have hc := callOk_itoa laysM171 ⟨_, Tryd.func30, rfl, rfl⟩ (g := 1) (by kernel_rfl) (List.mem_singleton.2 rfl) (n : Int) (by omega) (by omega)
  rw [Lib.itoa_nonneg] at hc
  exact hc

def digs : List UInt8 := [48, 49, 50, 51, 52, 53, 54, 55, 56, 57]
theorem digs_at : ∀ n, n < 10 → (digs.drop n).take (n + 1 - n) = [UInt8.ofNat (48 + n)] := by decide

theorem c17 (n : Nat) : n ≤ 4611686018427387903 → CallOk Tryd.prog 17 [.imm (.int .i64 (n : Int))] { res := [.imm (.str (ofL (num n)))] } := by
  induction n using Nat.strongRecOn with
  | ind n ih =>
    intro hn
    refine callOk_of tyOk Tryd.func17 rfl rfl (le_of_ble rfl) (le_of_ble rfl) (mutOk_imm rfl _) ?_
    by_cases h10 : n < 10
    · have hw1 : IntKind.i64.wrap ((n : Int) + 1) = ((n + 1 : Nat) : Int) := by rw [wrap_small (by omega) (by omega)]; omega
      have hr : num n = (digs.drop n).take (n + 1 - n) := by rw [digs_at n h10, num_eq, if_pos h10]
      repeat' first | refine go_seq ?_ | refine go_region ?_ | refine go_draw drawsOk ?_ | ((first | refine go_op rfl ?_ | refine go_nil ?_ | refine go_dop rfl ?_ | refine go_dend (by kernel_rfl) ?_ | refine go_sliceL (l := digs) n (n + 1) rfl rfl rfl (by show some _ = _; rw [hw1]) (by omega) (by show n + 1 ≤ 10; omega) ?_) <;> conv => whnf) | ((first | refine ⟨by kernel_rfl, ?_⟩ | refine go_ret ?_) <;> conv => whnf) | ((first | refine go_skip ?_) <;> conv => whnf) | refine go_true rfl ?_ | refine go_false rfl ?_ | refine go_cond rfl (fun h => ?_) (fun h => ?_) | refine ⟨rfl, ?_⟩ | ((first | refine ⟨trivial, ?_⟩ | refine ⟨le_of_ble rfl, ?_⟩) <;> conv => whnf) | fail
      all_goals first
        | (exfalso; simp at h; omega)
        | exact ret_imm rfl rfl rfl rfl (by rw [hr]) rfl
        | trace_state
    · have hq : IntKind.i64.wrap ((n : Int).tdiv 10) = ((n / 10 : Nat) : Int) := by
        rw [Int.tdiv_eq_ediv_of_nonneg (by omega), wrap_small (by omega) (by omega)]; omega
      have hr : (n : Int).tmod 10 = ((n % 10 : Nat) : Int) := by
        rw [Int.tmod_eq_emod_of_nonneg (by omega)]; omega
      have hr1 : IntKind.i64.wrap ((n : Int).tmod 10 + 1) = ((n % 10 + 1 : Nat) : Int) := by rw [hr, wrap_small (by omega) (by omega)]; omega
      have hc : CallOk Tryd.prog 17 [.imm (.int .i64 (IntKind.i64.wrap ((n : Int).tdiv 10)))] { res := [.imm (.str (ofL (num (n / 10))))] } := by
        rw [hq]; exact ih (n / 10) (by omega) (by omega)
      have hd := digs_at (n % 10) (by omega)
      have hlen := num_len 18 (n / 10) (by omega)
      have hs : (ofL (num (n / 10))).size + (ofL ((digs.drop (n % 10)).take (n % 10 + 1 - n % 10))).size ≤ 4611686018427387904 := by
        rw [hd]
        show (num (n / 10)).length + 1 ≤ _
        omega
      have he : ofL (num (n / 10)) ++ ofL ((digs.drop (n % 10)).take (n % 10 + 1 - n % 10)) = ofL (num n) := by
        rw [ofL_app, hd, num_eq n, if_neg h10]
      repeat' first | refine go_seq ?_ | refine go_region ?_ | refine go_draw drawsOk ?_ | ((first | refine go_op rfl ?_ | refine go_nil ?_ | refine go_dop rfl ?_ | refine go_dend (by kernel_rfl) ?_ | refine go_call [] (hc) rfl rfl rfl rfl ?_ | refine go_sliceL (l := digs) (n % 10) (n % 10 + 1) rfl rfl (by show some _ = _; rw [hr]) (by show some _ = _; rw [hr1]) (by omega) (by show n % 10 + 1 ≤ 10; omega) ?_ | refine ⟨ten_ne, ?_⟩ | refine ⟨hs, ?_⟩) <;> conv => whnf) | ((first | refine ⟨by kernel_rfl, ?_⟩ | refine go_ret ?_) <;> conv => whnf) | ((first | refine go_skip ?_) <;> conv => whnf) | refine go_true rfl ?_ | refine go_false rfl ?_ | refine go_cond rfl (fun h => ?_) (fun h => ?_) | refine ⟨rfl, ?_⟩ | ((first | refine ⟨trivial, ?_⟩ | refine ⟨le_of_ble rfl, ?_⟩) <;> conv => whnf) | fail
      all_goals first
        | (exfalso; simp at h; omega)
        | exact ret_imm rfl rfl rfl rfl (by rw [he]) rfl
        | trace_state
end Go.Proofs.YtnndgejlkljlaaaDoor

