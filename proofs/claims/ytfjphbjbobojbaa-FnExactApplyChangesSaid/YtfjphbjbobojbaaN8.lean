/- Marks of trips, texts and numbers. MADE BY PROGRAM (marks.sh). -/
import Derived.Test.YtfjphbjbobojbaaN7
namespace Go.Proofs.Ytfjphbjbobojbaa
open Go Go.Am
set_option maxRecDepth 100000
set_option maxHeartbeats 4000000
attribute [local irreducible] amOps amC opCall opIndexAddr opPick retQ opMake opStore amDraw opAppend opLoad opNilCmp opIndex opSlice

def markIntX (k : Int) (j : Nat) : Int := kAt k (1 * j)
def marksIntX (k : Int) (n : Nat) : List Int := (List.range n).map (markIntX k)
theorem marksIntX_len (k : Int) (n : Nat) : ((marksIntX k n).map intRow).length = n := by simp [marksIntX]
theorem marksIntX_at (k : Int) {n i : Nat} (h : i < n) : ((marksIntX k n).map intRow)[i]? = some (intRow (markIntX k i)) := by simp [marksIntX, h]

theorem c83 (xs : List Int) (k : Int) (_ : 0 ≤ k) (_ : k ≤ 576460752303423488) (hl : xs.length ≤ 1048576) : CallOk Try.prog 83 [.arr 3 1 (xs.map intRow), .imm (.int .i64 k)]
    { res := [.imm (.int .i64 (kAt k (1 * xs.length)))], muts := [.arr 3 1 ((marksIntX k xs.length).map intRow)] } := by
  refine callOk_of tyOk Try.func83 rfl rfl (le_of_ble rfl) (le_of_ble rfl) (mutOk_arr0 rfl (by simp [marksIntX])) ?_
  have hyl : ((marksIntX k xs.length).map intRow).length = (xs.map intRow).length := by simp [marksIntX]
  repeat' first | refine go_seq ?_ | refine go_region ?_ | ((first | refine go_op rfl ?_ | refine go_nil ?_ | refine go_storeBox rfl rfl rfl rfl rfl rfl ?_) <;> conv => whnf) | ((first | refine ⟨by kernel_rfl, ?_⟩ | refine go_ret ?_) <;> conv => whnf) | refine go_block ?_ | ((first | refine go_skip ?_ | refine go_exit ?_) <;> conv => whnf) | refine go_true rfl ?_ | refine go_false rfl ?_ | refine go_cond rfl (fun h => ?_) (fun h => ?_) | refine ⟨rfl, ?_⟩ | ((first | refine ⟨trivial, ?_⟩ | refine ⟨le_of_ble rfl, ?_⟩) <;> conv => whnf) | fail
  refine go_loop (α := Nat) (fun i => i ≤ xs.length) (fun i => xs.length - i)
    (fun i => st Try.f83.ntmps [(0, .own 1000 0 (xs.map intRow).length), (1, .imm (.int .i64 (kAt k (1 * i)))), (5, .imm (.int .i64 (i : Nat)))]
      [(1000, .arr 3 1 (upto ((marksIntX k xs.length).map intRow) (xs.map intRow) i))] [1000]) 0 (Nat.zero_le _) ?_ ?_
  · refine ref_st (fun _ => 0) rfl ⟨⟨rfl, rfl⟩, rfl, rfl, trivial⟩ ⟨?_, trivial⟩ (by simp) rfl (by simp [lookM])
    rw [upto_0]; rfl
  · intro i hi
    cases hx : xs[i]? with
    | none =>
      have hge := le_of_at hx
      have hie : i = xs.length := by omega
      rw [upto_end hyl (by simp; omega), hie]
      repeat' first | refine go_seq ?_ | refine go_region ?_ | ((first | refine go_op rfl ?_ | refine go_nil ?_ | refine go_storeBox rfl rfl rfl rfl rfl rfl ?_) <;> conv => whnf) | ((first | refine ⟨by kernel_rfl, ?_⟩ | refine go_ret ?_) <;> conv => whnf) | refine go_block ?_ | ((first | refine go_skip ?_ | refine go_exit ?_) <;> conv => whnf) | refine go_true rfl ?_ | refine go_false rfl ?_ | refine go_cond rfl (fun h => ?_) (fun h => ?_) | refine ⟨rfl, ?_⟩ | ((first | refine ⟨trivial, ?_⟩ | refine ⟨le_of_ble rfl, ?_⟩) <;> conv => whnf) | fail
      · exfalso; simp at *
      · exact ret_mut0 rfl rfl rfl rfl rfl rfl rfl (int_gr _)
    | some v =>
      have hlt := lt_of_at hx
      have hrow : (xs.map intRow)[i]? = some (intRow v) := by simp [hx]
      have hat := upto_at hyl hrow
      have hset := upto_set (y := (intRow (markIntX k i))) hyl hrow (marksIntX_at k hlt)
      have hil : i < (upto ((marksIntX k xs.length).map intRow) (xs.map intRow) i).length := by rw [upto_len hyl]; simpa using hlt
      repeat' first | refine go_seq ?_ | refine go_region ?_ | ((first | refine go_op rfl ?_ | refine go_nil ?_ | refine go_storeBox rfl rfl rfl rfl rfl rfl ?_ | refine go_idxOwn rfl rfl rfl rfl rfl rfl (by simp; omega) ?_ | refine go_storeEl rfl rfl rfl rfl hat rfl rfl rfl ?_ | refine go_storeEl rfl rfl rfl rfl (set_at hil) rfl rfl (List.set_set _) ?_) <;> conv => whnf) | ((first | refine ⟨by kernel_rfl, ?_⟩ | refine go_ret ?_) <;> conv => whnf) | refine go_block ?_ | ((first | refine go_skip ?_ | refine go_exit ?_) <;> conv => whnf) | refine go_true rfl ?_ | refine go_false rfl ?_ | refine go_cond rfl (fun h => ?_) (fun h => ?_) | refine ⟨rfl, ?_⟩ | ((first | refine ⟨trivial, ?_⟩ | refine ⟨le_of_ble rfl, ?_⟩) <;> conv => whnf) | fail
      · refine go_next (i + 1) (by omega) (by omega) (ref_st id rfl ⟨⟨rfl, rfl⟩, rfl, next_i (by omega), trivial⟩ ⟨?_, trivial⟩ (by simp) rfl (by simp [lookM]))
        rw [← hset]; rfl
      · exfalso; simp at *; omega

theorem c84 (k : Int) (n : Nat) (_ : 0 ≤ k) (_ : k ≤ 576460752303423488) (hl : n ≤ 1048576) : CallOk Try.prog 84 [.imm (.list ((marksIntX k n).map intRow)), .imm (.int .i64 k)] { res := [.imm (.int .i64 (kAt k (1 * n)))] } := by
  refine callOk_of tyOk Try.func84 rfl rfl (le_of_ble rfl) (le_of_ble rfl) (mutOk_imm rfl _) ?_
  repeat' first | refine go_seq ?_ | refine go_region ?_ | ((first | refine go_op rfl ?_ | refine go_nil ?_) <;> conv => whnf) | ((first | refine go_loadB ?_ | refine ⟨by kernel_rfl, ?_⟩ | refine go_ret ?_) <;> conv => whnf) | refine go_block ?_ | ((first | refine go_skip ?_ | refine go_exit ?_) <;> conv => whnf) | refine go_true rfl ?_ | refine go_false rfl ?_ | refine go_cond rfl (fun h => ?_) (fun h => ?_) | refine ⟨rfl, ?_⟩ | ((first | refine ⟨trivial, ?_⟩ | refine ⟨le_of_ble rfl, ?_⟩) <;> conv => whnf) | fail
  refine go_loop (α := Nat) (fun i => i ≤ n) (fun i => n - i)
    (fun i => st Try.f84.ntmps [(0, .imm (.list ((marksIntX k n).map intRow))), (1, .imm (.int .i64 (kAt k (1 * i)))), (5, .imm (.int .i64 (i : Nat)))] [] []) 0 (Nat.zero_le _) (ref_st0 rfl ⟨rfl, rfl, rfl, trivial⟩ rfl) ?_
  intro i hi
  by_cases hlt : i < n
  · have hr : ((marksIntX k n).map intRow)[((i : Nat) : Int).toNat]? = some (intRow (markIntX k i)) := marksIntX_at k hlt
    repeat' first | refine go_seq ?_ | refine go_region ?_ | ((first | refine go_op rfl ?_ | refine go_nil ?_ | refine go_idx rfl rfl rfl rfl (by omega) (by assumption) rfl ?_) <;> conv => whnf) | ((first | refine go_loadB ?_ | refine ⟨by kernel_rfl, ?_⟩ | refine go_ret ?_) <;> conv => whnf) | refine go_block ?_ | ((first | refine go_skip ?_ | refine go_exit ?_) <;> conv => whnf) | refine go_true rfl ?_ | refine go_false rfl ?_ | refine go_cond rfl (fun h => ?_) (fun h => ?_) | refine ⟨rfl, ?_⟩ | ((first | refine ⟨trivial, ?_⟩ | refine ⟨le_of_ble rfl, ?_⟩) <;> conv => whnf) | fail
    all_goals first
      | (exfalso; simp [markIntX] at h; done)
      | (refine go_next (i + 1) (by omega) (by omega) (ref_st0 rfl ⟨rfl, rfl, next_i (by omega), trivial⟩ rfl); done)
      | (exfalso; rw [marksIntX_len] at h; simp at h; omega)
  · have hie : i = n := by omega
    subst hie
    repeat' first | refine go_seq ?_ | refine go_region ?_ | ((first | refine go_op rfl ?_ | refine go_nil ?_) <;> conv => whnf) | ((first | refine go_loadB ?_ | refine ⟨by kernel_rfl, ?_⟩ | refine go_ret ?_) <;> conv => whnf) | refine go_block ?_ | ((first | refine go_skip ?_ | refine go_exit ?_) <;> conv => whnf) | refine go_true rfl ?_ | refine go_false rfl ?_ | refine go_cond rfl (fun h => ?_) (fun h => ?_) | refine ⟨rfl, ?_⟩ | ((first | refine ⟨trivial, ?_⟩ | refine ⟨le_of_ble rfl, ?_⟩) <;> conv => whnf) | fail
    · exfalso; rw [marksIntX_len] at h; simp at h
    · exact ret_imm rfl rfl rfl rfl rfl rfl

def markStrX (k : Int) (j : Nat) : ByteArray := mText (kAt k (1 * j))
def marksStrX (k : Int) (n : Nat) : List ByteArray := (List.range n).map (markStrX k)
theorem marksStrX_len (k : Int) (n : Nat) : ((marksStrX k n).map strRow).length = n := by simp [marksStrX]
theorem marksStrX_at (k : Int) {n i : Nat} (h : i < n) : ((marksStrX k n).map strRow)[i]? = some (strRow (markStrX k i)) := by simp [marksStrX, h]

theorem c55 (xs : List ByteArray) (k : Int) (hk0 : 0 ≤ k) (hk1 : k ≤ 576460752303423488) (hl : xs.length ≤ 1048576) : CallOk Try.prog 55 [.arr 9 1 (xs.map strRow), .imm (.int .i64 k)]
    { res := [.imm (.int .i64 (kAt k (1 * xs.length)))], muts := [.arr 9 1 ((marksStrX k xs.length).map strRow)] } := by
  refine callOk_of tyOk Try.func55 rfl rfl (le_of_ble rfl) (le_of_ble rfl) (mutOk_arr0 rfl (by simp [marksStrX])) ?_
  have hyl : ((marksStrX k xs.length).map strRow).length = (xs.map strRow).length := by simp [marksStrX]
  repeat' first | refine go_seq ?_ | refine go_region ?_ | ((first | refine go_op rfl ?_ | refine go_nil ?_ | refine go_storeBox rfl rfl rfl rfl rfl rfl ?_) <;> conv => whnf) | ((first | refine ⟨by kernel_rfl, ?_⟩ | refine go_ret ?_) <;> conv => whnf) | refine go_block ?_ | ((first | refine go_skip ?_ | refine go_exit ?_) <;> conv => whnf) | refine go_true rfl ?_ | refine go_false rfl ?_ | refine go_cond rfl (fun h => ?_) (fun h => ?_) | refine ⟨rfl, ?_⟩ | ((first | refine ⟨trivial, ?_⟩ | refine ⟨le_of_ble rfl, ?_⟩) <;> conv => whnf) | fail
  refine go_loop (α := Nat) (fun i => i ≤ xs.length) (fun i => xs.length - i)
    (fun i => st Try.f55.ntmps [(0, .own 1000 0 (xs.map strRow).length), (1, .imm (.int .i64 (kAt k (1 * i)))), (5, .imm (.int .i64 (i : Nat)))]
      [(1000, .arr 9 1 (upto ((marksStrX k xs.length).map strRow) (xs.map strRow) i))] [1000]) 0 (Nat.zero_le _) ?_ ?_
  · refine ref_st (fun _ => 0) rfl ⟨⟨rfl, rfl⟩, rfl, rfl, trivial⟩ ⟨?_, trivial⟩ (by simp) rfl (by simp [lookM])
    rw [upto_0]; rfl
  · intro i hi
    cases hx : xs[i]? with
    | none =>
      have hge := le_of_at hx
      have hie : i = xs.length := by omega
      rw [upto_end hyl (by simp; omega), hie]
      repeat' first | refine go_seq ?_ | refine go_region ?_ | ((first | refine go_op rfl ?_ | refine go_nil ?_ | refine go_storeBox rfl rfl rfl rfl rfl rfl ?_) <;> conv => whnf) | ((first | refine ⟨by kernel_rfl, ?_⟩ | refine go_ret ?_) <;> conv => whnf) | refine go_block ?_ | ((first | refine go_skip ?_ | refine go_exit ?_) <;> conv => whnf) | refine go_true rfl ?_ | refine go_false rfl ?_ | refine go_cond rfl (fun h => ?_) (fun h => ?_) | refine ⟨rfl, ?_⟩ | ((first | refine ⟨trivial, ?_⟩ | refine ⟨le_of_ble rfl, ?_⟩) <;> conv => whnf) | fail
      · exfalso; simp at *
      · exact ret_mut0 rfl rfl rfl rfl rfl rfl rfl (str_gr _)
    | some v =>
      have hlt := lt_of_at hx
      have hrow : (xs.map strRow)[i]? = some (strRow v) := by simp [hx]
      have hat := upto_at hyl hrow
      have hset := upto_set (y := (strRow (markStrX k i))) hyl hrow (marksStrX_at k hlt)
      have hil : i < (upto ((marksStrX k xs.length).map strRow) (xs.map strRow) i).length := by rw [upto_len hyl]; simpa using hlt
      have ht0 : CallOk Try.prog 82 [.imm (.int .i64 (kAt k (1 * i + 0)))] { res := [.imm (.str (mText (kAt k (1 * i + 0))))] } := c82 _ (by rw [kAt_eq hk0 _ (by omega)]; omega)
      repeat' first | refine go_seq ?_ | refine go_region ?_ | ((first | refine go_op rfl ?_ | refine go_nil ?_ | refine go_storeBox rfl rfl rfl rfl rfl rfl ?_ | refine go_call [] (ht0) rfl rfl rfl rfl ?_ | refine go_idxOwn rfl rfl rfl rfl rfl rfl (by simp; omega) ?_ | refine go_storeEl rfl rfl rfl rfl hat rfl rfl rfl ?_ | refine go_storeEl rfl rfl rfl rfl (set_at hil) rfl rfl (List.set_set _) ?_) <;> conv => whnf) | ((first | refine ⟨by kernel_rfl, ?_⟩ | refine go_ret ?_) <;> conv => whnf) | refine go_block ?_ | ((first | refine go_skip ?_ | refine go_exit ?_) <;> conv => whnf) | refine go_true rfl ?_ | refine go_false rfl ?_ | refine go_cond rfl (fun h => ?_) (fun h => ?_) | refine ⟨rfl, ?_⟩ | ((first | refine ⟨trivial, ?_⟩ | refine ⟨le_of_ble rfl, ?_⟩) <;> conv => whnf) | fail
      · refine go_next (i + 1) (by omega) (by omega) (ref_st id rfl ⟨⟨rfl, rfl⟩, rfl, next_i (by omega), trivial⟩ ⟨?_, trivial⟩ (by simp) rfl (by simp [lookM]))
        rw [← hset]; rfl
      · exfalso; simp at *; omega

theorem c57 (k : Int) (n : Nat) (hk0 : 0 ≤ k) (hk1 : k ≤ 576460752303423488) (hl : n ≤ 1048576) : CallOk Try.prog 57 [.imm (.list ((marksStrX k n).map strRow)), .imm (.int .i64 k)] { res := [.imm (.int .i64 (kAt k (1 * n)))] } := by
  refine callOk_of tyOk Try.func57 rfl rfl (le_of_ble rfl) (le_of_ble rfl) (mutOk_imm rfl _) ?_
  repeat' first | refine go_seq ?_ | refine go_region ?_ | refine go_draw drawsOk ?_ | ((first | refine go_op rfl ?_ | refine go_nil ?_ | refine go_dop rfl ?_ | refine go_dend (by kernel_rfl) ?_) <;> conv => whnf) | ((first | refine go_loadB ?_ | refine ⟨by kernel_rfl, ?_⟩ | refine go_ret ?_) <;> conv => whnf) | refine go_block ?_ | ((first | refine go_skip ?_ | refine go_exit ?_) <;> conv => whnf) | refine go_true rfl ?_ | refine go_false rfl ?_ | refine go_cond rfl (fun h => ?_) (fun h => ?_) | refine ⟨rfl, ?_⟩ | ((first | refine ⟨trivial, ?_⟩ | refine ⟨le_of_ble rfl, ?_⟩) <;> conv => whnf) | fail
  refine go_loop (α := Nat) (fun i => i ≤ n) (fun i => n - i)
    (fun i => st Try.f57.ntmps [(0, .imm (.list ((marksStrX k n).map strRow))), (1, .imm (.int .i64 (kAt k (1 * i)))), (5, .imm (.int .i64 (i : Nat)))] [] []) 0 (Nat.zero_le _) (ref_st0 rfl ⟨rfl, rfl, rfl, trivial⟩ rfl) ?_
  intro i hi
  by_cases hlt : i < n
  · have hr : ((marksStrX k n).map strRow)[((i : Nat) : Int).toNat]? = some (strRow (markStrX k i)) := marksStrX_at k hlt
    have ht0 : CallOk Try.prog 82 [.imm (.int .i64 (kAt k (1 * i + 0)))] { res := [.imm (.str (mText (kAt k (1 * i + 0))))] } := c82 _ (by rw [kAt_eq hk0 _ (by omega)]; omega)
    repeat' first | refine go_seq ?_ | refine go_region ?_ | refine go_draw drawsOk ?_ | ((first | refine go_op rfl ?_ | refine go_nil ?_ | refine go_dop rfl ?_ | refine go_dend (by kernel_rfl) ?_ | refine go_call [] (ht0) rfl rfl rfl rfl ?_ | refine go_idx rfl rfl rfl rfl (by omega) (by assumption) rfl ?_) <;> conv => whnf) | ((first | refine go_loadB ?_ | refine ⟨by kernel_rfl, ?_⟩ | refine go_ret ?_) <;> conv => whnf) | refine go_block ?_ | ((first | refine go_skip ?_ | refine go_exit ?_) <;> conv => whnf) | refine go_true rfl ?_ | refine go_false rfl ?_ | refine go_cond rfl (fun h => ?_) (fun h => ?_) | refine ⟨rfl, ?_⟩ | ((first | refine ⟨trivial, ?_⟩ | refine ⟨le_of_ble rfl, ?_⟩) <;> conv => whnf) | fail
    all_goals first
      | (exfalso; simp [markStrX, kAt, nx, str_self] at h; done)
      | (refine go_next (i + 1) (by omega) (by omega) (ref_st0 rfl ⟨rfl, rfl, next_i (by omega), trivial⟩ rfl); done)
      | (exfalso; rw [marksStrX_len] at h; simp at h; omega)
  · have hie : i = n := by omega
    subst hie
    repeat' first | refine go_seq ?_ | refine go_region ?_ | refine go_draw drawsOk ?_ | ((first | refine go_op rfl ?_ | refine go_nil ?_ | refine go_dop rfl ?_ | refine go_dend (by kernel_rfl) ?_) <;> conv => whnf) | ((first | refine go_loadB ?_ | refine ⟨by kernel_rfl, ?_⟩ | refine go_ret ?_) <;> conv => whnf) | refine go_block ?_ | ((first | refine go_skip ?_ | refine go_exit ?_) <;> conv => whnf) | refine go_true rfl ?_ | refine go_false rfl ?_ | refine go_cond rfl (fun h => ?_) (fun h => ?_) | refine ⟨rfl, ?_⟩ | ((first | refine ⟨trivial, ?_⟩ | refine ⟨le_of_ble rfl, ?_⟩) <;> conv => whnf) | fail
    · exfalso; rw [marksStrX_len] at h; simp at h
    · exact ret_imm rfl rfl rfl rfl rfl rfl

def markTrip (k : Int) (j : Nat) : Trip := ⟨kAt k (3 * j), kAt k (3 * j + 1), kAt k (3 * j + 2)⟩
def marksTrip (k : Int) (n : Nat) : List Trip := (List.range n).map (markTrip k)
theorem marksTrip_len (k : Int) (n : Nat) : ((marksTrip k n).map Trip.enc).length = n := by simp [marksTrip]
theorem marksTrip_at (k : Int) {n i : Nat} (h : i < n) : ((marksTrip k n).map Trip.enc)[i]? = some (markTrip k i).enc := by simp [marksTrip, h]

theorem c28 (xs : List Trip) (k : Int) (_ : 0 ≤ k) (_ : k ≤ 576460752303423488) (hl : xs.length ≤ 1048576) : CallOk Try.prog 28 [.arr 54 3 (xs.map Trip.enc), .imm (.int .i64 k)]
    { res := [.imm (.int .i64 (kAt k (3 * xs.length)))], muts := [.arr 54 3 ((marksTrip k xs.length).map Trip.enc)] } := by
  refine callOk_of tyOk Try.func28 rfl rfl (le_of_ble rfl) (le_of_ble rfl) (mutOk_arr0 rfl (by simp [marksTrip])) ?_
  have hyl : ((marksTrip k xs.length).map Trip.enc).length = (xs.map Trip.enc).length := by simp [marksTrip]
  repeat' first | refine go_seq ?_ | refine go_region ?_ | ((first | refine go_op rfl ?_ | refine go_nil ?_ | refine go_storeBox rfl rfl rfl rfl rfl rfl ?_) <;> conv => whnf) | ((first | refine ⟨by kernel_rfl, ?_⟩ | refine go_ret ?_) <;> conv => whnf) | refine go_block ?_ | ((first | refine go_skip ?_ | refine go_exit ?_) <;> conv => whnf) | refine go_true rfl ?_ | refine go_false rfl ?_ | refine go_cond rfl (fun h => ?_) (fun h => ?_) | refine ⟨rfl, ?_⟩ | ((first | refine ⟨trivial, ?_⟩ | refine ⟨le_of_ble rfl, ?_⟩) <;> conv => whnf) | fail
  refine go_loop (α := Nat) (fun i => i ≤ xs.length) (fun i => xs.length - i)
    (fun i => st Try.f28.ntmps [(0, .own 1000 0 (xs.map Trip.enc).length), (1, .imm (.int .i64 (kAt k (3 * i)))), (5, .imm (.int .i64 (i : Nat)))]
      [(1000, .arr 54 3 (upto ((marksTrip k xs.length).map Trip.enc) (xs.map Trip.enc) i))] [1000]) 0 (Nat.zero_le _) ?_ ?_
  · refine ref_st (fun _ => 0) rfl ⟨⟨rfl, rfl⟩, rfl, rfl, trivial⟩ ⟨?_, trivial⟩ (by simp) rfl (by simp [lookM])
    rw [upto_0]; rfl
  · intro i hi
    cases hx : xs[i]? with
    | none =>
      have hge := le_of_at hx
      have hie : i = xs.length := by omega
      rw [upto_end hyl (by simp; omega), hie]
      repeat' first | refine go_seq ?_ | refine go_region ?_ | ((first | refine go_op rfl ?_ | refine go_nil ?_ | refine go_storeBox rfl rfl rfl rfl rfl rfl ?_) <;> conv => whnf) | ((first | refine ⟨by kernel_rfl, ?_⟩ | refine go_ret ?_) <;> conv => whnf) | refine go_block ?_ | ((first | refine go_skip ?_ | refine go_exit ?_) <;> conv => whnf) | refine go_true rfl ?_ | refine go_false rfl ?_ | refine go_cond rfl (fun h => ?_) (fun h => ?_) | refine ⟨rfl, ?_⟩ | ((first | refine ⟨trivial, ?_⟩ | refine ⟨le_of_ble rfl, ?_⟩) <;> conv => whnf) | fail
      · exfalso; simp at *
      · exact ret_mut0 rfl rfl rfl rfl rfl rfl rfl (trip_gr _)
    | some v =>
      have hlt := lt_of_at hx
      have hrow : (xs.map Trip.enc)[i]? = some v.enc := by simp [hx]
      have hat := upto_at hyl hrow
      have hset := upto_set (y := (markTrip k i).enc) hyl hrow (marksTrip_at k hlt)
      have hil : i < (upto ((marksTrip k xs.length).map Trip.enc) (xs.map Trip.enc) i).length := by rw [upto_len hyl]; simpa using hlt
      repeat' first | refine go_seq ?_ | refine go_region ?_ | ((first | refine go_op rfl ?_ | refine go_nil ?_ | refine go_storeBox rfl rfl rfl rfl rfl rfl ?_ | refine go_idxOwn rfl rfl rfl rfl rfl rfl (by simp; omega) ?_ | refine go_storeEl rfl rfl rfl rfl hat rfl rfl rfl ?_ | refine go_storeEl rfl rfl rfl rfl (set_at hil) rfl rfl (List.set_set _) ?_) <;> conv => whnf) | ((first | refine ⟨by kernel_rfl, ?_⟩ | refine go_ret ?_) <;> conv => whnf) | refine go_block ?_ | ((first | refine go_skip ?_ | refine go_exit ?_) <;> conv => whnf) | refine go_true rfl ?_ | refine go_false rfl ?_ | refine go_cond rfl (fun h => ?_) (fun h => ?_) | refine ⟨rfl, ?_⟩ | ((first | refine ⟨trivial, ?_⟩ | refine ⟨le_of_ble rfl, ?_⟩) <;> conv => whnf) | fail
      · refine go_next (i + 1) (by omega) (by omega) (ref_st id rfl ⟨⟨rfl, rfl⟩, rfl, next_i (by omega), trivial⟩ ⟨?_, trivial⟩ (by simp) rfl (by simp [lookM]))
        rw [← hset]; rfl
      · exfalso; simp at *; omega

theorem c30 (k : Int) (n : Nat) (_ : 0 ≤ k) (_ : k ≤ 576460752303423488) (hl : n ≤ 1048576) : CallOk Try.prog 30 [.imm (.list ((marksTrip k n).map Trip.enc)), .imm (.int .i64 k)] { res := [.imm (.int .i64 (kAt k (3 * n)))] } := by
  refine callOk_of tyOk Try.func30 rfl rfl (le_of_ble rfl) (le_of_ble rfl) (mutOk_imm rfl _) ?_
  repeat' first | refine go_seq ?_ | refine go_region ?_ | ((first | refine go_op rfl ?_ | refine go_nil ?_) <;> conv => whnf) | ((first | refine go_loadB ?_ | refine ⟨by kernel_rfl, ?_⟩ | refine go_ret ?_) <;> conv => whnf) | refine go_block ?_ | ((first | refine go_skip ?_ | refine go_exit ?_) <;> conv => whnf) | refine go_true rfl ?_ | refine go_false rfl ?_ | refine go_cond rfl (fun h => ?_) (fun h => ?_) | refine ⟨rfl, ?_⟩ | ((first | refine ⟨trivial, ?_⟩ | refine ⟨le_of_ble rfl, ?_⟩) <;> conv => whnf) | fail
  refine go_loop (α := Nat) (fun i => i ≤ n) (fun i => n - i)
    (fun i => st Try.f30.ntmps [(0, .imm (.list ((marksTrip k n).map Trip.enc))), (1, .imm (.int .i64 (kAt k (3 * i)))), (5, .imm (.int .i64 (i : Nat)))] [] []) 0 (Nat.zero_le _) (ref_st0 rfl ⟨rfl, rfl, rfl, trivial⟩ rfl) ?_
  intro i hi
  by_cases hlt : i < n
  · have hr : ((marksTrip k n).map Trip.enc)[((i : Nat) : Int).toNat]? = some (markTrip k i).enc := marksTrip_at k hlt
    repeat' first | refine go_seq ?_ | refine go_region ?_ | ((first | refine go_op rfl ?_ | refine go_nil ?_ | refine go_idx rfl rfl rfl rfl (by omega) (by assumption) rfl ?_) <;> conv => whnf) | ((first | refine go_loadB ?_ | refine ⟨by kernel_rfl, ?_⟩ | refine go_ret ?_) <;> conv => whnf) | refine go_block ?_ | ((first | refine go_skip ?_ | refine go_exit ?_) <;> conv => whnf) | refine go_true rfl ?_ | refine go_false rfl ?_ | refine go_cond rfl (fun h => ?_) (fun h => ?_) | refine ⟨rfl, ?_⟩ | ((first | refine ⟨trivial, ?_⟩ | refine ⟨le_of_ble rfl, ?_⟩) <;> conv => whnf) | fail
    all_goals first
      | (exfalso; simp [markTrip, kAt, nx] at h; done)
      | (refine go_next (i + 1) (by omega) (by omega) (ref_st0 rfl ⟨rfl, rfl, next_i (by omega), trivial⟩ rfl); done)
      | (exfalso; rw [marksTrip_len] at h; simp at h; omega)
  · have hie : i = n := by omega
    subst hie
    repeat' first | refine go_seq ?_ | refine go_region ?_ | ((first | refine go_op rfl ?_ | refine go_nil ?_) <;> conv => whnf) | ((first | refine go_loadB ?_ | refine ⟨by kernel_rfl, ?_⟩ | refine go_ret ?_) <;> conv => whnf) | refine go_block ?_ | ((first | refine go_skip ?_ | refine go_exit ?_) <;> conv => whnf) | refine go_true rfl ?_ | refine go_false rfl ?_ | refine go_cond rfl (fun h => ?_) (fun h => ?_) | refine ⟨rfl, ?_⟩ | ((first | refine ⟨trivial, ?_⟩ | refine ⟨le_of_ble rfl, ?_⟩) <;> conv => whnf) | fail
    · exfalso; rw [marksTrip_len] at h; simp at h
    · exact ret_imm rfl rfl rfl rfl rfl rfl

end Go.Proofs.Ytfjphbjbobojbaa

