/- Lists of changes: marks. -/
import Derived.Test.YtfjphbjbobojbaaN10
import Derived.Test.YtfjphbjbobojbaaMT
namespace Go.Proofs.Ytfjphbjbobojbaa
open Go Go.Am
set_option maxRecDepth 100000
set_option maxHeartbeats 4000000
attribute [local irreducible] amOps amC opCall opIndexAddr opPick retQ opMake opStore amDraw opAppend opLoad opNilCmp opIndex opSlice

def markChange (k : Int) (j : Nat) : Change := ⟨kAt k (5 * j), ⟨kAt k (5 * j + 1), kAt k (5 * j + 2), kAt k (5 * j + 3)⟩, kAt k (5 * j + 4)⟩
def marksChange (k : Int) (n : Nat) : List Change := (List.range n).map (markChange k)
theorem marksChange_at (k : Int) {n i : Nat} (h : i < n) : ((marksChange k n).map Change.enc)[i]? = some (markChange k i).enc := by simp [marksChange, h]

theorem c13 (xs : List Change) (k : Int) (_ : 0 ≤ k) (_ : k ≤ 576460752303423488) (hl : xs.length ≤ 1048576) : CallOk Try.prog 13 [.arr 56 5 (xs.map Change.enc), .imm (.int .i64 k)]
    { res := [.imm (.int .i64 (kAt k (5 * xs.length)))], muts := [.arr 56 5 ((marksChange k xs.length).map Change.enc)] } := by
  refine callOk_of tyOk Try.func13 rfl rfl (le_of_ble rfl) (le_of_ble rfl) (mutOk_arr0 rfl (by simp [marksChange])) ?_
  have hyl : ((marksChange k xs.length).map Change.enc).length = (xs.map Change.enc).length := by simp [marksChange]
  repeat' first | refine go_seq ?_ | refine go_region ?_ | ((first | refine go_op rfl ?_ | refine go_nil ?_ | refine go_storeBox rfl rfl rfl rfl rfl rfl ?_) <;> conv => whnf) | ((first | refine ⟨by kernel_rfl, ?_⟩ | refine go_ret ?_) <;> conv => whnf) | refine go_block ?_ | ((first | refine go_skip ?_ | refine go_exit ?_) <;> conv => whnf) | refine go_true rfl ?_ | refine go_false rfl ?_ | refine go_cond rfl (fun h => ?_) (fun h => ?_) | refine ⟨rfl, ?_⟩ | ((first | refine ⟨trivial, ?_⟩ | refine ⟨le_of_ble rfl, ?_⟩) <;> conv => whnf) | fail
  refine go_loop (α := Nat) (fun i => i ≤ xs.length) (fun i => xs.length - i)
    (fun i => st Try.f13.ntmps [(0, .own 1000 0 (xs.map Change.enc).length), (1, .imm (.int .i64 (kAt k (5 * i)))), (5, .imm (.int .i64 (i : Nat)))]
      [(1000, .arr 56 5 (upto ((marksChange k xs.length).map Change.enc) (xs.map Change.enc) i))] [1000]) 0 (Nat.zero_le _) ?_ ?_
  · refine ref_st (fun _ => 0) rfl ⟨⟨rfl, rfl⟩, rfl, rfl, trivial⟩ ⟨?_, trivial⟩ (by simp) rfl (by simp [lookM])
    rw [upto_0]; rfl
  · intro i hi
    cases hx : xs[i]? with
    | none =>
      have hge := le_of_at hx
      have hie : i = xs.length := by omega
      rw [upto_end hyl (by simp; omega), hie]
      repeat' first | refine go_seq ?_ | refine go_region ?_ | ((first | refine go_op rfl ?_ | refine go_nil ?_ | refine go_storeBox rfl rfl rfl rfl rfl rfl ?_) <;> conv => whnf) | ((first | refine ⟨by kernel_rfl, ?_⟩ | refine go_ret ?_) <;> conv => whnf) | refine go_block ?_ | ((first | refine go_skip ?_ | refine go_exit ?_) <;> conv => whnf) | refine go_true rfl ?_ | refine go_false rfl ?_ | refine go_cond rfl (fun h => ?_) (fun h => ?_) | refine ⟨rfl, ?_⟩ | ((first | refine ⟨trivial, ?_⟩ | refine ⟨le_of_ble rfl, ?_⟩) <;> conv => whnf) | fail
      · exfalso; simp at *
      · exact ret_mut0 rfl rfl rfl rfl rfl rfl rfl (change_gr _)
    | some v =>
      have hlt := lt_of_at hx
      have hrow : (xs.map Change.enc)[i]? = some v.enc := by simp [hx]
      have hat := upto_at hyl hrow
      have hset := upto_set (y := (markChange k i).enc) hyl hrow (marksChange_at k hlt)
      have hil : i < (upto ((marksChange k xs.length).map Change.enc) (xs.map Change.enc) i).length := by rw [upto_len hyl]; simpa using hlt
      repeat' first | refine go_seq ?_ | refine go_region ?_ | ((first | refine go_op rfl ?_ | refine go_nil ?_ | refine go_storeBox rfl rfl rfl rfl rfl rfl ?_ | refine go_idxOwn rfl rfl rfl rfl rfl rfl (by simp; omega) ?_ | refine go_storeEl rfl rfl rfl rfl hat rfl rfl rfl ?_ | refine go_storeEl rfl rfl rfl rfl (set_at hil) rfl rfl (List.set_set _) ?_) <;> conv => whnf) | ((first | refine ⟨by kernel_rfl, ?_⟩ | refine go_ret ?_) <;> conv => whnf) | refine go_block ?_ | ((first | refine go_skip ?_ | refine go_exit ?_) <;> conv => whnf) | refine go_true rfl ?_ | refine go_false rfl ?_ | refine go_cond rfl (fun h => ?_) (fun h => ?_) | refine ⟨rfl, ?_⟩ | ((first | refine ⟨trivial, ?_⟩ | refine ⟨le_of_ble rfl, ?_⟩) <;> conv => whnf) | fail
      · refine go_next (i + 1) (by omega) (by omega) (ref_st id rfl ⟨⟨rfl, rfl⟩, rfl, next_i (by omega), trivial⟩ ⟨?_, trivial⟩ (by simp) rfl (by simp [lookM]))
        rw [← hset]; rfl
      · exfalso; simp at *; omega

end Go.Proofs.Ytfjphbjbobojbaa

