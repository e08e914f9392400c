/- The index of a trip (out of r10/V3). -/
import Derived.Test.YtekilollacmajaaGreatDoorV2
namespace Go.Proofs.YtekilollacmajaaGreatDoor
open Go Go.Am
set_option maxRecDepth 100000
set_option maxHeartbeats 4000000
attribute [local irreducible] amOps amC opCall opIndexAddr opPick retQ opMake opStore amDraw opAppend opLoad opNilCmp opIndex opSlice

theorem c46 (k : Int) (x : Trip) : CallOk Tryz.prog 46 [.imm (.agg x.enc), .imm (.ptr [.int .i64 k])] { res := [.imm (.bool (decide (x.id = k)))] } := by
  refine callOk_of tyOk Tryz.func46 rfl rfl (le_of_ble rfl) (le_of_ble rfl) (mutOk_imm rfl _) ?_
  repeat' first | refine go_seq ?_ | refine go_region ?_ | ((first | refine go_op rfl ?_ | refine go_nil ?_) <;> conv => whnf) | ((first | refine go_loadB ?_ | refine ⟨by kernel_rfl, ?_⟩ | refine go_ret ?_) <;> conv => whnf) | ((first | refine go_skip ?_) <;> conv => whnf) | refine ⟨rfl, ?_⟩ | ((first | refine ⟨trivial, ?_⟩ | refine ⟨le_of_ble rfl, ?_⟩) <;> conv => whnf) | fail
  all_goals exact ret_imm rfl rfl rfl rfl rfl rfl

theorem c45 (xs : List Trip) (hl : xs.length ≤ 1048576) (k : Int) :
    CallOk Tryz.prog 45 [.imm (.list (xs.map Trip.enc)), .imm (.fn 46 [.ptr [.int .i64 k]])] { res := [.imm (.int .i64 (findT xs k))] } := by
  refine callOk_of tyOk Tryz.func45 rfl rfl (le_of_ble rfl) (le_of_ble rfl) (mutOk_imm rfl _) ?_
  repeat' first | refine go_seq ?_ | refine go_region ?_ | ((first | refine go_op rfl ?_ | refine go_nil ?_) <;> conv => whnf) | ((first | refine go_loadB ?_ | refine ⟨by kernel_rfl, ?_⟩ | refine go_ret ?_) <;> conv => whnf) | refine go_block ?_ | ((first | refine go_skip ?_ | refine go_exit ?_) <;> conv => whnf) | refine go_true rfl ?_ | refine go_false rfl ?_ | refine go_cond rfl (fun h => ?_) (fun h => ?_) | refine ⟨rfl, ?_⟩ | ((first | refine ⟨trivial, ?_⟩ | refine ⟨le_of_ble rfl, ?_⟩) <;> conv => whnf) | fail
  refine go_loop (α := Nat) (fun i => i ≤ xs.length ∧ (xs.take i).any (fun y => decide (y.id = k)) = false) (fun i => xs.length - i) (fun i => st Tryz.f45.ntmps [(0, .imm (.list (xs.map Trip.enc))), (1, .imm (.fn 46 [.ptr [.int .i64 k]])), (7, .imm (.int .i64 (xs.map Trip.enc).length)), (8, .imm (.int .i64 (i : Nat)))] [] []) 0
    ⟨Nat.zero_le _, rfl⟩ (ref_st0 rfl ⟨rfl, rfl, rfl, rfl, trivial⟩ rfl) ?_
  rintro i ⟨hi, ha⟩
  unfold findT
  cases hx : xs[i]? with
  | none =>
    have hge := le_of_at hx
    rw [List.take_of_length_le hge] at ha
    repeat' first | refine go_seq ?_ | refine go_region ?_ | ((first | refine go_op rfl ?_ | refine go_nil ?_) <;> conv => whnf) | ((first | refine go_loadB ?_ | refine ⟨by kernel_rfl, ?_⟩ | refine go_ret ?_) <;> conv => whnf) | refine go_block ?_ | ((first | refine go_skip ?_ | refine go_exit ?_) <;> conv => whnf) | refine go_true rfl ?_ | refine go_false rfl ?_ | refine go_cond rfl (fun h => ?_) (fun h => ?_) | refine ⟨rfl, ?_⟩ | ((first | refine ⟨trivial, ?_⟩ | refine ⟨le_of_ble rfl, ?_⟩) <;> conv => whnf) | fail
    all_goals first
      | exact ret_imm rfl rfl rfl rfl (by rw [idxF_miss ha]) rfl
      | (exfalso; simp at h; omega)
  | some v =>
    have hlt := lt_of_at hx
    have hr := row_at Trip.enc hx
    have hp := c46 k v
    repeat' first | refine go_seq ?_ | refine go_region ?_ | ((first | refine go_op rfl ?_ | refine go_nil ?_ | refine go_call [] (hp) rfl rfl rfl rfl ?_ | refine go_idx rfl rfl rfl rfl (by omega) hr rfl ?_) <;> conv => whnf) | ((first | refine go_loadB ?_ | refine ⟨by kernel_rfl, ?_⟩ | refine go_ret ?_) <;> conv => whnf) | refine go_block ?_ | ((first | refine go_skip ?_ | refine go_exit ?_) <;> conv => whnf) | refine go_true rfl ?_ | refine go_false rfl ?_ | refine go_cond rfl (fun h => ?_) (fun h => ?_) | refine ⟨rfl, ?_⟩ | ((first | refine ⟨trivial, ?_⟩ | refine ⟨le_of_ble rfl, ?_⟩) <;> conv => whnf) | fail
    all_goals first
      | exact ret_imm rfl rfl rfl rfl (by rw [idxF_hit hx h ha]) rfl
      | exact go_next (i + 1) ⟨by omega, any_next hx ha h⟩ (by omega) (ref_st0 rfl ⟨rfl, rfl, rfl, next_i (by omega), trivial⟩ rfl)
      | (exfalso; simp at h; omega)

theorem c21 (t : Timetable) (hl : t.trips.length ≤ 1048576) (k : Int) : CallOk Tryz.prog 21 [.imm (.agg t.enc), .imm (.int .i64 k)] { res := [.imm (.int .i64 (findT t.trips k))] } := by
  refine callOk_of tyOk Tryz.func21 rfl rfl (le_of_ble rfl) (le_of_ble rfl) (mutOk_imm rfl _) ?_
  have hc := c45 t.trips hl k
  repeat' first | refine go_seq ?_ | refine go_region ?_ | ((first | refine go_op rfl ?_ | refine go_nil ?_ | refine go_call [] (hc) rfl rfl rfl rfl ?_) <;> conv => whnf) | ((first | refine go_loadB ?_ | refine ⟨by kernel_rfl, ?_⟩ | refine go_ret ?_) <;> conv => whnf) | ((first | refine go_skip ?_) <;> conv => whnf) | refine ⟨rfl, ?_⟩ | ((first | refine ⟨trivial, ?_⟩ | refine ⟨le_of_ble rfl, ?_⟩) <;> conv => whnf) | fail
  all_goals exact ret_imm rfl rfl rfl rfl rfl rfl

end Go.Proofs.YtekilollacmajaaGreatDoor

