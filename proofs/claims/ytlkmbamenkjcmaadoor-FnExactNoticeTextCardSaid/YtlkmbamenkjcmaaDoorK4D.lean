/- The law of NoticeText, walked. -/
import Derived.Test.YtlkmbamenkjcmaaDoorK3D
namespace Go.Proofs.YtlkmbamenkjcmaaDoor
open Go Go.Am
set_option maxRecDepth 100000
set_option maxHeartbeats 4000000
attribute [local irreducible] amOps amC opCall opIndexAddr opPick retQ opMake opStore amDraw opAppend opLoad opNilCmp opIndex opSlice

theorem c4 (xs : List Message) (_ : ∀ v ∈ xs, v.ok) (hl : xs.length ≤ 9223372036854775807) : CallOk Tryd.prog 4 [.imm (.list (xs.map Message.enc))] { res := [.imm (.bool true)] } := by
  refine callOk_of tyOk Tryd.func4 rfl rfl (le_of_ble rfl) (le_of_ble rfl) (mutOk_imm rfl _) ?_
  have hsz := c10 xs 1048576 (by omega) (by omega) hl
  by_cases hs : szSMessage 1048576 xs < 0
  · skip
    repeat' first
      | refine go_seq ?_
      | refine go_region ?_
      | (refine go_op rfl ?_; conv => whnf)
      | (refine go_nil ?_; conv => whnf)
      | (refine go_hit rfl rfl rfl ?_; conv => whnf)
      | (refine go_miss rfl rfl rfl ?_)
      | (refine go_undef rfl rfl rfl ?_)
      | (refine go_splitT rfl rfl rfl (fun h => ?_) (fun h => ?_) <;> conv => whnf)
      | (refine go_splitF rfl rfl rfl (fun h => ?_) (fun h => ?_) <;> conv => whnf)
      | (refine go_storeBox rfl rfl rfl rfl rfl rfl ?_; conv => whnf)
      | (refine go_dop rfl ?_; conv => whnf)
      | (refine go_dhit rfl rfl ?_; conv => whnf)
      | (refine go_dmiss rfl rfl ?_; conv => whnf)
      | (refine go_dundef rfl rfl ?_; conv => whnf)
      | (refine go_dend (by kernel_rfl) ?_; conv => whnf)
      | refine go_draw drawsOk ?_
      | (refine go_pickT rfl ?_; conv => whnf)
      | (refine go_pickF rfl ?_; conv => whnf)
      | (refine go_pick rfl (fun h => ?_) (fun h => ?_) <;> conv => whnf)
      | (refine go_call [] (hsz) rfl rfl rfl rfl ?_; conv => whnf)
      | (refine go_dsplit2 rfl (fun h => ?_) (fun h => ?_) <;> conv => whnf)
      | (refine go_loadB ?_; conv => whnf)
      | (refine ⟨by kernel_rfl, ?_⟩; conv => whnf)
      | (refine go_ret ?_; conv => whnf)
      | refine go_block ?_
      | (refine go_skip ?_; conv => whnf)
      | (refine go_exit ?_; conv => whnf)
      | refine go_true rfl ?_
      | refine go_false rfl ?_
      | refine go_cond rfl (fun h => ?_) (fun h => ?_)
      | refine ⟨rfl, ?_⟩
      | (refine ⟨trivial, ?_⟩; conv => whnf)
      | (refine ⟨le_of_ble rfl, ?_⟩; conv => whnf)
      | fail
    all_goals first
      | exact ret_imm rfl rfl rfl rfl rfl rfl
      | (exfalso; simp at h; omega)
  · have hlen := szSMessage_len (by omega) (by omega) hl hs
    have t1 := c12 xs hlen
    have s1 := c11 xs hlen
    have s2 := c13 xs hlen
    have e1 := c14s xs hlen
    repeat' first
      | refine go_seq ?_
      | refine go_region ?_
      | (refine go_op rfl ?_; conv => whnf)
      | (refine go_nil ?_; conv => whnf)
      | (refine go_hit rfl rfl rfl ?_; conv => whnf)
      | (refine go_miss rfl rfl rfl ?_)
      | (refine go_undef rfl rfl rfl ?_)
      | (refine go_splitT rfl rfl rfl (fun h => ?_) (fun h => ?_) <;> conv => whnf)
      | (refine go_splitF rfl rfl rfl (fun h => ?_) (fun h => ?_) <;> conv => whnf)
      | (refine go_storeBox rfl rfl rfl rfl rfl rfl ?_; conv => whnf)
      | (refine go_dop rfl ?_; conv => whnf)
      | (refine go_dhit rfl rfl ?_; conv => whnf)
      | (refine go_dmiss rfl rfl ?_; conv => whnf)
      | (refine go_dundef rfl rfl ?_; conv => whnf)
      | (refine go_dend (by kernel_rfl) ?_; conv => whnf)
      | refine go_draw drawsOk ?_
      | (refine go_pickT rfl ?_; conv => whnf)
      | (refine go_pickF rfl ?_; conv => whnf)
      | (refine go_pick rfl (fun h => ?_) (fun h => ?_) <;> conv => whnf)
      | (refine go_call [] (hsz) rfl rfl rfl rfl ?_; conv => whnf)
      | (refine go_call [] (t1) rfl rfl rfl rfl ?_; conv => whnf)
      | (refine go_call [] (s1) rfl rfl rfl rfl ?_; conv => whnf)
      | (refine go_call [] (s2) rfl rfl rfl rfl ?_; conv => whnf)
      | (refine go_call [] (e1) rfl rfl rfl rfl ?_; conv => whnf)
      | (refine go_dsplit2 rfl (fun h => ?_) (fun h => ?_) <;> conv => whnf)
      | (refine go_loadB ?_; conv => whnf)
      | (refine ⟨by kernel_rfl, ?_⟩; conv => whnf)
      | (refine go_ret ?_; conv => whnf)
      | refine go_block ?_
      | (refine go_skip ?_; conv => whnf)
      | (refine go_exit ?_; conv => whnf)
      | refine go_true rfl ?_
      | refine go_false rfl ?_
      | refine go_cond rfl (fun h => ?_) (fun h => ?_)
      | refine ⟨rfl, ?_⟩
      | (refine ⟨trivial, ?_⟩; conv => whnf)
      | (refine ⟨le_of_ble rfl, ?_⟩; conv => whnf)
      | fail
    all_goals first
      | exact ret_imm rfl rfl rfl rfl rfl rfl
      | (exfalso; simp [str_self] at h; done)
      | (exfalso; simp at h; done)
      | (exfalso; simp at h; omega)
end Go.Proofs.YtlkmbamenkjcmaaDoor

