/- The worst stop's law, walked. -/
import Derived.Test.YtnjojepeilgikaaV9
namespace Go.Proofs.Ytnjojepeilgikaa
open Go Go.Am
set_option maxRecDepth 100000
set_option maxHeartbeats 4000000
attribute [local irreducible] amOps amC opCall opIndexAddr opPick retQ opMake opStore amDraw opAppend

theorem c8 (xs : List Visit) (hok : ∀ v ∈ xs, v.ok) (hl : xs.length ≤ 9223372036854775807) (e : Int) (_ : i64 e) (l : Int) (_ : i64 l) : CallOk Try.prog 8 [.imm (.list (xs.map Visit.enc)), .imm (.int .i64 e), .imm (.int .i64 l)] { res := [.imm (.bool true)] } := by
  refine callOk_of tyOk Try.func8 rfl rfl (le_of_ble rfl) (le_of_ble rfl) (mutOk_imm rfl _) ?_
  have hw : IntKind.i64.wrap (1048576 - (xs.length : Int)) = 1048576 - xs.length := by rw [IntKind.wrap_i64]; omega
  by_cases hs : xs.length ≤ 1048576
  · have h1 : True := trivial
    repeat' first
      | refine go_seq ?_
      | refine go_region ?_
      | (refine go_op rfl ?_; conv => whnf)
      | (refine go_nil ?_; conv => whnf)
      | (refine go_hit rfl rfl rfl ?_; conv => whnf)
      | (refine go_miss rfl rfl rfl ?_)
      | (refine go_undef rfl rfl rfl ?_)
      | (refine go_splitT rfl rfl rfl (fun h => ?_) (fun h => ?_) <;> conv => whnf)
      | (refine go_splitF rfl rfl rfl (fun h => ?_) (fun h => ?_) <;> conv => whnf)
      | (refine go_storeBox rfl rfl rfl rfl rfl rfl ?_; conv => whnf)
      | (refine go_dop rfl ?_; conv => whnf)
      | (refine go_dhit rfl rfl ?_; conv => whnf)
      | refine go_dmiss rfl rfl ?_
      | refine go_dundef rfl rfl ?_
      | (refine go_dend (by kernel_rfl) ?_; conv => whnf)
      | refine go_draw drawsOk ?_
      | (refine go_pickT rfl ?_; conv => whnf)
      | (refine go_pickF rfl ?_; conv => whnf)
      | (refine go_pick rfl (fun h => ?_) (fun h => ?_) <;> conv => whnf)
      | (refine go_call [] (c13 xs _) rfl rfl rfl rfl ?_; conv => whnf)
      | (refine go_call [] (c15 xs hs) rfl rfl rfl rfl ?_; conv => whnf)
      | (refine go_call [] (c28 xs e l hok hs) rfl rfl rfl rfl ?_; conv => whnf)
      | (refine go_call [] (c29 xs e l hs) rfl rfl rfl rfl ?_; conv => whnf)
      | (refine go_call [] (c17 xs xs hs) rfl rfl rfl rfl ?_; conv => whnf)
      | (refine go_ret ?_; conv => whnf)
      | refine go_block ?_
      | (refine go_skip ?_; conv => whnf)
      | (refine go_exit ?_; conv => whnf)
      | refine go_true rfl ?_
      | refine go_false rfl ?_
      | refine go_cond rfl (fun h => ?_) (fun h => ?_)
      | refine ⟨rfl, ?_⟩
      | (refine ⟨le_of_ble rfl, ?_⟩; conv => whnf)
      | fail
    all_goals first | exact ret_imm rfl rfl rfl rfl rfl rfl | (exfalso; simp at h; done) | (exfalso; rw [zip_self beq_self] at h; simp at h; done)
  · have h1 : True := trivial
    repeat' first
      | refine go_seq ?_
      | refine go_region ?_
      | (refine go_op rfl ?_; conv => whnf)
      | (refine go_nil ?_; conv => whnf)
      | (refine go_hit rfl rfl rfl ?_; conv => whnf)
      | (refine go_miss rfl rfl rfl ?_)
      | (refine go_undef rfl rfl rfl ?_)
      | (refine go_splitT rfl rfl rfl (fun h => ?_) (fun h => ?_) <;> conv => whnf)
      | (refine go_splitF rfl rfl rfl (fun h => ?_) (fun h => ?_) <;> conv => whnf)
      | (refine go_storeBox rfl rfl rfl rfl rfl rfl ?_; conv => whnf)
      | (refine go_dop rfl ?_; conv => whnf)
      | (refine go_dhit rfl rfl ?_; conv => whnf)
      | refine go_dmiss rfl rfl ?_
      | refine go_dundef rfl rfl ?_
      | (refine go_dend (by kernel_rfl) ?_; conv => whnf)
      | refine go_draw drawsOk ?_
      | (refine go_pickT rfl ?_; conv => whnf)
      | (refine go_pickF rfl ?_; conv => whnf)
      | (refine go_pick rfl (fun h => ?_) (fun h => ?_) <;> conv => whnf)
      | (refine go_call [] (c13 xs _) rfl rfl rfl rfl ?_; conv => whnf)
      | (refine go_ret ?_; conv => whnf)
      | refine go_block ?_
      | (refine go_skip ?_; conv => whnf)
      | (refine go_exit ?_; conv => whnf)
      | refine go_true rfl ?_
      | refine go_false rfl ?_
      | refine go_cond rfl (fun h => ?_) (fun h => ?_)
      | refine ⟨rfl, ?_⟩
      | (refine ⟨le_of_ble rfl, ?_⟩; conv => whnf)
      | fail
    · exact ret_imm rfl rfl rfl rfl rfl rfl
    · exfalso
      rw [hw] at h
      rw [if_pos (by omega)] at h
      simp at h
end Go.Proofs.Ytnjojepeilgikaa

