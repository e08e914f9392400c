/- The walks of one message. -/
import Derived.Test.YtlkmbamenkjcmaaHM
namespace Go.Proofs.Ytlkmbamenkjcmaa
open Go Go.Am
set_option maxRecDepth 100000
set_option maxHeartbeats 4000000
attribute [local irreducible] amOps amC opCall opIndexAddr opPick retQ opMake opStore amDraw opAppend opLoad opNilCmp opIndex

def e0 : ByteArray := ByteArray.empty
theorem hE1 : (⟨#[]⟩ : ByteArray) = e0 := rfl
theorem hE2 : ByteArray.empty = e0 := rfl
theorem hE3 : (e0 == e0) = true := str_self e0
def periodOk (m : Message) : Bool := timeOk m.fro && timeOk m.to && decide (m.fro ≤ m.to)
def msgOk (m : Message) : Bool :=
  if m.kind = 1 then nameOk m.line && inR m.mins 1 600 && (m.stop == e0) && decide (m.fro = 0) && decide (m.to = 0)
  else if m.kind = 2 ∨ m.kind = 5 then nameOk m.line && timeOk m.fro && (m.stop == e0) && decide (m.to = 0) && decide (m.mins = 0)
  else if m.kind = 3 then nameOk m.stop && periodOk m && (m.line == e0) && decide (m.mins = 0)
  else if m.kind = 4 then nameOk m.line && nameOk m.stop && periodOk m && decide (m.mins = 0)
  else false

theorem c88 (m : Message) : CallOk Try.prog 88 [.imm (.agg m.enc)] { res := [.imm (.bool (periodOk m))] } := by
  refine callOk_of tyOk Try.func88 rfl rfl (le_of_ble rfl) (le_of_ble rfl) (mutOk_imm rfl _) ?_
  repeat' first
    | refine go_seq ?_
    | refine go_region ?_
    | (refine go_op rfl ?_; conv => whnf)
    | (refine go_nil ?_; conv => whnf)
    | (refine go_hit rfl rfl rfl ?_; conv => whnf)
    | (refine go_miss rfl rfl rfl ?_)
    | (refine go_undef rfl rfl rfl ?_)
    | (refine go_splitT rfl rfl rfl (fun h => ?_) (fun h => ?_) <;> conv => whnf)
    | (refine go_splitF rfl rfl rfl (fun h => ?_) (fun h => ?_) <;> conv => whnf)
    | (refine go_storeBox rfl rfl rfl rfl rfl rfl ?_; conv => whnf)
    | (refine go_dop rfl ?_; conv => whnf)
    | (refine go_dhit rfl rfl ?_; conv => whnf)
    | refine go_dmiss rfl rfl ?_
    | refine go_dundef rfl rfl ?_
    | (refine go_dend (by kernel_rfl) ?_; conv => whnf)
    | refine go_draw drawsOk ?_
    | (refine go_pickT rfl ?_; conv => whnf)
    | (refine go_pickF rfl ?_; conv => whnf)
    | (refine go_pick rfl (fun h => ?_) (fun h => ?_) <;> conv => whnf)
    | (refine go_call [] (c21 _) rfl rfl rfl rfl ?_; conv => whnf)
    | (refine go_loadB ?_; conv => whnf)
    | (refine ⟨by kernel_rfl, ?_⟩; conv => whnf)
    | (refine go_ret ?_; conv => whnf)
    | refine go_block ?_
    | (refine go_skip ?_; conv => whnf)
    | (refine go_exit ?_; conv => whnf)
    | refine go_true rfl ?_
    | refine go_false rfl ?_
    | refine go_cond rfl (fun h => ?_) (fun h => ?_)
    | refine ⟨rfl, ?_⟩
    | (refine ⟨trivial, ?_⟩; conv => whnf)
    | (refine ⟨le_of_ble rfl, ?_⟩; conv => whnf)
    | fail
  all_goals refine ret_imm rfl rfl rfl rfl ?_ rfl
  all_goals simp_all [periodOk]

theorem c15 (m : Message) : CallOk Try.prog 15 [.imm (.agg m.enc)] { res := [.imm (.bool (msgOk m))] } := by
  refine callOk_of tyOk Try.func15 rfl rfl (le_of_ble rfl) (le_of_ble rfl) (mutOk_imm rfl _) ?_
  have hc88 := c88 m
  have hl := c86 m.line
  have hs := c86 m.stop
  have ht := c21 m.fro
  have hm := c87 m.mins 1 600
  repeat' first
    | refine go_seq ?_
    | refine go_region ?_
    | (refine go_op rfl ?_; conv => whnf)
    | (refine go_nil ?_; conv => whnf)
    | (refine go_hit rfl rfl rfl ?_; conv => whnf)
    | (refine go_miss rfl rfl rfl ?_)
    | (refine go_undef rfl rfl rfl ?_)
    | (refine go_splitT rfl rfl rfl (fun h => ?_) (fun h => ?_) <;> conv => whnf)
    | (refine go_splitF rfl rfl rfl (fun h => ?_) (fun h => ?_) <;> conv => whnf)
    | (refine go_storeBox rfl rfl rfl rfl rfl rfl ?_; conv => whnf)
    | (refine go_dop rfl ?_; conv => whnf)
    | (refine go_dhit rfl rfl ?_; conv => whnf)
    | refine go_dmiss rfl rfl ?_
    | refine go_dundef rfl rfl ?_
    | (refine go_dend (by kernel_rfl) ?_; conv => whnf)
    | refine go_draw drawsOk ?_
    | (refine go_pickT rfl ?_; conv => whnf)
    | (refine go_pickF rfl ?_; conv => whnf)
    | (refine go_pick rfl (fun h => ?_) (fun h => ?_) <;> conv => whnf)
    | (refine go_call [] (hc88) rfl rfl rfl rfl ?_; conv => whnf)
    | (refine go_call [] (hl) rfl rfl rfl rfl ?_; conv => whnf)
    | (refine go_call [] (hs) rfl rfl rfl rfl ?_; conv => whnf)
    | (refine go_call [] (ht) rfl rfl rfl rfl ?_; conv => whnf)
    | (refine go_call [] (hm) rfl rfl rfl rfl ?_; conv => whnf)
    | (refine go_loadB ?_; conv => whnf)
    | (refine ⟨by kernel_rfl, ?_⟩; conv => whnf)
    | (refine go_ret ?_; conv => whnf)
    | refine go_block ?_
    | (refine go_skip ?_; conv => whnf)
    | (refine go_exit ?_; conv => whnf)
    | refine go_true rfl ?_
    | refine go_false rfl ?_
    | refine go_cond rfl (fun h => ?_) (fun h => ?_)
    | refine ⟨rfl, ?_⟩
    | (refine ⟨trivial, ?_⟩; conv => whnf)
    | (refine ⟨le_of_ble rfl, ?_⟩; conv => whnf)
    | fail
  all_goals refine ret_imm rfl rfl rfl rfl ?_ rfl
  all_goals simp_all [msgOk, hE1, hE2, hE3, Bool.and_assoc]

theorem c85 (m : Message) : CallOk Try.prog 85 [.imm (.agg m.enc)] { res := [.imm (.bool (msgOk m))] } := by
  refine callOk_of tyOk Try.func85 rfl rfl (le_of_ble rfl) (le_of_ble rfl) (mutOk_imm rfl _) ?_
  have hl := c98 m.line
  have hs := c98 m.stop
  have ht := c91 m.fro
  have ht2 := c91 m.to
  have hm := c102 m.mins 1 600
  repeat' first
    | refine go_seq ?_
    | refine go_region ?_
    | (refine go_op rfl ?_; conv => whnf)
    | (refine go_nil ?_; conv => whnf)
    | (refine go_hit rfl rfl rfl ?_; conv => whnf)
    | (refine go_miss rfl rfl rfl ?_)
    | (refine go_undef rfl rfl rfl ?_)
    | (refine go_splitT rfl rfl rfl (fun h => ?_) (fun h => ?_) <;> conv => whnf)
    | (refine go_splitF rfl rfl rfl (fun h => ?_) (fun h => ?_) <;> conv => whnf)
    | (refine go_storeBox rfl rfl rfl rfl rfl rfl ?_; conv => whnf)
    | (refine go_dop rfl ?_; conv => whnf)
    | (refine go_dhit rfl rfl ?_; conv => whnf)
    | refine go_dmiss rfl rfl ?_
    | refine go_dundef rfl rfl ?_
    | (refine go_dend (by kernel_rfl) ?_; conv => whnf)
    | refine go_draw drawsOk ?_
    | (refine go_pickT rfl ?_; conv => whnf)
    | (refine go_pickF rfl ?_; conv => whnf)
    | (refine go_pick rfl (fun h => ?_) (fun h => ?_) <;> conv => whnf)
    | (refine go_call [] (hl) rfl rfl rfl rfl ?_; conv => whnf)
    | (refine go_call [] (hs) rfl rfl rfl rfl ?_; conv => whnf)
    | (refine go_call [] (ht) rfl rfl rfl rfl ?_; conv => whnf)
    | (refine go_call [] (ht2) rfl rfl rfl rfl ?_; conv => whnf)
    | (refine go_call [] (hm) rfl rfl rfl rfl ?_; conv => whnf)
    | (refine go_loadB ?_; conv => whnf)
    | (refine ⟨by kernel_rfl, ?_⟩; conv => whnf)
    | (refine go_ret ?_; conv => whnf)
    | refine go_block ?_
    | (refine go_skip ?_; conv => whnf)
    | (refine go_exit ?_; conv => whnf)
    | refine go_true rfl ?_
    | refine go_false rfl ?_
    | refine go_cond rfl (fun h => ?_) (fun h => ?_)
    | refine ⟨rfl, ?_⟩
    | (refine ⟨trivial, ?_⟩; conv => whnf)
    | (refine ⟨le_of_ble rfl, ?_⟩; conv => whnf)
    | fail
  all_goals refine ret_imm rfl rfl rfl rfl ?_ rfl
  all_goals first | (simp_all [msgOk, periodOk, hE1, hE2, str_self, Bool.and_assoc]; done) | (simp_all [msgOk, periodOk, hE1, hE2, str_self, Bool.and_assoc]; intros; simp_all; done)

theorem c13 (m : Message) : CallOk Try.prog 13 [.imm (.agg m.enc)] { res := [.imm (.bool (msgOk m))] } := by
  refine callOk_of tyOk Try.func13 rfl rfl (le_of_ble rfl) (le_of_ble rfl) (mutOk_imm rfl _) ?_
  repeat' first
    | refine go_seq ?_
    | refine go_region ?_
    | (refine go_op rfl ?_; conv => whnf)
    | (refine go_nil ?_; conv => whnf)
    | (refine go_hit rfl rfl rfl ?_; conv => whnf)
    | (refine go_miss rfl rfl rfl ?_)
    | (refine go_undef rfl rfl rfl ?_)
    | (refine go_splitT rfl rfl rfl (fun h => ?_) (fun h => ?_) <;> conv => whnf)
    | (refine go_splitF rfl rfl rfl (fun h => ?_) (fun h => ?_) <;> conv => whnf)
    | (refine go_storeBox rfl rfl rfl rfl rfl rfl ?_; conv => whnf)
    | (refine go_dop rfl ?_; conv => whnf)
    | (refine go_dhit rfl rfl ?_; conv => whnf)
    | refine go_dmiss rfl rfl ?_
    | refine go_dundef rfl rfl ?_
    | (refine go_dend (by kernel_rfl) ?_; conv => whnf)
    | refine go_draw drawsOk ?_
    | (refine go_pickT rfl ?_; conv => whnf)
    | (refine go_pickF rfl ?_; conv => whnf)
    | (refine go_pick rfl (fun h => ?_) (fun h => ?_) <;> conv => whnf)
    | (refine go_call [] (c85 m) rfl rfl rfl rfl ?_; conv => whnf)
    | (refine go_loadB ?_; conv => whnf)
    | (refine ⟨by kernel_rfl, ?_⟩; conv => whnf)
    | (refine go_ret ?_; conv => whnf)
    | refine go_block ?_
    | (refine go_skip ?_; conv => whnf)
    | (refine go_exit ?_; conv => whnf)
    | refine go_true rfl ?_
    | refine go_false rfl ?_
    | refine go_cond rfl (fun h => ?_) (fun h => ?_)
    | refine ⟨rfl, ?_⟩
    | (refine ⟨trivial, ?_⟩; conv => whnf)
    | (refine ⟨le_of_ble rfl, ?_⟩; conv => whnf)
    | fail
  all_goals exact ret_imm rfl rfl rfl rfl rfl rfl

theorem c3 (m : Message) (_ : m.ok) : CallOk Try.prog 3 [.imm (.agg m.enc)] { res := [.imm (.bool true)] } := by
  refine callOk_of tyOk Try.func3 rfl rfl (le_of_ble rfl) (le_of_ble rfl) (mutOk_imm rfl _) ?_
  repeat' first
    | refine go_seq ?_
    | refine go_region ?_
    | (refine go_op rfl ?_; conv => whnf)
    | (refine go_nil ?_; conv => whnf)
    | (refine go_hit rfl rfl rfl ?_; conv => whnf)
    | (refine go_miss rfl rfl rfl ?_)
    | (refine go_undef rfl rfl rfl ?_)
    | (refine go_splitT rfl rfl rfl (fun h => ?_) (fun h => ?_) <;> conv => whnf)
    | (refine go_splitF rfl rfl rfl (fun h => ?_) (fun h => ?_) <;> conv => whnf)
    | (refine go_storeBox rfl rfl rfl rfl rfl rfl ?_; conv => whnf)
    | (refine go_dop rfl ?_; conv => whnf)
    | (refine go_dhit rfl rfl ?_; conv => whnf)
    | refine go_dmiss rfl rfl ?_
    | refine go_dundef rfl rfl ?_
    | (refine go_dend (by kernel_rfl) ?_; conv => whnf)
    | refine go_draw drawsOk ?_
    | (refine go_pickT rfl ?_; conv => whnf)
    | (refine go_pickF rfl ?_; conv => whnf)
    | (refine go_pick rfl (fun h => ?_) (fun h => ?_) <;> conv => whnf)
    | (refine go_call [] (c12 m _) rfl rfl rfl rfl ?_; conv => whnf)
    | (refine go_call [] (c14 m) rfl rfl rfl rfl ?_; conv => whnf)
    | (refine go_call [] (c13 m) rfl rfl rfl rfl ?_; conv => whnf)
    | (refine go_call [] (c15 m) rfl rfl rfl rfl ?_; conv => whnf)
    | (refine go_loadB ?_; conv => whnf)
    | (refine ⟨by kernel_rfl, ?_⟩; conv => whnf)
    | (refine go_ret ?_; conv => whnf)
    | refine go_block ?_
    | (refine go_skip ?_; conv => whnf)
    | (refine go_exit ?_; conv => whnf)
    | refine go_true rfl ?_
    | refine go_false rfl ?_
    | refine go_cond rfl (fun h => ?_) (fun h => ?_)
    | refine ⟨rfl, ?_⟩
    | (refine ⟨trivial, ?_⟩; conv => whnf)
    | (refine ⟨le_of_ble rfl, ?_⟩; conv => whnf)
    | fail
  all_goals first | exact ret_imm rfl rfl rfl rfl rfl rfl | (exfalso; simp at h; done)
end Go.Proofs.Ytlkmbamenkjcmaa

