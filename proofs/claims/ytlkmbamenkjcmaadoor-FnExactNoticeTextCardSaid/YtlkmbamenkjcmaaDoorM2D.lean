/- The walks of one message. -/
import Derived.Test.YtlkmbamenkjcmaaDoorHMD
import Derived.Test.YtlkmbamenkjcmaaDoorAmC
namespace Go.Proofs.YtlkmbamenkjcmaaDoor
open Go Go.Am
set_option maxRecDepth 100000
set_option maxHeartbeats 4000000
attribute [local irreducible] amOps amC opCall opIndexAddr opPick retQ opMake opStore amDraw opAppend opLoad opNilCmp opIndex

def e0 : ByteArray := ByteArray.empty
theorem hE1 : (⟨#[]⟩ : ByteArray) = e0 := rfl
theorem hE2 : ByteArray.empty = e0 := rfl
theorem hE3 : (e0 == e0) = true := str_self e0
def periodOk (m : Message) : Bool := timeOk m.fro && timeOk m.to && decide (m.fro ≤ m.to)
def msgOk (m : Message) : Bool :=
  if m.kind = 1 then nameOk m.line && inR m.mins 1 600 && (m.stop == e0) && decide (m.fro = 0) && decide (m.to = 0)
  else if m.kind = 2 ∨ m.kind = 5 then nameOk m.line && timeOk m.fro && (m.stop == e0) && decide (m.to = 0) && decide (m.mins = 0)
  else if m.kind = 3 then nameOk m.stop && periodOk m && (m.line == e0) && decide (m.mins = 0)
  else if m.kind = 4 then nameOk m.line && nameOk m.stop && periodOk m && decide (m.mins = 0)
  else false

theorem c37 (m : Message) : CallOk Tryd.prog 37 [.imm (.agg m.enc)] { res := [.imm (.bool (periodOk m))] } := by
  refine callOk_of tyOk Tryd.func37 rfl rfl (le_of_ble rfl) (le_of_ble rfl) (mutOk_imm rfl _) ?_
  repeat' first
    | refine go_seq ?_
    | refine go_region ?_
    | (refine go_op rfl ?_; conv => whnf)
    | (refine go_nil ?_; conv => whnf)
    | (refine go_hit rfl rfl rfl ?_; conv => whnf)
    | (refine go_miss rfl rfl rfl ?_)
    | (refine go_undef rfl rfl rfl ?_)
    | (refine go_splitT rfl rfl rfl (fun h => ?_) (fun h => ?_) <;> conv => whnf)
    | (refine go_splitF rfl rfl rfl (fun h => ?_) (fun h => ?_) <;> conv => whnf)
    | (refine go_storeBox rfl rfl rfl rfl rfl rfl ?_; conv => whnf)
    | (refine go_dop rfl ?_; conv => whnf)
    | (refine go_dhit rfl rfl ?_; conv => whnf)
    | (refine go_dmiss rfl rfl ?_; conv => whnf)
    | (refine go_dundef rfl rfl ?_; conv => whnf)
    | (refine go_dend (by kernel_rfl) ?_; conv => whnf)
    | refine go_draw drawsOk ?_
    | (refine go_pickT rfl ?_; conv => whnf)
    | (refine go_pickF rfl ?_; conv => whnf)
    | (refine go_pick rfl (fun h => ?_) (fun h => ?_) <;> conv => whnf)
    | (refine go_call [] (c31 _) rfl rfl rfl rfl ?_; conv => whnf)
    | (refine go_dsplit2 rfl (fun h => ?_) (fun h => ?_) <;> conv => whnf)
    | (refine go_loadB ?_; conv => whnf)
    | (refine ⟨by kernel_rfl, ?_⟩; conv => whnf)
    | (refine go_ret ?_; conv => whnf)
    | refine go_block ?_
    | (refine go_skip ?_; conv => whnf)
    | (refine go_exit ?_; conv => whnf)
    | refine go_true rfl ?_
    | refine go_false rfl ?_
    | refine go_cond rfl (fun h => ?_) (fun h => ?_)
    | refine ⟨rfl, ?_⟩
    | (refine ⟨trivial, ?_⟩; conv => whnf)
    | (refine ⟨le_of_ble rfl, ?_⟩; conv => whnf)
    | fail
  all_goals refine ret_imm rfl rfl rfl rfl ?_ rfl
  all_goals simp_all [periodOk]

theorem c21 (m : Message) : CallOk Tryd.prog 21 [.imm (.agg m.enc)] { res := [.imm (.bool (msgOk m))] } := by
  refine callOk_of tyOk Tryd.func21 rfl rfl (le_of_ble rfl) (le_of_ble rfl) (mutOk_imm rfl _) ?_
  have hc88 := c37 m
  have hl := c33 m.line
  have hs := c33 m.stop
  have ht := c31 m.fro
  have hm := c32 m.mins 1 600
  repeat' first
    | refine go_seq ?_
    | refine go_region ?_
    | (refine go_op rfl ?_; conv => whnf)
    | (refine go_nil ?_; conv => whnf)
    | (refine go_hit rfl rfl rfl ?_; conv => whnf)
    | (refine go_miss rfl rfl rfl ?_)
    | (refine go_undef rfl rfl rfl ?_)
    | (refine go_splitT rfl rfl rfl (fun h => ?_) (fun h => ?_) <;> conv => whnf)
    | (refine go_splitF rfl rfl rfl (fun h => ?_) (fun h => ?_) <;> conv => whnf)
    | (refine go_storeBox rfl rfl rfl rfl rfl rfl ?_; conv => whnf)
    | (refine go_dop rfl ?_; conv => whnf)
    | (refine go_dhit rfl rfl ?_; conv => whnf)
    | (refine go_dmiss rfl rfl ?_; conv => whnf)
    | (refine go_dundef rfl rfl ?_; conv => whnf)
    | (refine go_dend (by kernel_rfl) ?_; conv => whnf)
    | refine go_draw drawsOk ?_
    | (refine go_pickT rfl ?_; conv => whnf)
    | (refine go_pickF rfl ?_; conv => whnf)
    | (refine go_pick rfl (fun h => ?_) (fun h => ?_) <;> conv => whnf)
    | (refine go_call [] (hc88) rfl rfl rfl rfl ?_; conv => whnf)
    | (refine go_call [] (hl) rfl rfl rfl rfl ?_; conv => whnf)
    | (refine go_call [] (hs) rfl rfl rfl rfl ?_; conv => whnf)
    | (refine go_call [] (ht) rfl rfl rfl rfl ?_; conv => whnf)
    | (refine go_call [] (hm) rfl rfl rfl rfl ?_; conv => whnf)
    | (refine go_dsplit2 rfl (fun h => ?_) (fun h => ?_) <;> conv => whnf)
    | (refine go_loadB ?_; conv => whnf)
    | (refine ⟨by kernel_rfl, ?_⟩; conv => whnf)
    | (refine go_ret ?_; conv => whnf)
    | refine go_block ?_
    | (refine go_skip ?_; conv => whnf)
    | (refine go_exit ?_; conv => whnf)
    | refine go_true rfl ?_
    | refine go_false rfl ?_
    | refine go_cond rfl (fun h => ?_) (fun h => ?_)
    | refine ⟨rfl, ?_⟩
    | (refine ⟨trivial, ?_⟩; conv => whnf)
    | (refine ⟨le_of_ble rfl, ?_⟩; conv => whnf)
    | fail
  all_goals refine ret_imm rfl rfl rfl rfl ?_ rfl
  all_goals simp_all [msgOk, hE1, hE2, hE3, Bool.and_assoc]

theorem c19 (m : Message) : CallOk Tryd.prog 19 [.imm (.agg m.enc)] { res := [.imm (.bool (msgOk m))] } := by
  refine callOk_of tyOk Tryd.func19 rfl rfl (le_of_ble rfl) (le_of_ble rfl) (mutOk_imm rfl _) ?_
  have hl := c29 m.line
  have hs := c29 m.stop
  have ht := c27 m.fro
  have ht2 := c27 m.to
  have hm := c28 m.mins 1 600
  repeat' first
    | refine go_seq ?_
    | refine go_region ?_
    | (refine go_op rfl ?_; conv => whnf)
    | (refine go_nil ?_; conv => whnf)
    | (refine go_hit rfl rfl rfl ?_; conv => whnf)
    | (refine go_miss rfl rfl rfl ?_)
    | (refine go_undef rfl rfl rfl ?_)
    | (refine go_splitT rfl rfl rfl (fun h => ?_) (fun h => ?_) <;> conv => whnf)
    | (refine go_splitF rfl rfl rfl (fun h => ?_) (fun h => ?_) <;> conv => whnf)
    | (refine go_storeBox rfl rfl rfl rfl rfl rfl ?_; conv => whnf)
    | (refine go_dop rfl ?_; conv => whnf)
    | (refine go_dhit rfl rfl ?_; conv => whnf)
    | (refine go_dmiss rfl rfl ?_; conv => whnf)
    | (refine go_dundef rfl rfl ?_; conv => whnf)
    | (refine go_dend (by kernel_rfl) ?_; conv => whnf)
    | refine go_draw drawsOk ?_
    | (refine go_pickT rfl ?_; conv => whnf)
    | (refine go_pickF rfl ?_; conv => whnf)
    | (refine go_pick rfl (fun h => ?_) (fun h => ?_) <;> conv => whnf)
    | (refine go_call [] (hl) rfl rfl rfl rfl ?_; conv => whnf)
    | (refine go_call [] (hs) rfl rfl rfl rfl ?_; conv => whnf)
    | (refine go_call [] (ht) rfl rfl rfl rfl ?_; conv => whnf)
    | (refine go_call [] (ht2) rfl rfl rfl rfl ?_; conv => whnf)
    | (refine go_call [] (hm) rfl rfl rfl rfl ?_; conv => whnf)
    | (refine go_dsplit2 rfl (fun h => ?_) (fun h => ?_) <;> conv => whnf)
    | (refine go_loadB ?_; conv => whnf)
    | (refine ⟨by kernel_rfl, ?_⟩; conv => whnf)
    | (refine go_ret ?_; conv => whnf)
    | refine go_block ?_
    | (refine go_skip ?_; conv => whnf)
    | (refine go_exit ?_; conv => whnf)
    | refine go_true rfl ?_
    | refine go_false rfl ?_
    | refine go_cond rfl (fun h => ?_) (fun h => ?_)
    | refine ⟨rfl, ?_⟩
    | (refine ⟨trivial, ?_⟩; conv => whnf)
    | (refine ⟨le_of_ble rfl, ?_⟩; conv => whnf)
    | fail
  all_goals refine ret_imm rfl rfl rfl rfl ?_ rfl
  all_goals first | (simp_all [msgOk, periodOk, hE1, hE2, str_self, Bool.and_assoc]; done) | (simp_all [msgOk, periodOk, hE1, hE2, str_self, Bool.and_assoc]; intros; simp_all; done)

end Go.Proofs.YtlkmbamenkjcmaaDoor

