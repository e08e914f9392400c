/- The walks of one message. -/
import Derived.Test.YtbjjhiihoiogoaaHM
namespace Go.Proofs.Ytbjjhiihoiogoaa
open Go Go.Am
set_option maxRecDepth 100000
set_option maxHeartbeats 4000000
attribute [local irreducible] amOps amC opCall opIndexAddr opPick retQ opMake opStore amDraw opAppend opLoad opNilCmp opIndex

def e0 : ByteArray := ByteArray.empty
theorem hE1 : (⟨#[]⟩ : ByteArray) = e0 := rfl
theorem hE2 : ByteArray.empty = e0 := rfl
theorem hE3 : (e0 == e0) = true := str_self e0
def periodOk (m : Message) : Bool := timeOk m.fro && timeOk m.to && decide (m.fro ≤ m.to)
def msgOk (m : Message) : Bool :=
  if m.kind = 1 then nameOk m.line && inR m.mins 1 600 && (m.stop == e0) && decide (m.fro = 0) && decide (m.to = 0)
  else if m.kind = 2 ∨ m.kind = 5 then nameOk m.line && timeOk m.fro && (m.stop == e0) && decide (m.to = 0) && decide (m.mins = 0)
  else if m.kind = 3 then nameOk m.stop && periodOk m && (m.line == e0) && decide (m.mins = 0)
  else if m.kind = 4 then nameOk m.line && nameOk m.stop && periodOk m && decide (m.mins = 0)
  else false

theorem c191 (m : Message) : CallOk Try.prog 191 [.imm (.agg m.enc)] { res := [.imm (.bool (periodOk m))] } := by
  refine callOk_of tyOk Try.func191 rfl rfl (le_of_ble rfl) (le_of_ble rfl) (mutOk_imm rfl _) ?_
  repeat' first | refine go_seq ?_ | refine go_region ?_ | refine go_miss rfl rfl rfl ?_ | refine go_undef rfl rfl rfl ?_ | ((first | refine go_op rfl ?_ | refine go_nil ?_ | refine go_hit rfl rfl rfl ?_ | refine go_splitT rfl rfl rfl (fun h => ?_) (fun h => ?_) | refine go_splitF rfl rfl rfl (fun h => ?_) (fun h => ?_) | refine go_pickT rfl ?_ | refine go_pickF rfl ?_ | refine go_pick rfl (fun h => ?_) (fun h => ?_) | refine go_call [] (c104 _) rfl rfl rfl rfl ?_) <;> conv => whnf) | ((first | refine go_loadB ?_ | refine ⟨by kernel_rfl, ?_⟩ | refine go_ret ?_) <;> conv => whnf) | ((first | refine go_skip ?_) <;> conv => whnf) | refine ⟨rfl, ?_⟩ | ((first | refine ⟨trivial, ?_⟩ | refine ⟨le_of_ble rfl, ?_⟩) <;> conv => whnf) | fail
  all_goals refine ret_imm rfl rfl rfl rfl ?_ rfl
  all_goals simp_all [periodOk]

theorem c173 (m : Message) : CallOk Try.prog 173 [.imm (.agg m.enc)] { res := [.imm (.bool (msgOk m))] } := by
  refine callOk_of tyOk Try.func173 rfl rfl (le_of_ble rfl) (le_of_ble rfl) (mutOk_imm rfl _) ?_
  have hc88 := c191 m
  have hl := c185 m.line
  have hs := c185 m.stop
  have ht := c104 m.fro
  have hm := c89 m.mins 1 600
  repeat' first | refine go_seq ?_ | refine go_region ?_ | refine go_miss rfl rfl rfl ?_ | refine go_undef rfl rfl rfl ?_ | ((first | refine go_op rfl ?_ | refine go_nil ?_ | refine go_hit rfl rfl rfl ?_ | refine go_splitT rfl rfl rfl (fun h => ?_) (fun h => ?_) | refine go_splitF rfl rfl rfl (fun h => ?_) (fun h => ?_) | refine go_storeBox rfl rfl rfl rfl rfl rfl ?_ | refine go_pickT rfl ?_ | refine go_pickF rfl ?_ | refine go_pick rfl (fun h => ?_) (fun h => ?_) | refine go_call [] (hc88) rfl rfl rfl rfl ?_ | refine go_call [] (hl) rfl rfl rfl rfl ?_ | refine go_call [] (hs) rfl rfl rfl rfl ?_ | refine go_call [] (ht) rfl rfl rfl rfl ?_ | refine go_call [] (hm) rfl rfl rfl rfl ?_) <;> conv => whnf) | ((first | refine Or.inl ?_ | refine go_loadB ?_ | refine ⟨by kernel_rfl, ?_⟩ | refine go_ret ?_) <;> conv => whnf) | refine go_block ?_ | ((first | refine go_skip ?_ | refine go_exit ?_) <;> conv => whnf) | refine go_true rfl ?_ | refine go_false rfl ?_ | refine go_cond rfl (fun h => ?_) (fun h => ?_) | refine ⟨rfl, ?_⟩ | ((first | refine ⟨trivial, ?_⟩ | refine ⟨le_of_ble rfl, ?_⟩) <;> conv => whnf) | fail
  all_goals refine ret_imm rfl rfl rfl rfl ?_ rfl
  all_goals simp_all [msgOk, hE1, hE2, hE3, Bool.and_assoc]

theorem c171 (m : Message) : CallOk Try.prog 171 [.imm (.agg m.enc)] { res := [.imm (.bool (msgOk m))] } := by
  refine callOk_of tyOk Try.func171 rfl rfl (le_of_ble rfl) (le_of_ble rfl) (mutOk_imm rfl _) ?_
  have hl := c187 m.line
  have hs := c187 m.stop
  have ht := c158 m.fro
  have ht2 := c158 m.to
  have hm := c83 m.mins 1 600
  repeat' first | refine go_seq ?_ | refine go_region ?_ | refine go_miss rfl rfl rfl ?_ | refine go_undef rfl rfl rfl ?_ | ((first | refine go_op rfl ?_ | refine go_nil ?_ | refine go_hit rfl rfl rfl ?_ | refine go_splitT rfl rfl rfl (fun h => ?_) (fun h => ?_) | refine go_splitF rfl rfl rfl (fun h => ?_) (fun h => ?_) | refine go_storeBox rfl rfl rfl rfl rfl rfl ?_ | refine go_pickT rfl ?_ | refine go_pickF rfl ?_ | refine go_pick rfl (fun h => ?_) (fun h => ?_) | refine go_call [] (hl) rfl rfl rfl rfl ?_ | refine go_call [] (hs) rfl rfl rfl rfl ?_ | refine go_call [] (ht) rfl rfl rfl rfl ?_ | refine go_call [] (ht2) rfl rfl rfl rfl ?_ | refine go_call [] (hm) rfl rfl rfl rfl ?_) <;> conv => whnf) | ((first | refine Or.inl ?_ | refine go_loadB ?_ | refine ⟨by kernel_rfl, ?_⟩ | refine go_ret ?_) <;> conv => whnf) | refine go_block ?_ | ((first | refine go_skip ?_ | refine go_exit ?_) <;> conv => whnf) | refine go_true rfl ?_ | refine go_false rfl ?_ | refine go_cond rfl (fun h => ?_) (fun h => ?_) | refine ⟨rfl, ?_⟩ | ((first | refine ⟨trivial, ?_⟩ | refine ⟨le_of_ble rfl, ?_⟩) <;> conv => whnf) | fail
  all_goals refine ret_imm rfl rfl rfl rfl ?_ rfl
  all_goals first | (simp_all [msgOk, periodOk, hE1, hE2, str_self, Bool.and_assoc]; done) | (simp_all [msgOk, periodOk, hE1, hE2, str_self, Bool.and_assoc]; intros; simp_all; done)

end Go.Proofs.Ytbjjhiihoiogoaa

