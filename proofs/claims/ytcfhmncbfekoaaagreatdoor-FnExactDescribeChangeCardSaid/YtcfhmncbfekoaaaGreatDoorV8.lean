/- Lists of changes that can be applied: program, reference, law. -/
import Derived.Test.YtcfhmncbfekoaaaGreatDoorV4
import Derived.Test.YtcfhmncbfekoaaaGreatDoorV7
namespace Go.Proofs.YtcfhmncbfekoaaaGreatDoor
open Go Go.Am
set_option maxRecDepth 100000
set_option maxHeartbeats 8000000
attribute [local irreducible] amOps amC opCall opIndexAddr opPick retQ opMake opStore amDraw opAppend opLoad opNilCmp opIndex opSlice

def ivOk (t : Timetable) (cs : List Change) : Bool := ttOk t && apOk t cs

theorem c31 (t : Timetable) (hf : t.fit) (cs : List Change) (hl : cs.length ≤ 1048576) : CallOk Tryz.prog 31 [.imm (.agg t.enc), .imm (.list (cs.map Change.enc))] { res := [.imm (.bool (ivOk t cs))] } := by
  refine callOk_of tyOk Tryz.func31 rfl rfl (le_of_ble rfl) (le_of_ble rfl) (mutOk_imm rfl _) ?_
  have h0 := c39 t hf
  unfold ivOk
  cases hv : ttOk t with
  | false =>
    rw [hv] at h0
    repeat' first | refine go_seq ?_ | refine go_region ?_ | ((first | refine go_op rfl ?_ | refine go_nil ?_ | refine go_storeBox rfl rfl rfl rfl rfl rfl ?_ | refine go_call [] (h0) rfl rfl rfl rfl ?_) <;> conv => whnf) | ((first | refine go_loadB ?_ | refine ⟨by kernel_rfl, ?_⟩ | refine go_ret ?_) <;> conv => whnf) | ((first | refine go_skip ?_) <;> conv => whnf) | refine go_true rfl ?_ | refine go_false rfl ?_ | refine go_cond rfl (fun h => ?_) (fun h => ?_) | refine ⟨rfl, ?_⟩ | ((first | refine ⟨trivial, ?_⟩ | refine ⟨le_of_ble rfl, ?_⟩) <;> conv => whnf) | fail
    all_goals first
      | exact ret_imm rfl rfl rfl rfl rfl rfl
      | (exfalso; simp at h; done)
      | trace_state
  | true =>
    rw [hv] at h0
    have h1 := c60 t hf hv cs hl
    repeat' first | refine go_seq ?_ | refine go_region ?_ | ((first | refine go_op rfl ?_ | refine go_nil ?_ | refine go_storeBox rfl rfl rfl rfl rfl rfl ?_ | refine go_call [] (h0) rfl rfl rfl rfl ?_ | refine go_call [] (h1) rfl rfl rfl rfl ?_) <;> conv => whnf) | ((first | refine go_loadB ?_ | refine ⟨by kernel_rfl, ?_⟩ | refine go_ret ?_) <;> conv => whnf) | ((first | refine go_skip ?_) <;> conv => whnf) | refine go_true rfl ?_ | refine go_false rfl ?_ | refine go_cond rfl (fun h => ?_) (fun h => ?_) | refine ⟨rfl, ?_⟩ | ((first | refine ⟨trivial, ?_⟩ | refine ⟨le_of_ble rfl, ?_⟩) <;> conv => whnf) | fail
    all_goals first
      | exact ret_imm rfl rfl rfl rfl (by rw [Bool.true_and]) rfl
      | (exfalso; simp at h; done)
      | trace_state

theorem c25 (t : Timetable) (hf : t.fit) (cs : List Change) (hl : cs.length ≤ 1048576) : CallOk Tryz.prog 25 [.imm (.agg t.enc), .imm (.list (cs.map Change.enc))] { res := [.imm (.bool (ivOk t cs))] } := by
  refine callOk_of tyOk Tryz.func25 rfl rfl (le_of_ble rfl) (le_of_ble rfl) (mutOk_imm rfl _) ?_
  have h0 := c37 t hf
  unfold ivOk
  cases hv : ttOk t with
  | false =>
    rw [hv] at h0
    repeat' first | refine go_seq ?_ | refine go_region ?_ | ((first | refine go_op rfl ?_ | refine go_nil ?_ | refine go_storeBox rfl rfl rfl rfl rfl rfl ?_ | refine go_call [] (h0) rfl rfl rfl rfl ?_) <;> conv => whnf) | ((first | refine go_loadB ?_ | refine ⟨by kernel_rfl, ?_⟩ | refine go_ret ?_) <;> conv => whnf) | ((first | refine go_skip ?_) <;> conv => whnf) | refine go_true rfl ?_ | refine go_false rfl ?_ | refine go_cond rfl (fun h => ?_) (fun h => ?_) | refine ⟨rfl, ?_⟩ | ((first | refine ⟨trivial, ?_⟩ | refine ⟨le_of_ble rfl, ?_⟩) <;> conv => whnf) | fail
    all_goals first
      | exact ret_imm rfl rfl rfl rfl rfl rfl
      | (exfalso; simp at h; done)
      | trace_state
  | true =>
    rw [hv] at h0
    have h1 := c56 t hf hv cs hl
    repeat' first | refine go_seq ?_ | refine go_region ?_ | ((first | refine go_op rfl ?_ | refine go_nil ?_ | refine go_storeBox rfl rfl rfl rfl rfl rfl ?_ | refine go_call [] (h0) rfl rfl rfl rfl ?_ | refine go_call [] (h1) rfl rfl rfl rfl ?_) <;> conv => whnf) | ((first | refine go_loadB ?_ | refine ⟨by kernel_rfl, ?_⟩ | refine go_ret ?_) <;> conv => whnf) | ((first | refine go_skip ?_) <;> conv => whnf) | refine go_true rfl ?_ | refine go_false rfl ?_ | refine go_cond rfl (fun h => ?_) (fun h => ?_) | refine ⟨rfl, ?_⟩ | ((first | refine ⟨trivial, ?_⟩ | refine ⟨le_of_ble rfl, ?_⟩) <;> conv => whnf) | fail
    all_goals first
      | exact ret_imm rfl rfl rfl rfl (by rw [Bool.true_and]) rfl
      | (exfalso; simp at h; done)
      | trace_state

end Go.Proofs.YtcfhmncbfekoaaaGreatDoor

