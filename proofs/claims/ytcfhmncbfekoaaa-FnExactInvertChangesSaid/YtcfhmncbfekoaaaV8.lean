/- Lists of changes that can be applied: program, reference, law. -/
import Derived.Test.YtcfhmncbfekoaaaV4
import Derived.Test.YtcfhmncbfekoaaaV7
namespace Go.Proofs.Ytcfhmncbfekoaaa
open Go Go.Am
set_option maxRecDepth 100000
set_option maxHeartbeats 8000000
attribute [local irreducible] amOps amC opCall opIndexAddr opPick retQ opMake opStore amDraw opAppend opLoad opNilCmp opIndex opSlice

def ivOk (t : Timetable) (cs : List Change) : Bool := ttOk t && apOk t cs

theorem c12 (t : Timetable) (hf : t.fit) (cs : List Change) (hl : cs.length ≤ 1048576) : CallOk Try.prog 12 [.imm (.agg t.enc), .imm (.list (cs.map Change.enc))] { res := [.imm (.bool (ivOk t cs))] } := by
  refine callOk_of tyOk Try.func12 rfl rfl (le_of_ble rfl) (le_of_ble rfl) (mutOk_imm rfl _) ?_
  have h0 := c39 t hf
  unfold ivOk
  cases hv : ttOk t with
  | false =>
    rw [hv] at h0
    repeat' first | refine go_seq ?_ | refine go_region ?_ | ((first | refine go_op rfl ?_ | refine go_nil ?_ | refine go_storeBox rfl rfl rfl rfl rfl rfl ?_ | refine go_call [] (h0) rfl rfl rfl rfl ?_) <;> conv => whnf) | ((first | refine go_loadB ?_ | refine ⟨by kernel_rfl, ?_⟩ | refine go_ret ?_) <;> conv => whnf) | ((first | refine go_skip ?_) <;> conv => whnf) | refine go_true rfl ?_ | refine go_false rfl ?_ | refine go_cond rfl (fun h => ?_) (fun h => ?_) | refine ⟨rfl, ?_⟩ | ((first | refine ⟨trivial, ?_⟩ | refine ⟨le_of_ble rfl, ?_⟩) <;> conv => whnf) | fail
    all_goals first
      | exact ret_imm rfl rfl rfl rfl rfl rfl
      | (exfalso; simp at h; done)
      | trace_state
  | true =>
    rw [hv] at h0
    have h1 := c40 t hf hv cs hl
    repeat' first | refine go_seq ?_ | refine go_region ?_ | ((first | refine go_op rfl ?_ | refine go_nil ?_ | refine go_storeBox rfl rfl rfl rfl rfl rfl ?_ | refine go_call [] (h0) rfl rfl rfl rfl ?_ | refine go_call [] (h1) rfl rfl rfl rfl ?_) <;> conv => whnf) | ((first | refine go_loadB ?_ | refine ⟨by kernel_rfl, ?_⟩ | refine go_ret ?_) <;> conv => whnf) | ((first | refine go_skip ?_) <;> conv => whnf) | refine go_true rfl ?_ | refine go_false rfl ?_ | refine go_cond rfl (fun h => ?_) (fun h => ?_) | refine ⟨rfl, ?_⟩ | ((first | refine ⟨trivial, ?_⟩ | refine ⟨le_of_ble rfl, ?_⟩) <;> conv => whnf) | fail
    all_goals first
      | exact ret_imm rfl rfl rfl rfl (by rw [Bool.true_and]) rfl
      | (exfalso; simp at h; done)
      | trace_state

theorem c9 (t : Timetable) (hf : t.fit) (cs : List Change) (hl : cs.length ≤ 1048576) : CallOk Try.prog 9 [.imm (.agg t.enc), .imm (.list (cs.map Change.enc))] { res := [.imm (.bool (ivOk t cs))] } := by
  refine callOk_of tyOk Try.func9 rfl rfl (le_of_ble rfl) (le_of_ble rfl) (mutOk_imm rfl _) ?_
  have h0 := c34 t hf
  unfold ivOk
  cases hv : ttOk t with
  | false =>
    rw [hv] at h0
    repeat' first | refine go_seq ?_ | refine go_region ?_ | ((first | refine go_op rfl ?_ | refine go_nil ?_ | refine go_storeBox rfl rfl rfl rfl rfl rfl ?_ | refine go_call [] (h0) rfl rfl rfl rfl ?_) <;> conv => whnf) | ((first | refine go_loadB ?_ | refine ⟨by kernel_rfl, ?_⟩ | refine go_ret ?_) <;> conv => whnf) | ((first | refine go_skip ?_) <;> conv => whnf) | refine go_true rfl ?_ | refine go_false rfl ?_ | refine go_cond rfl (fun h => ?_) (fun h => ?_) | refine ⟨rfl, ?_⟩ | ((first | refine ⟨trivial, ?_⟩ | refine ⟨le_of_ble rfl, ?_⟩) <;> conv => whnf) | fail
    all_goals first
      | exact ret_imm rfl rfl rfl rfl rfl rfl
      | (exfalso; simp at h; done)
      | trace_state
  | true =>
    rw [hv] at h0
    have h1 := c35 t hf hv cs hl
    repeat' first | refine go_seq ?_ | refine go_region ?_ | ((first | refine go_op rfl ?_ | refine go_nil ?_ | refine go_storeBox rfl rfl rfl rfl rfl rfl ?_ | refine go_call [] (h0) rfl rfl rfl rfl ?_ | refine go_call [] (h1) rfl rfl rfl rfl ?_) <;> conv => whnf) | ((first | refine go_loadB ?_ | refine ⟨by kernel_rfl, ?_⟩ | refine go_ret ?_) <;> conv => whnf) | ((first | refine go_skip ?_) <;> conv => whnf) | refine go_true rfl ?_ | refine go_false rfl ?_ | refine go_cond rfl (fun h => ?_) (fun h => ?_) | refine ⟨rfl, ?_⟩ | ((first | refine ⟨trivial, ?_⟩ | refine ⟨le_of_ble rfl, ?_⟩) <;> conv => whnf) | fail
    all_goals first
      | exact ret_imm rfl rfl rfl rfl (by rw [Bool.true_and]) rfl
      | (exfalso; simp at h; done)
      | trace_state

theorem c3 (t : Timetable) (hok_t : t.ok) (cs : List Change) (_ : ∀ v ∈ cs, v.ok) (hl_cs : cs.length ≤ 9223372036854775807) : CallOk Try.prog 3 [.imm (.agg t.enc), .imm (.list (cs.map Change.enc))] { res := [.imm (.bool true)] } := by
  refine callOk_of tyOk Try.func3 rfl rfl (le_of_ble rfl) (le_of_ble rfl) (mutOk_imm rfl _) ?_
  have hsz1 := c7 t hok_t (1048576) (by omega) (by omega)
  have hle1 := szTimetable_sz.le (1048576) t (by omega)
  by_cases h01 : 0 ≤ szTimetable 1048576 t
  case neg =>
    repeat' first | refine go_seq ?_ | refine go_region ?_ | refine go_draw drawsOk ?_ | ((first | refine go_op rfl ?_ | refine go_nil ?_ | refine go_storeBox rfl rfl rfl rfl rfl rfl ?_ | refine go_dop rfl ?_ | refine go_dend (by kernel_rfl) ?_ | refine go_call [] (hsz1) rfl rfl rfl rfl ?_) <;> conv => whnf) | ((first | refine go_loadB ?_ | refine ⟨by kernel_rfl, ?_⟩ | refine go_ret ?_) <;> conv => whnf) | ((first | refine go_skip ?_) <;> conv => whnf) | refine go_true rfl ?_ | refine go_false rfl ?_ | refine go_cond rfl (fun h => ?_) (fun h => ?_) | refine ⟨rfl, ?_⟩ | ((first | refine ⟨trivial, ?_⟩ | refine ⟨le_of_ble rfl, ?_⟩) <;> conv => whnf) | fail
    all_goals first
      | exact ret_imm rfl rfl rfl rfl rfl rfl
      | (exfalso; have h' := of_decide_eq_false h; omega)
      | (exfalso; have h' := of_decide_eq_true h; omega)
      | (exfalso; rename_i hq; have h' := of_decide_eq_true hq; omega)
      | (exfalso; rename_i hq; have h' := of_decide_eq_false hq; omega)
      | (exfalso; rename_i hq _; have h' := of_decide_eq_true hq; omega)
      | (exfalso; rename_i hq _; have h' := of_decide_eq_false hq; omega)
      | trace_state
  have hf_t := szTimetable_fit (by omega) h01
  have hsz2 := c8 cs hl_cs (szTimetable 1048576 t) (by omega) (by omega)
  have hle2 := szChangeS_sz.le (szTimetable 1048576 t) cs (by omega)
  by_cases h02 : 0 ≤ szChangeS (szTimetable 1048576 t) cs
  case neg =>
    repeat' first | refine go_seq ?_ | refine go_region ?_ | refine go_draw drawsOk ?_ | ((first | refine go_op rfl ?_ | refine go_nil ?_ | refine go_storeBox rfl rfl rfl rfl rfl rfl ?_ | refine go_dop rfl ?_ | refine go_dend (by kernel_rfl) ?_ | refine go_call [] (hsz1) rfl rfl rfl rfl ?_ | refine go_call [] (hsz2) rfl rfl rfl rfl ?_) <;> conv => whnf) | ((first | refine go_loadB ?_ | refine ⟨by kernel_rfl, ?_⟩ | refine go_ret ?_) <;> conv => whnf) | ((first | refine go_skip ?_) <;> conv => whnf) | refine go_true rfl ?_ | refine go_false rfl ?_ | refine go_cond rfl (fun h => ?_) (fun h => ?_) | refine ⟨rfl, ?_⟩ | ((first | refine ⟨trivial, ?_⟩ | refine ⟨le_of_ble rfl, ?_⟩) <;> conv => whnf) | fail
    all_goals first
      | exact ret_imm rfl rfl rfl rfl rfl rfl
      | (exfalso; have h' := of_decide_eq_false h; omega)
      | (exfalso; have h' := of_decide_eq_true h; omega)
      | (exfalso; rename_i hq; have h' := of_decide_eq_true hq; omega)
      | (exfalso; rename_i hq; have h' := of_decide_eq_false hq; omega)
      | (exfalso; rename_i hq _; have h' := of_decide_eq_true hq; omega)
      | (exfalso; rename_i hq _; have h' := of_decide_eq_false hq; omega)
      | trace_state
  have hlcs : cs.length ≤ 1048576 := by have := less_pos (k := cs.length) h02; omega
  have hspec : CallOk Try.prog 9 [.imm (.agg t.enc), .imm (.list (((cs.map Change.enc).drop 0).take (cs.map Change.enc).length))] { res := [.imm (.bool (ivOk t cs))] } := by rw [change_view]; exact c9 t hf_t cs hlcs
  have himpl : CallOk Try.prog 12 [.imm (.agg t.enc), .imm (.list (((cs.map Change.enc).drop 0).take (cs.map Change.enc).length))] { res := [.imm (.bool (ivOk t cs))] } := by rw [change_view]; exact c12 t hf_t cs hlcs
  have heq_cs : CallOk Try.prog 14 [.imm (.list (((cs.map Change.enc).drop 0).take (cs.map Change.enc).length)), .imm (.list (((cs.map Change.enc).drop 0).take (cs.map Change.enc).length))] { res := [.imm (.bool true)] } := by rw [change_view]; exact c14s cs hlcs
  repeat' first | refine go_seq ?_ | refine go_region ?_ | refine go_draw drawsOk ?_ | ((first | refine go_op rfl ?_ | refine go_nil ?_ | refine go_storeBox rfl rfl rfl rfl rfl rfl ?_ | refine go_dop rfl ?_ | refine go_dend (by kernel_rfl) ?_ | refine go_call [] (hsz1) rfl rfl rfl rfl ?_ | refine go_call [] (hsz2) rfl rfl rfl rfl ?_ | refine go_call [] (c10 t hf_t) rfl rfl rfl rfl ?_ | refine go_call [] (c13s t hf_t) rfl rfl rfl rfl ?_ | refine go_call [] (c11a cs hlcs) rfl rfl rfl rfl ?_ | refine go_call [] (heq_cs) rfl rfl rfl rfl ?_ | refine go_call [] (hspec) rfl rfl rfl rfl ?_ | refine go_call [] (himpl) rfl rfl rfl rfl ?_) <;> conv => whnf) | ((first | refine go_loadB ?_ | refine ⟨by kernel_rfl, ?_⟩ | refine go_ret ?_) <;> conv => whnf) | ((first | refine go_skip ?_) <;> conv => whnf) | refine go_true rfl ?_ | refine go_false rfl ?_ | refine go_cond rfl (fun h => ?_) (fun h => ?_) | refine ⟨rfl, ?_⟩ | ((first | refine ⟨trivial, ?_⟩ | refine ⟨le_of_ble rfl, ?_⟩) <;> conv => whnf) | fail
  all_goals first
    | exact ret_imm rfl rfl rfl rfl rfl rfl
    | (exfalso; simp at h; done)
    | (exfalso; simp at h; omega)
    | (exfalso; have h' := of_decide_eq_false h; omega)
    | (exfalso; have h' := of_decide_eq_true h; omega)
    | (exfalso; rename_i hq; have h' := of_decide_eq_true hq; omega)
    | (exfalso; rename_i hq; have h' := of_decide_eq_false hq; omega)
    | (exfalso; rename_i hq _; have h' := of_decide_eq_true hq; omega)
    | (exfalso; rename_i hq _; have h' := of_decide_eq_false hq; omega)
    | trace_state

end Go.Proofs.Ytcfhmncbfekoaaa

