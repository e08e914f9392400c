/- Calendars: on which days a valid one runs: both sides. -/
import Derived.Test.YtlpdlfdafgoafaaSD4
namespace Go.Proofs.Ytlpdlfdafgoafaa
open Go Go.Am Go.SD
set_option maxRecDepth 100000
set_option maxHeartbeats 8000000
attribute [local irreducible] amOps amC opCall opIndexAddr opPick retQ opMake opStore amDraw opAppend opLoad opNilCmp opIndex opSlice

theorem valid_facts {c : Cal} (h : validC c = true) : (0 ≤ c.fro ∧ c.fro ≤ c.to ∧ c.to ≤ 3650) ∧ (0 ≤ c.wd ∧ c.wd ≤ 127) ∧ (c.added.length ≤ 8 ∧ c.removed.length ≤ 8) ∧ ascI (c.fro - 1) c.added c.to = true ∧ ascI (c.fro - 1) c.removed c.to = true := by
  simp only [validC, inR, Bool.and_eq_true, decide_eq_true_eq] at h
  obtain ⟨h1, h2, h3, h4, h5, h6, h7, h8, _⟩ := h
  exact ⟨⟨h1.1, h3, h2.2⟩, h4, ⟨h5, h6⟩, h7, h8⟩

/-- Whether a calendar runs on a day. -/
def runD (c : Cal) (d : Int) : Bool := inR d c.fro c.to && (byW c.wd d && !has c.removed d || has c.added d)
theorem runD_run {c : Cal} {d : Int} (h : c.fro ≤ d ∧ d ≤ c.to) : runD c d = run c d := by
  unfold runD run
  rw [has_contains, has_contains, show inR d c.fro c.to = true from by simp only [inR, Bool.and_eq_true, decide_eq_true_eq]; exact h, Bool.true_and]

theorem c32 (c : Cal) (hv : validC c = true) (d : Int) : CallOk Try.prog 32 [.imm (.agg (calE c)), .imm (.int .i64 d)] { res := [.imm (.bool (runD c d))] } := by
  refine callOk_of tyOk Try.func32 rfl rfl (le_of_ble rfl) (le_of_ble rfl) (mutOk_imm rfl _) ?_
  obtain ⟨k1, k2, k3, k4, k5⟩ := valid_facts hv
  have ha := c24 c.added d (by omega)
  have hr := c24 c.removed d (by omega)
  cases hin : inR d c.fro c.to with
  | false =>
    rw [show runD c d = false from by unfold runD; rw [hin, Bool.false_and]]
    simp only [inR, Bool.and_eq_false_iff, decide_eq_false_iff_not] at hin
    by_cases h1 : d < c.fro
    all_goals
      repeat' first | refine go_seq ?_ | refine go_region ?_ | refine go_miss rfl rfl rfl ?_ | refine go_undef rfl rfl rfl ?_ | ((first | refine go_op rfl ?_ | refine go_nil ?_ | refine go_hit rfl rfl rfl ?_ | refine go_splitT rfl rfl rfl (fun h => ?_) (fun h => ?_) | refine go_splitF rfl rfl rfl (fun h => ?_) (fun h => ?_) | refine go_pickT rfl ?_ | refine go_pickF rfl ?_ | refine go_pick rfl (fun h => ?_) (fun h => ?_)) <;> conv => whnf) | ((first | refine go_loadB ?_ | refine ⟨by kernel_rfl, ?_⟩ | refine go_ret ?_) <;> conv => whnf) | ((first | refine go_skip ?_) <;> conv => whnf) | refine go_true rfl ?_ | refine go_false rfl ?_ | refine go_cond rfl (fun h => ?_) (fun h => ?_) | refine ⟨rfl, ?_⟩ | ((first | refine ⟨trivial, ?_⟩ | refine ⟨le_of_ble rfl, ?_⟩) <;> conv => whnf) | fail
      all_goals first
        | exact ret_imm rfl rfl rfl rfl rfl rfl
        | (exfalso; simp only [decide_eq_true_eq, decide_eq_false_iff_not] at *; omega)
        | skip
    all_goals trace_state
  | true =>
    simp only [inR, Bool.and_eq_true, decide_eq_true_eq] at hin
    have hb := c25 c.wd d k2 (by omega)
    rw [runD_run hin]
    unfold run
    rw [← has_contains, ← has_contains]
    cases e1 : byW c.wd d <;> cases e2 : has c.removed d <;> cases e3 : has c.added d
    all_goals
      rw [e1] at hb
      rw [e2] at hr
      rw [e3] at ha
      repeat' first | refine go_seq ?_ | refine go_region ?_ | refine go_miss rfl rfl rfl ?_ | refine go_undef rfl rfl rfl ?_ | ((first | refine go_op rfl ?_ | refine go_nil ?_ | refine go_hit rfl rfl rfl ?_ | refine go_splitT rfl rfl rfl (fun h => ?_) (fun h => ?_) | refine go_splitF rfl rfl rfl (fun h => ?_) (fun h => ?_) | refine go_pickT rfl ?_ | refine go_pickF rfl ?_ | refine go_pick rfl (fun h => ?_) (fun h => ?_) | refine go_call [] (hb) rfl rfl rfl rfl ?_ | refine go_call [] (ha) rfl rfl rfl rfl ?_ | refine go_call [] (hr) rfl rfl rfl rfl ?_) <;> conv => whnf) | ((first | refine go_loadB ?_ | refine ⟨by kernel_rfl, ?_⟩ | refine go_ret ?_) <;> conv => whnf) | ((first | refine go_skip ?_) <;> conv => whnf) | refine go_true rfl ?_ | refine go_false rfl ?_ | refine go_cond rfl (fun h => ?_) (fun h => ?_) | refine ⟨rfl, ?_⟩ | ((first | refine ⟨trivial, ?_⟩ | refine ⟨le_of_ble rfl, ?_⟩) <;> conv => whnf) | fail
      all_goals first
        | exact ret_imm rfl rfl rfl rfl rfl rfl
        | (exfalso; simp only [decide_eq_true_eq, decide_eq_false_iff_not] at *; omega)
        | trace_state

theorem c18 (c : Cal) (hv : validC c = true) (d : Int) : CallOk Try.prog 18 [.imm (.agg (calE c)), .imm (.int .i64 d)] { res := [.imm (.bool (runD c d))] } := by
  refine callOk_of tyOk Try.func18 rfl rfl (le_of_ble rfl) (le_of_ble rfl) (mutOk_imm rfl _) ?_
  obtain ⟨k1, k2, k3, k4, k5⟩ := valid_facts hv
  have ha := c29 c.added d (by omega)
  have hr := c29 c.removed d (by omega)
  have hb := c30 c k2 k1.1 d
  have hout : inR d c.fro c.to = false → has c.added d = false := by
    intro h
    rw [Bool.eq_false_iff, has_contains]
    intro hc
    have := ascI_mem k4 d (by simpa using hc)
    rw [show inR d c.fro c.to = true from by simp only [inR, Bool.and_eq_true, decide_eq_true_eq]; omega] at h
    cases h
  unfold runD
  cases e0 : inR d c.fro c.to <;> cases e1 : byW c.wd d <;> cases e2 : has c.removed d <;> cases e3 : has c.added d
  all_goals first
    | exact absurd ((hout e0).symm.trans e3) (by decide)
    | skip
  all_goals
    rw [e0, e1] at hb
    rw [e2] at hr
    rw [e3] at ha
    repeat' first | refine go_seq ?_ | refine go_region ?_ | refine go_miss rfl rfl rfl ?_ | refine go_undef rfl rfl rfl ?_ | ((first | refine go_op rfl ?_ | refine go_nil ?_ | refine go_hit rfl rfl rfl ?_ | refine go_splitT rfl rfl rfl (fun h => ?_) (fun h => ?_) | refine go_splitF rfl rfl rfl (fun h => ?_) (fun h => ?_) | refine go_pickT rfl ?_ | refine go_pickF rfl ?_ | refine go_pick rfl (fun h => ?_) (fun h => ?_) | refine go_call [] (hb) rfl rfl rfl rfl ?_ | refine go_call [] (ha) rfl rfl rfl rfl ?_ | refine go_call [] (hr) rfl rfl rfl rfl ?_) <;> conv => whnf) | ((first | refine go_loadB ?_ | refine ⟨by kernel_rfl, ?_⟩ | refine go_ret ?_) <;> conv => whnf) | ((first | refine go_skip ?_) <;> conv => whnf) | refine go_true rfl ?_ | refine go_false rfl ?_ | refine go_cond rfl (fun h => ?_) (fun h => ?_) | refine ⟨rfl, ?_⟩ | ((first | refine ⟨trivial, ?_⟩ | refine ⟨le_of_ble rfl, ?_⟩) <;> conv => whnf) | fail
    all_goals first
      | exact ret_imm rfl rfl rfl rfl rfl rfl
      | (exfalso; simp only [decide_eq_true_eq, decide_eq_false_iff_not] at *; omega)
      | trace_state
end Go.Proofs.Ytlpdlfdafgoafaa

