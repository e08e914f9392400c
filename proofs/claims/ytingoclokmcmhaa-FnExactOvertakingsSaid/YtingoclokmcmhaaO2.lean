/- Lists of lists of numbers: compared, and their marks looked at. -/
import Derived.Test.YtingoclokmcmhaaO1
namespace Go.Proofs.Ytingoclokmcmhaa
open Go Go.Am
set_option maxRecDepth 100000
set_option maxHeartbeats 4000000
attribute [local irreducible] amOps amC opCall opIndexAddr opPick retQ opMake opStore amDraw opAppend opLoad opNilCmp opIndex opSlice xQ

theorem lst_rep (rows : List (List Int)) {v : Value} : ∀ w F B, LstI rows v w F → (∀ b, F b → ¬ B b) → Rep w B v (.list (rows.map intsRow)) := by
  intro w F B h hB
  refine NstI.rep h (rows.map intsRow) (fun xs hxs => ?_) hB
  have hl := congrArg List.length hxs
  simp only [List.length_map] at hl
  have hfl : (rows.map intsRow).flatten = rows.map fun r => D.list (r.map intRow) := by
    clear hxs hl h
    induction rows with
    | nil => rfl
    | cons y ys ih => simp only [List.map_cons, List.flatten_cons, ih]; rfl
  refine ⟨by simp [outS, hl], fun r hr => ?_, fun j d' hj => ?_⟩
  · obtain ⟨_, _, rfl⟩ := List.mem_map.1 hr
    rfl
  · rw [hfl, List.getElem?_map] at hj
    obtain ⟨r, hr, rfl⟩ := Option.map_eq_some_iff.1 hj
    obtain ⟨x, hx⟩ : ∃ x, xs[j]? = some x := ⟨_, List.getElem?_eq_getElem (by rw [hl]; exact (List.getElem?_eq_some_iff.1 hr).1)⟩
    have hx2 : x.2 = r.map intRow := by
      have := congrArg (fun l => l[j]?) hxs
      simp only [List.getElem?_map, hx, hr, Option.map_some, Option.some.injEq] at this
      exact this
    exact ⟨_, outS_flat xs hx, .inr ⟨x, List.mem_of_getElem? hx, rfl, by rw [hx2]⟩⟩

theorem c10s (rows : List (List Int)) (hl : rows.length ≤ 1048576) (hrl : ∀ r ∈ rows, r.length ≤ 1048576) : CallOk Try.prog 10 [.imm (.list (rows.map intsRow)), .imm (.list (rows.map intsRow))] { res := [.imm (.bool true)] } := by
  refine callOk_of tyOk Try.func10 rfl rfl (le_of_ble rfl) (le_of_ble rfl) (mutOk_imm rfl _) ?_
  repeat' first | refine go_seq ?_ | refine go_region ?_ | refine go_draw drawsOk ?_ | ((first | refine go_op rfl ?_ | refine go_nil ?_ | refine go_dop rfl ?_ | refine go_dend (by kernel_rfl) ?_) <;> conv => whnf) | ((first | refine go_loadB ?_ | refine ⟨by kernel_rfl, ?_⟩ | refine go_ret ?_) <;> conv => whnf) | refine go_block ?_ | ((first | refine go_skip ?_ | refine go_exit ?_) <;> conv => whnf) | refine go_true rfl ?_ | refine go_false rfl ?_ | refine go_cond rfl (fun h => ?_) (fun h => ?_) | refine ⟨rfl, ?_⟩ | ((first | refine ⟨trivial, ?_⟩ | refine ⟨le_of_ble rfl, ?_⟩) <;> conv => whnf) | fail
  · exfalso; simp at h
  refine go_loop (α := Nat) (fun i => i ≤ rows.length) (fun i => rows.length - i)
    (fun i => st Try.f10.ntmps [(0, .imm (.list (rows.map intsRow))), (1, .imm (.list (rows.map intsRow))), (5, .imm (.int .i64 (i : Nat)))] [] []) 0 (Nat.zero_le _) (ref_st0 rfl ⟨rfl, rfl, rfl, trivial⟩ rfl) ?_
  intro i hi
  cases hx : rows[i]? with
  | none =>
    have hge := le_of_at hx
    repeat' first | refine go_seq ?_ | refine go_region ?_ | refine go_draw drawsOk ?_ | ((first | refine go_op rfl ?_ | refine go_nil ?_ | refine go_dop rfl ?_ | refine go_dend (by kernel_rfl) ?_) <;> conv => whnf) | ((first | refine go_loadB ?_ | refine ⟨by kernel_rfl, ?_⟩ | refine go_ret ?_) <;> conv => whnf) | refine go_block ?_ | ((first | refine go_skip ?_ | refine go_exit ?_) <;> conv => whnf) | refine go_true rfl ?_ | refine go_false rfl ?_ | refine go_cond rfl (fun h => ?_) (fun h => ?_) | refine ⟨rfl, ?_⟩ | ((first | refine ⟨trivial, ?_⟩ | refine ⟨le_of_ble rfl, ?_⟩) <;> conv => whnf) | fail
    all_goals first
      | exact ret_imm rfl rfl rfl rfl rfl rfl
      | (exfalso; simp at h; omega)
      | trace_state
  | some r =>
    have hlt := lt_of_at hx
    have hr := row_at intsRow hx
    have hc := c27s r (hrl r (List.mem_of_getElem? hx))
    repeat' first | refine go_seq ?_ | refine go_region ?_ | refine go_draw drawsOk ?_ | ((first | refine go_op rfl ?_ | refine go_nil ?_ | refine go_dop rfl ?_ | refine go_dend (by kernel_rfl) ?_ | refine go_call [] (hc) rfl rfl rfl rfl ?_ | refine go_idx rfl rfl rfl rfl (by omega) hr rfl ?_) <;> conv => whnf) | ((first | refine go_loadB ?_ | refine ⟨by kernel_rfl, ?_⟩ | refine go_ret ?_) <;> conv => whnf) | refine go_block ?_ | ((first | refine go_skip ?_ | refine go_exit ?_) <;> conv => whnf) | refine go_true rfl ?_ | refine go_false rfl ?_ | refine go_cond rfl (fun h => ?_) (fun h => ?_) | refine ⟨rfl, ?_⟩ | ((first | refine ⟨trivial, ?_⟩ | refine ⟨le_of_ble rfl, ?_⟩) <;> conv => whnf) | fail
    all_goals first
      | exact go_next (i + 1) (by omega) (by omega) (ref_st0 rfl ⟨rfl, rfl, next_i (by omega), trivial⟩ rfl)
      | (exfalso; simp at h; done)
      | (exfalso; simp at h; omega)
      | trace_state

theorem c16 (rows : List (List Int)) (k : Int) (h0 : 0 ≤ k) (h1 : k + cntSS rows ≤ 576460752303423488) (hl : rows.length ≤ 1048576) (hrl : ∀ r ∈ rows, r.length ≤ 1048576) :
    CallOk Try.prog 16 [.imm (.list ((mkSS k rows).map intsRow)), .imm (.int .i64 k)] { res := [.imm (.int .i64 (kS k rows))] } := by
  refine callOk_of tyOk Try.func16 rfl rfl (le_of_ble rfl) (le_of_ble rfl) (mutOk_imm rfl _) ?_
  have hml := mkSS_len k rows
  repeat' first | refine go_seq ?_ | refine go_region ?_ | ((first | refine go_op rfl ?_ | refine go_nil ?_) <;> conv => whnf) | ((first | refine go_loadB ?_ | refine ⟨by kernel_rfl, ?_⟩ | refine go_ret ?_) <;> conv => whnf) | refine go_block ?_ | ((first | refine go_skip ?_ | refine go_exit ?_) <;> conv => whnf) | refine go_true rfl ?_ | refine go_false rfl ?_ | refine go_cond rfl (fun h => ?_) (fun h => ?_) | refine ⟨rfl, ?_⟩ | ((first | refine ⟨trivial, ?_⟩ | refine ⟨le_of_ble rfl, ?_⟩) <;> conv => whnf) | fail
  refine go_loop (α := Nat) (fun i => i ≤ rows.length) (fun i => rows.length - i)
    (fun i => st Try.f16.ntmps [(0, .imm (.list ((mkSS k rows).map intsRow))), (1, .imm (.int .i64 (kS k (rows.take i)))), (5, .imm (.int .i64 (i : Nat)))] [] []) 0 (Nat.zero_le _) (ref_st0 rfl ⟨rfl, rfl, rfl, trivial⟩ rfl) ?_
  intro i hi
  cases hx : rows[i]? with
  | none =>
    have hge := le_of_at hx
    rw [kS_all hge]
    repeat' first | refine go_seq ?_ | refine go_region ?_ | ((first | refine go_op rfl ?_ | refine go_nil ?_) <;> conv => whnf) | ((first | refine go_loadB ?_ | refine ⟨by kernel_rfl, ?_⟩ | refine go_ret ?_) <;> conv => whnf) | refine go_block ?_ | ((first | refine go_skip ?_ | refine go_exit ?_) <;> conv => whnf) | refine go_true rfl ?_ | refine go_false rfl ?_ | refine go_cond rfl (fun h => ?_) (fun h => ?_) | refine ⟨rfl, ?_⟩ | ((first | refine ⟨trivial, ?_⟩ | refine ⟨le_of_ble rfl, ?_⟩) <;> conv => whnf) | fail
    all_goals first
      | exact ret_imm rfl rfl rfl rfl rfl rfl
      | (exfalso; rw [List.length_map, hml] at h; simp at h; omega)
      | trace_state
  | some r =>
    have hlt := lt_of_at hx
    have hr := row_at intsRow (mkSS_at (k := k) hx)
    have hc1 := cnt_take rows i
    have hk := kS_eq (rows.take i) k h0 (by omega)
    have hc2 := cnt_take rows (i + 1)
    have hk2 := kS_eq (rows.take (i + 1)) k h0 (by omega)
    have hc := c34 (kS k (rows.take i)) r.length (by omega) (by omega) (hrl r (List.mem_of_getElem? hx))
    have hkn := kS_next (k := k) hx
    rw [← hkn] at hc
    repeat' first | refine go_seq ?_ | refine go_region ?_ | ((first | refine go_op rfl ?_ | refine go_nil ?_ | refine go_call [] (hc) rfl rfl rfl rfl ?_ | refine go_idx rfl rfl rfl rfl (by omega) hr rfl ?_) <;> conv => whnf) | ((first | refine go_loadB ?_ | refine ⟨by kernel_rfl, ?_⟩ | refine go_ret ?_) <;> conv => whnf) | refine go_block ?_ | ((first | refine go_skip ?_ | refine go_exit ?_) <;> conv => whnf) | refine go_true rfl ?_ | refine go_false rfl ?_ | refine go_cond rfl (fun h => ?_) (fun h => ?_) | refine ⟨rfl, ?_⟩ | ((first | refine ⟨trivial, ?_⟩ | refine ⟨le_of_ble rfl, ?_⟩) <;> conv => whnf) | fail
    all_goals first
      | exact go_next (i + 1) (by omega) (by omega) (ref_st0 rfl ⟨rfl, rfl, next_i (by omega), trivial⟩ rfl)
      | (exfalso; rw [List.length_map, hml] at h; simp at h; omega)
      | (exfalso; have h2 := of_decide_eq_true h; omega)
      | (exfalso; simp at h; omega)
      | trace_state
end Go.Proofs.Ytingoclokmcmhaa

