/- Calendars: days in order, sets of weekdays, whether a day is in a list: both sides. -/
import Derived.Test.YtlpdlfdafgoafaaN2
import Derived.Test.YtlpdlfdafgoafaaSD0
namespace Go.Proofs.Ytlpdlfdafgoafaa
open Go Go.Am Go.SD
set_option maxRecDepth 100000
set_option maxHeartbeats 4000000
attribute [local irreducible] amOps amC opCall opIndexAddr opPick retQ opMake opStore amDraw opAppend opLoad opNilCmp opIndex opSlice

theorem c26 (x : Int) : CallOk Try.prog 26 [.imm (.int .i64 x)] { res := [.imm (.bool (inR x 0 3650))] } := by
  refine callOk_of tyOk Try.func26 rfl rfl (le_of_ble rfl) (le_of_ble rfl) (mutOk_imm rfl _) ?_
  repeat' first | refine go_seq ?_ | refine go_region ?_ | ((first | refine go_op rfl ?_ | refine go_nil ?_ | refine go_call [] (c27 _ _ _) rfl rfl rfl rfl ?_) <;> conv => whnf) | ((first | refine ⟨by kernel_rfl, ?_⟩ | refine go_ret ?_) <;> conv => whnf) | ((first | refine go_skip ?_) <;> conv => whnf) | refine ⟨rfl, ?_⟩ | ((first | refine ⟨trivial, ?_⟩ | refine ⟨le_of_ble rfl, ?_⟩) <;> conv => whnf) | fail
  all_goals exact ret_imm rfl rfl rfl rfl rfl rfl
theorem c22 (x : Int) : CallOk Try.prog 22 [.imm (.int .i64 x)] { res := [.imm (.bool (inR x 0 3650))] } := by
  refine callOk_of tyOk Try.func22 rfl rfl (le_of_ble rfl) (le_of_ble rfl) (mutOk_imm rfl _) ?_
  repeat' first | refine go_seq ?_ | refine go_region ?_ | ((first | refine go_op rfl ?_ | refine go_nil ?_ | refine go_call [] (c33 _ _ _) rfl rfl rfl rfl ?_) <;> conv => whnf) | ((first | refine ⟨by kernel_rfl, ?_⟩ | refine go_ret ?_) <;> conv => whnf) | ((first | refine go_skip ?_) <;> conv => whnf) | refine ⟨rfl, ?_⟩ | ((first | refine ⟨trivial, ?_⟩ | refine ⟨le_of_ble rfl, ?_⟩) <;> conv => whnf) | fail
  all_goals exact ret_imm rfl rfl rfl rfl rfl rfl

theorem asc_step {xs : List Int} {i : Nat} {d last to : Int} (hx : xs[i]? = some d) : ascI last (xs.drop i) to = (decide (last < d) && (decide (d ≤ to) && ascI d (xs.drop (i + 1)) to)) := by
  have hlt := lt_of_at hx
  have : xs.drop i = d :: xs.drop (i + 1) := by
    rw [List.drop_eq_getElem_cons hlt]
    congr 1
    have := List.getElem?_eq_getElem hlt
    rw [hx] at this; injection this with this; exact this.symm
  rw [this]; rfl
theorem asc_end {xs : List Int} {i : Nat} {last to : Int} (h : xs.length ≤ i) : ascI last (xs.drop i) to = true := by
  rw [List.drop_eq_nil_of_le h]; rfl

theorem c23 (xs : List Int) (hl : xs.length ≤ 1048576) (a b : Int) (hab : -9000000000 ≤ a ∧ a ≤ 9000000000) : CallOk Try.prog 23 [.imm (.list (xs.map intRow)), .imm (.int .i64 a), .imm (.int .i64 b)] { res := [.imm (.bool (ascI (a - 1) xs b))] } := by
  refine callOk_of tyOk Try.func23 rfl rfl (le_of_ble rfl) (le_of_ble rfl) (mutOk_imm rfl _) ?_
  have hw : IntKind.i64.wrap (a - 1) = a - 1 := wrap_small (by omega) (by omega)
  repeat' first | refine go_seq ?_ | refine go_region ?_ | refine go_miss rfl rfl rfl ?_ | refine go_undef rfl rfl rfl ?_ | ((first | refine go_op rfl ?_ | refine go_nil ?_ | refine go_hit rfl rfl rfl ?_ | refine go_splitT rfl rfl rfl (fun h => ?_) (fun h => ?_) | refine go_splitF rfl rfl rfl (fun h => ?_) (fun h => ?_) | refine go_pickT rfl ?_ | refine go_pickF rfl ?_ | refine go_pick rfl (fun h => ?_) (fun h => ?_)) <;> conv => whnf) | ((first | refine go_loadB ?_ | refine ⟨by kernel_rfl, ?_⟩ | refine go_ret ?_) <;> conv => whnf) | refine go_block ?_ | ((first | refine go_skip ?_ | refine go_exit ?_) <;> conv => whnf) | refine go_true rfl ?_ | refine go_false rfl ?_ | refine go_cond rfl (fun h => ?_) (fun h => ?_) | refine ⟨rfl, ?_⟩ | ((first | refine ⟨trivial, ?_⟩ | refine ⟨le_of_ble rfl, ?_⟩) <;> conv => whnf) | fail
  refine go_loop (α := Nat × Int) (fun z => z.1 ≤ xs.length ∧ ascI (a - 1) xs b = ascI z.2 (xs.drop z.1) b) (fun z => xs.length - z.1) (fun z => st Try.f23.ntmps [(2, .imm (.int .i64 b)), (7, .imm (.int .i64 z.2)), (12, .imm (.list (xs.map intRow))), (13, .imm (.int .i64 (xs.map intRow).length)), (14, .imm (.int .i64 (z.1 : Nat)))] [] []) (0, a - 1)
    ⟨Nat.zero_le _, rfl⟩ (ref_st0 rfl ⟨rfl, congrArg (fun z => AV.imm (.int .i64 z)) hw, rfl, rfl, rfl, trivial⟩ rfl) ?_
  rintro ⟨i, last⟩ ⟨hi, ha⟩
  simp only at hi ha
  cases hx : xs[i]? with
  | none =>
    have hge := le_of_at hx
    repeat' first | refine go_seq ?_ | refine go_region ?_ | refine go_miss rfl rfl rfl ?_ | refine go_undef rfl rfl rfl ?_ | ((first | refine go_op rfl ?_ | refine go_nil ?_ | refine go_hit rfl rfl rfl ?_ | refine go_splitT rfl rfl rfl (fun h => ?_) (fun h => ?_) | refine go_splitF rfl rfl rfl (fun h => ?_) (fun h => ?_) | refine go_pickT rfl ?_ | refine go_pickF rfl ?_ | refine go_pick rfl (fun h => ?_) (fun h => ?_)) <;> conv => whnf) | ((first | refine go_loadB ?_ | refine ⟨by kernel_rfl, ?_⟩ | refine go_ret ?_) <;> conv => whnf) | refine go_block ?_ | ((first | refine go_skip ?_ | refine go_exit ?_) <;> conv => whnf) | refine go_true rfl ?_ | refine go_false rfl ?_ | refine go_cond rfl (fun h => ?_) (fun h => ?_) | refine ⟨rfl, ?_⟩ | ((first | refine ⟨trivial, ?_⟩ | refine ⟨le_of_ble rfl, ?_⟩) <;> conv => whnf) | fail
    all_goals first
      | (exfalso; simp at h; omega)
      | exact ret_imm rfl rfl rfl rfl (by rw [ha, asc_end hge]) rfl
  | some d =>
    have hlt := lt_of_at hx
    have hr := row_at intRow hx
    rw [asc_step hx] at ha
    rw [ha]
    repeat' first | refine go_seq ?_ | refine go_region ?_ | refine go_miss rfl rfl rfl ?_ | refine go_undef rfl rfl rfl ?_ | ((first | refine go_op rfl ?_ | refine go_nil ?_ | refine go_hit rfl rfl rfl ?_ | refine go_splitT rfl rfl rfl (fun h => ?_) (fun h => ?_) | refine go_splitF rfl rfl rfl (fun h => ?_) (fun h => ?_) | refine go_pickT rfl ?_ | refine go_pickF rfl ?_ | refine go_pick rfl (fun h => ?_) (fun h => ?_) | refine go_idx rfl rfl rfl rfl (by omega) hr rfl ?_) <;> conv => whnf) | ((first | refine go_loadB ?_ | refine ⟨by kernel_rfl, ?_⟩ | refine go_ret ?_) <;> conv => whnf) | refine go_block ?_ | ((first | refine go_skip ?_ | refine go_exit ?_) <;> conv => whnf) | refine go_true rfl ?_ | refine go_false rfl ?_ | refine go_cond rfl (fun h => ?_) (fun h => ?_) | refine ⟨rfl, ?_⟩ | ((first | refine ⟨trivial, ?_⟩ | refine ⟨le_of_ble rfl, ?_⟩) <;> conv => whnf) | fail
    all_goals first
      | (exfalso; simp at *; omega)
      | (refine go_next (i + 1, d) ⟨by show i + 1 ≤ _; omega, ?_⟩ (by show _ - (i + 1) < _ - i; omega) (ref_st0 rfl ⟨rfl, rfl, rfl, rfl, next_i (by omega), trivial⟩ rfl)
         rename_i g1
         have g2 : ¬ b < d := of_decide_eq_false h
         have g3 : ¬ d ≤ last := of_decide_eq_false g1
         show _ = ascI d (xs.drop (i + 1)) b
         rw [decide_eq_true (show last < d by omega), decide_eq_true (show d ≤ b by omega)]
         rfl)
      | (refine ret_imm rfl rfl rfl rfl ?_ rfl; simp at *; omega)
      | (refine ret_imm rfl rfl rfl rfl ?_ rfl; simp_all; omega)
      | (refine ret_imm rfl rfl rfl rfl ?_ rfl; simp_all; done)
      | trace_state

def has (xs : List Int) (d : Int) : Bool := xs.any (pInt d)
theorem has_contains (xs : List Int) (d : Int) : has xs d = xs.contains d := by
  unfold has
  rw [Bool.eq_iff_iff, List.any_eq_true, List.contains_iff_mem]
  simp [pInt]

theorem c24 (xs : List Int) (x : Int) (hl : xs.length ≤ 1048576) : CallOk Try.prog 24 [.imm (.list (xs.map intRow)), .imm (.int .i64 x)] { res := [.imm (.bool (has xs x))] } := by
  refine callOk_of tyOk Try.func24 rfl rfl (le_of_ble rfl) (le_of_ble rfl) (mutOk_imm rfl _) ?_
  have hc := c37 xs x hl
  repeat' first | refine go_seq ?_ | refine go_region ?_ | ((first | refine go_op rfl ?_ | refine go_nil ?_ | refine go_call [] (hc) rfl rfl rfl rfl ?_) <;> conv => whnf) | ((first | refine ⟨by kernel_rfl, ?_⟩ | refine go_ret ?_) <;> conv => whnf) | ((first | refine go_skip ?_) <;> conv => whnf) | refine ⟨rfl, ?_⟩ | ((first | refine ⟨trivial, ?_⟩ | refine ⟨le_of_ble rfl, ?_⟩) <;> conv => whnf) | fail
  all_goals
    refine ret_imm rfl rfl rfl rfl ?_ rfl
    unfold has
    cases h0 : xs.any (pInt x) with
    | true => unfold idxF; rw [h0]; simp
    | false => rw [idxF_miss h0]; rfl

theorem c29 (xs : List Int) (x : Int) (hl : xs.length ≤ 1048576) : CallOk Try.prog 29 [.imm (.list (xs.map intRow)), .imm (.int .i64 x)] { res := [.imm (.bool (has xs x))] } := by
  refine callOk_of tyOk Try.func29 rfl rfl (le_of_ble rfl) (le_of_ble rfl) (mutOk_imm rfl _) ?_
  repeat' first | refine go_seq ?_ | refine go_region ?_ | ((first | refine go_op rfl ?_ | refine go_nil ?_) <;> conv => whnf) | ((first | refine go_loadB ?_ | refine ⟨by kernel_rfl, ?_⟩ | refine go_ret ?_) <;> conv => whnf) | refine go_block ?_ | ((first | refine go_skip ?_ | refine go_exit ?_) <;> conv => whnf) | refine go_true rfl ?_ | refine go_false rfl ?_ | refine go_cond rfl (fun h => ?_) (fun h => ?_) | refine ⟨rfl, ?_⟩ | ((first | refine ⟨trivial, ?_⟩ | refine ⟨le_of_ble rfl, ?_⟩) <;> conv => whnf) | fail
  refine go_loop (α := Nat) (fun i => i ≤ xs.length ∧ (xs.take i).any (pInt x) = false) (fun i => xs.length - i) (fun i => st Try.f29.ntmps [(0, .imm (.list (xs.map intRow))), (1, .imm (.int .i64 x)), (5, .imm (.int .i64 (i : Nat)))] [] []) 0
    ⟨Nat.zero_le _, rfl⟩ (ref_st0 rfl ⟨rfl, rfl, rfl, trivial⟩ rfl) ?_
  rintro i ⟨hi, ha⟩
  cases hx : xs[i]? with
  | none =>
    have hge := le_of_at hx
    rw [List.take_of_length_le hge] at ha
    repeat' first | refine go_seq ?_ | refine go_region ?_ | ((first | refine go_op rfl ?_ | refine go_nil ?_) <;> conv => whnf) | ((first | refine go_loadB ?_ | refine ⟨by kernel_rfl, ?_⟩ | refine go_ret ?_) <;> conv => whnf) | refine go_block ?_ | ((first | refine go_skip ?_ | refine go_exit ?_) <;> conv => whnf) | refine go_true rfl ?_ | refine go_false rfl ?_ | refine go_cond rfl (fun h => ?_) (fun h => ?_) | refine ⟨rfl, ?_⟩ | ((first | refine ⟨trivial, ?_⟩ | refine ⟨le_of_ble rfl, ?_⟩) <;> conv => whnf) | fail
    all_goals first
      | (exfalso; simp at h; omega)
      | exact ret_imm rfl rfl rfl rfl (by unfold has; rw [ha]) rfl
  | some v =>
    have hlt := lt_of_at hx
    have hr := row_at intRow hx
    repeat' first | refine go_seq ?_ | refine go_region ?_ | ((first | refine go_op rfl ?_ | refine go_nil ?_ | refine go_idx rfl rfl rfl rfl (by omega) hr rfl ?_) <;> conv => whnf) | ((first | refine go_loadB ?_ | refine ⟨by kernel_rfl, ?_⟩ | refine go_ret ?_) <;> conv => whnf) | refine go_block ?_ | ((first | refine go_skip ?_ | refine go_exit ?_) <;> conv => whnf) | refine go_true rfl ?_ | refine go_false rfl ?_ | refine go_cond rfl (fun h => ?_) (fun h => ?_) | refine ⟨rfl, ?_⟩ | ((first | refine ⟨trivial, ?_⟩ | refine ⟨le_of_ble rfl, ?_⟩) <;> conv => whnf) | fail
    all_goals first
      | (exfalso; simp at h; omega)
      | exact go_next (i + 1) ⟨by omega, any_next (p := (pInt x)) hx ha (by simp [pInt] at h ⊢; omega)⟩ (by omega) (ref_st0 rfl ⟨rfl, rfl, next_i (by omega), trivial⟩ rfl)
      | (have hm := List.mem_of_getElem? hx
         have e : has xs x = true := by
           unfold has; rw [List.any_eq_true]
           exact ⟨v, hm, by have := of_decide_eq_true h; simp [pInt, this]⟩
         exact ret_imm rfl rfl rfl rfl (by rw [e]) rfl)
      | trace_state

theorem c28 (xs : List Int) (hl : xs.length ≤ 1048576) (a b : Int) : CallOk Try.prog 28 [.imm (.list (xs.map intRow)), .imm (.int .i64 a), .imm (.int .i64 b)] { res := [.imm (.bool (ascI (a - 1) xs b))] } := by
  refine callOk_of tyOk Try.func28 rfl rfl (le_of_ble rfl) (le_of_ble rfl) (mutOk_imm rfl _) ?_
  repeat' first | refine go_seq ?_ | refine go_region ?_ | refine go_miss rfl rfl rfl ?_ | refine go_undef rfl rfl rfl ?_ | refine go_draw drawsOk ?_ | ((first | refine go_op rfl ?_ | refine go_nil ?_ | refine go_hit rfl rfl rfl ?_ | refine go_splitT rfl rfl rfl (fun h => ?_) (fun h => ?_) | refine go_splitF rfl rfl rfl (fun h => ?_) (fun h => ?_) | refine go_dop rfl ?_ | refine go_dhit rfl rfl ?_ | refine go_dmiss rfl rfl ?_ | refine go_dundef rfl rfl ?_ | refine go_dend (by kernel_rfl) ?_ | refine go_pickT rfl ?_ | refine go_pickF rfl ?_ | refine go_pick rfl (fun h => ?_) (fun h => ?_)) <;> conv => whnf) | ((first | refine go_dsplit2 rfl (fun h => ?_) (fun h => ?_) | refine go_loadB ?_ | refine ⟨by kernel_rfl, ?_⟩ | refine go_ret ?_) <;> conv => whnf) | refine go_block ?_ | ((first | refine go_skip ?_ | refine go_exit ?_) <;> conv => whnf) | refine go_true rfl ?_ | refine go_false rfl ?_ | refine go_cond rfl (fun h => ?_) (fun h => ?_) | refine ⟨rfl, ?_⟩ | ((first | refine ⟨trivial, ?_⟩ | refine ⟨le_of_ble rfl, ?_⟩) <;> conv => whnf) | fail
  refine go_loop (α := Nat × Int) (fun z => z.1 ≤ xs.length ∧ a - 1 ≤ z.2 ∧ (z.1 = 0 → z.2 = a - 1) ∧ (∀ k, z.1 = k + 1 → xs[k]? = some z.2) ∧ ascI (a - 1) xs b = ascI z.2 (xs.drop z.1) b) (fun z => xs.length - z.1) (fun z => st Try.f28.ntmps [(0, .imm (.list (xs.map intRow))), (1, .imm (.int .i64 a)), (2, .imm (.int .i64 b)), (7, .imm (.int .i64 (z.1 : Nat)))] [] []) (0, a - 1)
    ⟨Nat.zero_le _, Int.le_refl _, fun _ => rfl, fun k h => by simp at h, rfl⟩ (ref_st0 rfl ⟨rfl, rfl, rfl, rfl, trivial⟩ rfl) ?_
  rintro ⟨i, last⟩ ⟨hi, h0, h1, h2, ha⟩
  simp only at hi h0 h1 h2 ha
  cases hx : xs[i]? with
  | none =>
    have hge := le_of_at hx
    repeat' first | refine go_seq ?_ | refine go_region ?_ | refine go_miss rfl rfl rfl ?_ | refine go_undef rfl rfl rfl ?_ | refine go_draw drawsOk ?_ | ((first | refine go_op rfl ?_ | refine go_nil ?_ | refine go_hit rfl rfl rfl ?_ | refine go_splitT rfl rfl rfl (fun h => ?_) (fun h => ?_) | refine go_splitF rfl rfl rfl (fun h => ?_) (fun h => ?_) | refine go_dop rfl ?_ | refine go_dhit rfl rfl ?_ | refine go_dmiss rfl rfl ?_ | refine go_dundef rfl rfl ?_ | refine go_dend (by kernel_rfl) ?_ | refine go_pickT rfl ?_ | refine go_pickF rfl ?_ | refine go_pick rfl (fun h => ?_) (fun h => ?_)) <;> conv => whnf) | ((first | refine go_dsplit2 rfl (fun h => ?_) (fun h => ?_) | refine go_loadB ?_ | refine ⟨by kernel_rfl, ?_⟩ | refine go_ret ?_) <;> conv => whnf) | refine go_block ?_ | ((first | refine go_skip ?_ | refine go_exit ?_) <;> conv => whnf) | refine go_true rfl ?_ | refine go_false rfl ?_ | refine go_cond rfl (fun h => ?_) (fun h => ?_) | refine ⟨rfl, ?_⟩ | ((first | refine ⟨trivial, ?_⟩ | refine ⟨le_of_ble rfl, ?_⟩) <;> conv => whnf) | fail
    all_goals first
      | (exfalso; simp at h; omega)
      | exact ret_imm rfl rfl rfl rfl (by rw [ha, asc_end hge]) rfl
  | some d =>
    have hlt := lt_of_at hx
    have hr := row_at intRow hx
    rw [asc_step hx] at ha
    have hc := c27 d a b
    cases i with
    | zero =>
      have hlast := h1 rfl
      subst hlast
      cases hin : inR d a b with
      | false =>
        rw [hin] at hc
        have hv : ascI (a - 1) xs b = false := by
          rw [ha]
          simp only [inR, Bool.and_eq_false_iff, decide_eq_false_iff_not] at hin
          rcases hin with hin | hin
          · rw [decide_eq_false (by omega), Bool.false_and]
          · rw [decide_eq_false hin, Bool.false_and, Bool.and_false]
        rw [hv]
        repeat' first | refine go_seq ?_ | refine go_region ?_ | refine go_miss rfl rfl rfl ?_ | refine go_undef rfl rfl rfl ?_ | refine go_draw drawsOk ?_ | ((first | refine go_op rfl ?_ | refine go_nil ?_ | refine go_hit rfl rfl rfl ?_ | refine go_splitT rfl rfl rfl (fun h => ?_) (fun h => ?_) | refine go_splitF rfl rfl rfl (fun h => ?_) (fun h => ?_) | refine go_dop rfl ?_ | refine go_dhit rfl rfl ?_ | refine go_dmiss rfl rfl ?_ | refine go_dundef rfl rfl ?_ | refine go_dend (by kernel_rfl) ?_ | refine go_pickT rfl ?_ | refine go_pickF rfl ?_ | refine go_pick rfl (fun h => ?_) (fun h => ?_) | refine go_call [] (hc) rfl rfl rfl rfl ?_ | refine go_idx rfl rfl rfl rfl (by omega) hr rfl ?_) <;> conv => whnf) | ((first | refine go_dsplit2 rfl (fun h => ?_) (fun h => ?_) | refine go_loadB ?_ | refine ⟨by kernel_rfl, ?_⟩ | refine go_ret ?_) <;> conv => whnf) | refine go_block ?_ | ((first | refine go_skip ?_ | refine go_exit ?_) <;> conv => whnf) | refine go_true rfl ?_ | refine go_false rfl ?_ | refine go_cond rfl (fun h => ?_) (fun h => ?_) | refine ⟨rfl, ?_⟩ | ((first | refine ⟨trivial, ?_⟩ | refine ⟨le_of_ble rfl, ?_⟩) <;> conv => whnf) | fail
        all_goals first
          | (exfalso; simp at h; omega)
          | exact ret_imm rfl rfl rfl rfl rfl rfl
          | (exfalso; have g : ¬ ((0 : Nat) : Int) < ((xs.map intRow).length : Int) := of_decide_eq_false h; rw [List.length_map] at g; omega)
          | trace_state
      | true =>
        rw [hin] at hc
        simp only [inR, Bool.and_eq_true, decide_eq_true_eq] at hin
        repeat' first | refine go_seq ?_ | refine go_region ?_ | refine go_miss rfl rfl rfl ?_ | refine go_undef rfl rfl rfl ?_ | refine go_draw drawsOk ?_ | ((first | refine go_op rfl ?_ | refine go_nil ?_ | refine go_hit rfl rfl rfl ?_ | refine go_splitT rfl rfl rfl (fun h => ?_) (fun h => ?_) | refine go_splitF rfl rfl rfl (fun h => ?_) (fun h => ?_) | refine go_dop rfl ?_ | refine go_dhit rfl rfl ?_ | refine go_dmiss rfl rfl ?_ | refine go_dundef rfl rfl ?_ | refine go_dend (by kernel_rfl) ?_ | refine go_pickT rfl ?_ | refine go_pickF rfl ?_ | refine go_pick rfl (fun h => ?_) (fun h => ?_) | refine go_call [] (hc) rfl rfl rfl rfl ?_ | refine go_idx rfl rfl rfl rfl (by omega) hr rfl ?_) <;> conv => whnf) | ((first | refine go_dsplit2 rfl (fun h => ?_) (fun h => ?_) | refine go_loadB ?_ | refine ⟨by kernel_rfl, ?_⟩ | refine go_ret ?_) <;> conv => whnf) | refine go_block ?_ | ((first | refine go_skip ?_ | refine go_exit ?_) <;> conv => whnf) | refine go_true rfl ?_ | refine go_false rfl ?_ | refine go_cond rfl (fun h => ?_) (fun h => ?_) | refine ⟨rfl, ?_⟩ | ((first | refine ⟨trivial, ?_⟩ | refine ⟨le_of_ble rfl, ?_⟩) <;> conv => whnf) | fail
        all_goals first
          | (exfalso; simp at h; omega)
          | exact go_next (1, d) ⟨by show 1 ≤ _; omega, by show a - 1 ≤ d; omega, fun h => by simp at h, fun k hk => by (have : k = 0 := by simpa using hk.symm); subst this; exact hx, by show _ = ascI d (xs.drop 1) b; rw [ha, decide_eq_true (by omega), decide_eq_true (by omega)]; rfl⟩ (by show _ - 1 < _ - 0; omega) (ref_st0 rfl ⟨rfl, rfl, rfl, rfl, trivial⟩ rfl)
          | (exfalso; have g : ¬ ((0 : Nat) : Int) < ((xs.map intRow).length : Int) := of_decide_eq_false h; rw [List.length_map] at g; omega)
          | trace_state
    | succ j =>
      have hp := h2 j rfl
      have hrp := row_at intRow hp
      have hw : IntKind.i64.wrap (((j + 1 : Nat) : Int) - 1) = (j : Int) := by rw [wrap_small (by omega) (by omega)]; omega
      cases hin : (inR d a b && decide (last < d)) with
      | false =>
        have hv : ascI (a - 1) xs b = false := by
          rw [ha]
          simp only [inR, Bool.and_eq_false_iff, decide_eq_false_iff_not] at hin
          rcases hin with (hin | hin) | hin
          · rw [decide_eq_false (by omega), Bool.false_and]
          · rw [decide_eq_false hin, Bool.false_and, Bool.and_false]
          · rw [decide_eq_false hin, Bool.false_and]
        rw [hv]
        cases hin1 : inR d a b with
        | false =>
          rw [hin1] at hc
          repeat' first | refine go_seq ?_ | refine go_region ?_ | refine go_miss rfl rfl rfl ?_ | refine go_undef rfl rfl rfl ?_ | refine go_draw drawsOk ?_ | ((first | refine go_op rfl ?_ | refine go_nil ?_ | refine go_hit rfl rfl rfl ?_ | refine go_splitT rfl rfl rfl (fun h => ?_) (fun h => ?_) | refine go_splitF rfl rfl rfl (fun h => ?_) (fun h => ?_) | refine go_dop rfl ?_ | refine go_dhit rfl rfl ?_ | refine go_dmiss rfl rfl ?_ | refine go_dundef rfl rfl ?_ | refine go_dend (by kernel_rfl) ?_ | refine go_pickT rfl ?_ | refine go_pickF rfl ?_ | refine go_pick rfl (fun h => ?_) (fun h => ?_) | refine go_call [] (hc) rfl rfl rfl rfl ?_ | refine go_idx rfl rfl rfl rfl (by omega) hr rfl ?_) <;> conv => whnf) | ((first | refine go_dsplit2 rfl (fun h => ?_) (fun h => ?_) | refine go_loadB ?_ | refine ⟨by kernel_rfl, ?_⟩ | refine go_ret ?_) <;> conv => whnf) | refine go_block ?_ | ((first | refine go_skip ?_ | refine go_exit ?_) <;> conv => whnf) | refine go_true rfl ?_ | refine go_false rfl ?_ | refine go_cond rfl (fun h => ?_) (fun h => ?_) | refine ⟨rfl, ?_⟩ | ((first | refine ⟨trivial, ?_⟩ | refine ⟨le_of_ble rfl, ?_⟩) <;> conv => whnf) | fail
          all_goals first
            | (exfalso; simp at h; omega)
            | exact ret_imm rfl rfl rfl rfl rfl rfl
            | trace_state
        | true =>
          rw [hin1] at hc hin
          simp at hin
          repeat' first | refine go_seq ?_ | refine go_region ?_ | refine go_miss rfl rfl rfl ?_ | refine go_undef rfl rfl rfl ?_ | refine go_draw drawsOk ?_ | ((first | refine go_op rfl ?_ | refine go_nil ?_ | refine go_hit rfl rfl rfl ?_ | refine go_splitT rfl rfl rfl (fun h => ?_) (fun h => ?_) | refine go_splitF rfl rfl rfl (fun h => ?_) (fun h => ?_) | refine go_dop rfl ?_ | refine go_dhit rfl rfl ?_ | refine go_dmiss rfl rfl ?_ | refine go_dundef rfl rfl ?_ | refine go_dend (by kernel_rfl) ?_ | refine go_pickT rfl ?_ | refine go_pickF rfl ?_ | refine go_pick rfl (fun h => ?_) (fun h => ?_) | refine go_call [] (hc) rfl rfl rfl rfl ?_ | refine go_idx rfl rfl rfl rfl (by omega) hr rfl ?_ | refine go_idx (i := IntKind.i64.wrap (((j + 1 : Nat) : Int) - 1)) rfl rfl rfl rfl (by rw [hw]; omega) (by rw [hw]; exact hrp) rfl ?_) <;> conv => whnf) | ((first | refine go_dsplit2 rfl (fun h => ?_) (fun h => ?_) | refine go_loadB ?_ | refine ⟨by kernel_rfl, ?_⟩ | refine go_ret ?_) <;> conv => whnf) | refine go_block ?_ | ((first | refine go_skip ?_ | refine go_exit ?_) <;> conv => whnf) | refine go_true rfl ?_ | refine go_false rfl ?_ | refine go_cond rfl (fun h => ?_) (fun h => ?_) | refine ⟨rfl, ?_⟩ | ((first | refine ⟨trivial, ?_⟩ | refine ⟨le_of_ble rfl, ?_⟩) <;> conv => whnf) | fail
          all_goals first
            | exact ret_imm rfl rfl rfl rfl rfl rfl
            | (exfalso; simp at h; omega)
            | (exfalso; have g : ¬ d ≤ last := of_decide_eq_false h; omega)
            | (exfalso; have g : ¬ (0 : Int) < ((j + 1 : Nat) : Int) := of_decide_eq_false h; omega)
            | (exfalso; have g : ¬ ((j + 1 : Nat) : Int) < ((xs.map intRow).length : Int) := of_decide_eq_false h; rw [List.length_map] at g; omega)
            | trace_state
      | true =>
        simp only [Bool.and_eq_true, decide_eq_true_eq] at hin
        obtain ⟨hin1, hin2⟩ := hin
        rw [hin1] at hc
        simp only [inR, Bool.and_eq_true, decide_eq_true_eq] at hin1
        repeat' first | refine go_seq ?_ | refine go_region ?_ | refine go_miss rfl rfl rfl ?_ | refine go_undef rfl rfl rfl ?_ | refine go_draw drawsOk ?_ | ((first | refine go_op rfl ?_ | refine go_nil ?_ | refine go_hit rfl rfl rfl ?_ | refine go_splitT rfl rfl rfl (fun h => ?_) (fun h => ?_) | refine go_splitF rfl rfl rfl (fun h => ?_) (fun h => ?_) | refine go_dop rfl ?_ | refine go_dhit rfl rfl ?_ | refine go_dmiss rfl rfl ?_ | refine go_dundef rfl rfl ?_ | refine go_dend (by kernel_rfl) ?_ | refine go_pickT rfl ?_ | refine go_pickF rfl ?_ | refine go_pick rfl (fun h => ?_) (fun h => ?_) | refine go_call [] (hc) rfl rfl rfl rfl ?_ | refine go_idx rfl rfl rfl rfl (by omega) hr rfl ?_ | refine go_idx (i := IntKind.i64.wrap (((j + 1 : Nat) : Int) - 1)) rfl rfl rfl rfl (by rw [hw]; omega) (by rw [hw]; exact hrp) rfl ?_) <;> conv => whnf) | ((first | refine go_dsplit2 rfl (fun h => ?_) (fun h => ?_) | refine go_loadB ?_ | refine ⟨by kernel_rfl, ?_⟩ | refine go_ret ?_) <;> conv => whnf) | refine go_block ?_ | ((first | refine go_skip ?_ | refine go_exit ?_) <;> conv => whnf) | refine go_true rfl ?_ | refine go_false rfl ?_ | refine go_cond rfl (fun h => ?_) (fun h => ?_) | refine ⟨rfl, ?_⟩ | ((first | refine ⟨trivial, ?_⟩ | refine ⟨le_of_ble rfl, ?_⟩) <;> conv => whnf) | fail
        all_goals first
          | exact go_next (j + 2, d) ⟨by show j + 2 ≤ _; omega, by show a - 1 ≤ d; omega, fun h => by simp at h, fun k hk => by (have : k = j + 1 := by have hk' : j + 2 = k + 1 := hk; omega); subst this; exact hx, by show _ = ascI d (xs.drop (j + 1 + 1)) b; rw [ha, decide_eq_true (by omega), decide_eq_true (by omega)]; rfl⟩ (by show _ - (j + 2) < _ - (j + 1); omega) (ref_st0 rfl ⟨rfl, rfl, rfl, next_i (by omega), trivial⟩ rfl)
          | (exfalso; simp at h; omega)
          | (exfalso; have g : d ≤ last := of_decide_eq_true h; omega)
          | (exfalso; have g : ¬ (0 : Int) < ((j + 1 : Nat) : Int) := of_decide_eq_false h; omega)
          | (exfalso; have g : ¬ ((j + 1 : Nat) : Int) < ((xs.map intRow).length : Int) := of_decide_eq_false h; rw [List.length_map] at g; omega)
          | trace_state
end Go.Proofs.Ytlpdlfdafgoafaa

