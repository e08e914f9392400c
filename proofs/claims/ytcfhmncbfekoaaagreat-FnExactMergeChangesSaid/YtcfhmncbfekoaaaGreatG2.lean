/- Lists of changes merged: program and reference. -/
import Derived.Test.YtcfhmncbfekoaaaGreatV8
import Derived.Test.YtcfhmncbfekoaaaGreatJ1
import Derived.Test.YtcfhmncbfekoaaaGreatJ2
import Derived.Test.YtcfhmncbfekoaaaGreatG1
namespace Go.Proofs.YtcfhmncbfekoaaaGreat
open Go Go.Am Go.Proofs
set_option maxRecDepth 100000
set_option maxHeartbeats 8000000
attribute [local irreducible] amOps amC opCall opIndexAddr opPick retQ opMake opStore amDraw opAppend opLoad opNilCmp opIndex opSlice

def mgOk (t : Timetable) (xs ys : List Change) : Bool := ctOk t xs ys && (decide (clashes xs ys = []) && ivOk t (mrL xs ys))
def mgL (t : Timetable) (xs ys : List Change) : List Change := if mgOk t xs ys then mrL xs ys else []
theorem iv_len {t : Timetable} {cs : List Change} (h : ivOk t cs = true) : cs.length ≤ 24 := by
  unfold ivOk at h
  simp only [Bool.and_eq_true] at h
  have h2 := h.2
  unfold apOk at h2
  cases ho : apO t cs with
  | none => rw [ho] at h2; cases h2
  | some out =>
    unfold apO at ho
    split at ho
    · cases ho
    · omega
theorem mgL_len (t : Timetable) (xs ys : List Change) : (mgL t xs ys).length ≤ 24 := by
  unfold mgL
  split
  · rename_i h
    unfold mgOk at h
    simp only [Bool.and_eq_true] at h
    exact iv_len h.2.2
  · simp

theorem mg_no {t : Timetable} {xs ys : List Change} (h : mgOk t xs ys = false) : mgL t xs ys = [] := by
  unfold mgL
  rw [h, if_neg (by simp)]
theorem mg_yes {t : Timetable} {xs ys : List Change} (h : mgOk t xs ys = true) : mgL t xs ys = mrL xs ys := by
  unfold mgL
  rw [h, if_pos rfl]

theorem c11 (t : Timetable) (hf : t.fit) (xs : List Change) (hl : xs.length ≤ 1048576) (ys : List Change) (hly : ys.length ≤ 1048576) : CallOk Tryz.prog 11 [.imm (.agg t.enc), .imm (.list (xs.map Change.enc)), .imm (.list (ys.map Change.enc))] { res := [.arr 62 5 ((mgL t xs ys).map Change.enc), .imm (.bool (mgOk t xs ys))] } := by
  refine callOk_of tyOk Tryz.func11 rfl rfl (le_of_ble rfl) (le_of_ble rfl) (mutOk_imm rfl _) ?_
  have h0 := c32 t hf xs hl
  have h1 := c32 t hf ys hly
  cases hx : ivOk t xs with
  | false =>
    have hO : mgOk t xs ys = false := by unfold mgOk ctOk; rw [hx]; rfl
    rw [hx] at h0
    rw [mg_no hO, hO]
    repeat' first | refine go_seq ?_ | refine go_region ?_ | refine go_miss rfl rfl rfl ?_ | refine go_undef rfl rfl rfl ?_ | ((first | refine go_op rfl ?_ | refine go_nil ?_ | refine go_hit rfl rfl rfl ?_ | refine go_splitT rfl rfl rfl (fun h => ?_) (fun h => ?_) | refine go_splitF rfl rfl rfl (fun h => ?_) (fun h => ?_) | refine go_pickT rfl ?_ | refine go_pickF rfl ?_ | refine go_pick rfl (fun h => ?_) (fun h => ?_) | refine go_call [] (h0) rfl rfl rfl rfl ?_ | refine go_call [] (h1) rfl rfl rfl rfl ?_) <;> conv => whnf) | ((first | refine go_loadB ?_ | refine ⟨by kernel_rfl, ?_⟩ | refine go_ret ?_) <;> conv => whnf) | ((first | refine go_skip ?_) <;> conv => whnf) | refine go_true rfl ?_ | refine go_false rfl ?_ | refine go_cond rfl (fun h => ?_) (fun h => ?_) | refine ⟨rfl, ?_⟩ | ((first | refine ⟨trivial, ?_⟩ | refine ⟨le_of_ble rfl, ?_⟩) <;> conv => whnf) | fail
    all_goals first
      | exact ret_arr2 rfl rfl rfl rfl rfl rfl (by intro r hr; cases hr) rfl rfl rfl
      | (exfalso; simp at h; done)
      | trace_state
  | true =>
    rw [hx] at h0
    cases hy : ivOk t ys with
    | false =>
      have hO : mgOk t xs ys = false := by unfold mgOk ctOk; rw [hx, hy]; rfl
      rw [hy] at h1
      rw [mg_no hO, hO]
      repeat' first | refine go_seq ?_ | refine go_region ?_ | refine go_miss rfl rfl rfl ?_ | refine go_undef rfl rfl rfl ?_ | ((first | refine go_op rfl ?_ | refine go_nil ?_ | refine go_hit rfl rfl rfl ?_ | refine go_splitT rfl rfl rfl (fun h => ?_) (fun h => ?_) | refine go_splitF rfl rfl rfl (fun h => ?_) (fun h => ?_) | refine go_pickT rfl ?_ | refine go_pickF rfl ?_ | refine go_pick rfl (fun h => ?_) (fun h => ?_) | refine go_call [] (h0) rfl rfl rfl rfl ?_ | refine go_call [] (h1) rfl rfl rfl rfl ?_) <;> conv => whnf) | ((first | refine go_loadB ?_ | refine ⟨by kernel_rfl, ?_⟩ | refine go_ret ?_) <;> conv => whnf) | ((first | refine go_skip ?_) <;> conv => whnf) | refine go_true rfl ?_ | refine go_false rfl ?_ | refine go_cond rfl (fun h => ?_) (fun h => ?_) | refine ⟨rfl, ?_⟩ | ((first | refine ⟨trivial, ?_⟩ | refine ⟨le_of_ble rfl, ?_⟩) <;> conv => whnf) | fail
      all_goals first
        | exact ret_arr2 rfl rfl rfl rfl rfl rfl (by intro r hr; cases hr) rfl rfl rfl
        | (exfalso; simp at h; done)
        | trace_state
    | true =>
      rw [hy] at h1
      have h2 := c33 xs ys hl hly
      have lx := iv_len hx
      have ly := iv_len hy
      by_cases hc : clashes xs ys = []
      · have hm := mrL_len (iv_asc hx) (iv_asc hy)
        have hC := c34 xs ys hl hly
        have hS := c35 (xs ++ ys) (by rw [List.length_append]; omega)
        obtain ⟨p1, p2⟩ := srtC_sorts (xs ++ ys)
        have hK := c37 (srtC (xs ++ ys)) (by rw [p1.length_eq, List.length_append]; omega)
        rw [merge_same (iv_asc hx) (iv_asc hy) hc p1 p2] at hK
        have h3 : CallOk Tryz.prog 32 [.imm (.agg t.enc), .imm (.list ((((mrL xs ys).map Change.enc).drop 0).take ((mrL xs ys).map Change.enc).length))] { res := [.imm (.bool (ivOk t (mrL xs ys)))] } := by
          rw [change_view]
          exact c32 t hf (mrL xs ys) (by omega)
        have hc' := hc
        rw [hc] at h2
        cases hm : ivOk t (mrL xs ys) with
        | false =>
          have hO : mgOk t xs ys = false := by unfold mgOk ctOk; rw [hx, hy, decide_eq_true hc', hm]; rfl
          rw [hm] at h3
          rw [mg_no hO, hO]
          repeat' first | refine go_seq ?_ | refine go_region ?_ | refine go_miss rfl rfl rfl ?_ | refine go_undef rfl rfl rfl ?_ | ((first | refine go_op rfl ?_ | refine go_nil ?_ | refine go_hit rfl rfl rfl ?_ | refine go_splitT rfl rfl rfl (fun h => ?_) (fun h => ?_) | refine go_splitF rfl rfl rfl (fun h => ?_) (fun h => ?_) | refine go_pickT rfl ?_ | refine go_pickF rfl ?_ | refine go_pick rfl (fun h => ?_) (fun h => ?_) | refine go_call [] (h0) rfl rfl rfl rfl ?_ | refine go_call [] (h1) rfl rfl rfl rfl ?_ | refine go_call [] (h2) rfl rfl rfl rfl ?_ | refine go_call [] (hC) rfl rfl rfl rfl ?_ | refine go_call [2, 0] hS (argsIn_lent rfl rfl rfl) rfl rfl rfl ?_ | refine go_call [2] hK (argsIn_lent rfl (by rw [List.length_map, List.length_map, p1.length_eq]) rfl) rfl rfl rfl ?_ | refine go_call [] (h3) rfl rfl rfl rfl ?_) <;> conv => whnf) | ((first | refine go_loadB ?_ | refine ⟨by kernel_rfl, ?_⟩ | refine go_ret ?_) <;> conv => whnf) | ((first | refine go_skip ?_) <;> conv => whnf) | refine go_true rfl ?_ | refine go_false rfl ?_ | refine go_cond rfl (fun h => ?_) (fun h => ?_) | refine ⟨rfl, ?_⟩ | ((first | refine ⟨trivial, ?_⟩ | refine ⟨le_of_ble rfl, ?_⟩) <;> conv => whnf) | fail
          all_goals first
            | exact ret_arr2 rfl rfl rfl rfl rfl rfl (by intro r hr; cases hr) rfl rfl rfl
            | (exfalso; simp at h; done)
            | trace_state
        | true =>
          have hO : mgOk t xs ys = true := by unfold mgOk ctOk; rw [hx, hy, decide_eq_true hc', hm]; rfl
          rw [hm] at h3
          rw [mg_yes hO, hO]
          repeat' first | refine go_seq ?_ | refine go_region ?_ | refine go_miss rfl rfl rfl ?_ | refine go_undef rfl rfl rfl ?_ | ((first | refine go_op rfl ?_ | refine go_nil ?_ | refine go_hit rfl rfl rfl ?_ | refine go_splitT rfl rfl rfl (fun h => ?_) (fun h => ?_) | refine go_splitF rfl rfl rfl (fun h => ?_) (fun h => ?_) | refine go_pickT rfl ?_ | refine go_pickF rfl ?_ | refine go_pick rfl (fun h => ?_) (fun h => ?_) | refine go_call [] (h0) rfl rfl rfl rfl ?_ | refine go_call [] (h1) rfl rfl rfl rfl ?_ | refine go_call [] (h2) rfl rfl rfl rfl ?_ | refine go_call [] (hC) rfl rfl rfl rfl ?_ | refine go_call [2, 0] hS (argsIn_lent rfl rfl rfl) rfl rfl rfl ?_ | refine go_call [2] hK (argsIn_lent rfl (by rw [List.length_map, List.length_map, p1.length_eq]) rfl) rfl rfl rfl ?_ | refine go_call [] (h3) rfl rfl rfl rfl ?_) <;> conv => whnf) | ((first | refine go_loadB ?_ | refine ⟨by kernel_rfl, ?_⟩ | refine go_ret ?_) <;> conv => whnf) | ((first | refine go_skip ?_) <;> conv => whnf) | refine go_true rfl ?_ | refine go_false rfl ?_ | refine go_cond rfl (fun h => ?_) (fun h => ?_) | refine ⟨rfl, ?_⟩ | ((first | refine ⟨trivial, ?_⟩ | refine ⟨le_of_ble rfl, ?_⟩) <;> conv => whnf) | fail
          all_goals first
            | exact ret_arr2 rfl rfl rfl rfl rfl (by rw [List.drop_zero, List.take_length]) (change_gr _) rfl rfl rfl
            | (exfalso; simp at h; done)
            | trace_state
      · have hO : mgOk t xs ys = false := by unfold mgOk ctOk; rw [hx, hy, decide_eq_false hc]; rfl
        rw [mg_no hO, hO]
        obtain ⟨a, l, hal⟩ : ∃ a l, clashes xs ys = a :: l := by
          cases hcl : clashes xs ys with
          | nil => exact absurd hcl hc
          | cons a l => exact ⟨a, l, rfl⟩
        rw [hal] at h2
        repeat' first | refine go_seq ?_ | refine go_region ?_ | refine go_miss rfl rfl rfl ?_ | refine go_undef rfl rfl rfl ?_ | ((first | refine go_op rfl ?_ | refine go_nil ?_ | refine go_hit rfl rfl rfl ?_ | refine go_splitT rfl rfl rfl (fun h => ?_) (fun h => ?_) | refine go_splitF rfl rfl rfl (fun h => ?_) (fun h => ?_) | refine go_pickT rfl ?_ | refine go_pickF rfl ?_ | refine go_pick rfl (fun h => ?_) (fun h => ?_) | refine go_call [] (h0) rfl rfl rfl rfl ?_ | refine go_call [] (h1) rfl rfl rfl rfl ?_ | refine go_call [] (h2) rfl rfl rfl rfl ?_) <;> conv => whnf) | ((first | refine go_loadB ?_ | refine ⟨by kernel_rfl, ?_⟩ | refine go_ret ?_) <;> conv => whnf) | ((first | refine go_skip ?_) <;> conv => whnf) | refine go_true rfl ?_ | refine go_false rfl ?_ | refine go_cond rfl (fun h => ?_) (fun h => ?_) | refine ⟨rfl, ?_⟩ | ((first | refine ⟨trivial, ?_⟩ | refine ⟨le_of_ble rfl, ?_⟩) <;> conv => whnf) | fail
        all_goals first
          | exact ret_arr2 rfl rfl rfl rfl rfl rfl (by intro r hr; cases hr) rfl rfl rfl
          | (exfalso; simp at h; done)
          | (exfalso; simp at h; omega)
          | trace_state

theorem c8 (t : Timetable) (hf : t.fit) (xs : List Change) (hl : xs.length ≤ 1048576) (ys : List Change) (hly : ys.length ≤ 1048576) : CallOk Tryz.prog 8 [.imm (.agg t.enc), .imm (.list (xs.map Change.enc)), .imm (.list (ys.map Change.enc))] { res := [.arr 62 5 ((mgL t xs ys).map Change.enc), .imm (.bool (mgOk t xs ys))] } := by
  refine callOk_of tyOk Tryz.func8 rfl rfl (le_of_ble rfl) (le_of_ble rfl) (mutOk_imm rfl _) ?_
  have h0 := c26 t hf xs hl
  have h1 := c26 t hf ys hly
  cases hx : ivOk t xs with
  | false =>
    have hO : mgOk t xs ys = false := by unfold mgOk ctOk; rw [hx]; rfl
    rw [hx] at h0
    rw [mg_no hO, hO]
    repeat' first | refine go_seq ?_ | refine go_region ?_ | refine go_miss rfl rfl rfl ?_ | refine go_undef rfl rfl rfl ?_ | refine go_draw drawsOk ?_ | ((first | refine go_op rfl ?_ | refine go_nil ?_ | refine go_hit rfl rfl rfl ?_ | refine go_splitT rfl rfl rfl (fun h => ?_) (fun h => ?_) | refine go_splitF rfl rfl rfl (fun h => ?_) (fun h => ?_) | refine go_dop rfl ?_ | refine go_dhit rfl rfl ?_ | refine go_dmiss rfl rfl ?_ | refine go_dundef rfl rfl ?_ | refine go_dend (by kernel_rfl) ?_ | refine go_pickT rfl ?_ | refine go_pickF rfl ?_ | refine go_pick rfl (fun h => ?_) (fun h => ?_) | refine go_call [] (h0) rfl rfl rfl rfl ?_ | refine go_call [] (h1) rfl rfl rfl rfl ?_) <;> conv => whnf) | ((first | refine go_dsplit2 rfl (fun h => ?_) (fun h => ?_) | refine go_loadB ?_ | refine ⟨by kernel_rfl, ?_⟩ | refine go_ret ?_) <;> conv => whnf) | refine go_block ?_ | ((first | refine go_skip ?_ | refine go_exit ?_) <;> conv => whnf) | refine go_true rfl ?_ | refine go_false rfl ?_ | refine go_cond rfl (fun h => ?_) (fun h => ?_) | refine ⟨rfl, ?_⟩ | ((first | refine ⟨trivial, ?_⟩ | refine ⟨le_of_ble rfl, ?_⟩) <;> conv => whnf) | fail
    all_goals first
      | exact ret_arr2 rfl rfl rfl rfl rfl rfl (by intro r hr; cases hr) rfl rfl rfl
      | (exfalso; simp at h; done)
      | trace_state
  | true =>
    rw [hx] at h0
    cases hy : ivOk t ys with
    | false =>
      have hO : mgOk t xs ys = false := by unfold mgOk ctOk; rw [hx, hy]; rfl
      rw [hy] at h1
      rw [mg_no hO, hO]
      repeat' first | refine go_seq ?_ | refine go_region ?_ | refine go_miss rfl rfl rfl ?_ | refine go_undef rfl rfl rfl ?_ | refine go_draw drawsOk ?_ | ((first | refine go_op rfl ?_ | refine go_nil ?_ | refine go_hit rfl rfl rfl ?_ | refine go_splitT rfl rfl rfl (fun h => ?_) (fun h => ?_) | refine go_splitF rfl rfl rfl (fun h => ?_) (fun h => ?_) | refine go_dop rfl ?_ | refine go_dhit rfl rfl ?_ | refine go_dmiss rfl rfl ?_ | refine go_dundef rfl rfl ?_ | refine go_dend (by kernel_rfl) ?_ | refine go_pickT rfl ?_ | refine go_pickF rfl ?_ | refine go_pick rfl (fun h => ?_) (fun h => ?_) | refine go_call [] (h0) rfl rfl rfl rfl ?_ | refine go_call [] (h1) rfl rfl rfl rfl ?_) <;> conv => whnf) | ((first | refine go_dsplit2 rfl (fun h => ?_) (fun h => ?_) | refine go_loadB ?_ | refine ⟨by kernel_rfl, ?_⟩ | refine go_ret ?_) <;> conv => whnf) | refine go_block ?_ | ((first | refine go_skip ?_ | refine go_exit ?_) <;> conv => whnf) | refine go_true rfl ?_ | refine go_false rfl ?_ | refine go_cond rfl (fun h => ?_) (fun h => ?_) | refine ⟨rfl, ?_⟩ | ((first | refine ⟨trivial, ?_⟩ | refine ⟨le_of_ble rfl, ?_⟩) <;> conv => whnf) | fail
      all_goals first
        | exact ret_arr2 rfl rfl rfl rfl rfl rfl (by intro r hr; cases hr) rfl rfl rfl
        | (exfalso; simp at h; done)
        | trace_state
    | true =>
      rw [hy] at h1
      have h2 := c27 xs ys hl hly (iv_asc hy)
      have lx := iv_len hx
      have ly := iv_len hy
      by_cases hc : clashes xs ys = []
      case neg =>
        have hO : mgOk t xs ys = false := by unfold mgOk ctOk; rw [hx, hy, decide_eq_false hc]; rfl
        rw [mg_no hO, hO]
        obtain ⟨a, l, hal⟩ : ∃ a l, clashes xs ys = a :: l := by
          cases hcl : clashes xs ys with
          | nil => exact absurd hcl hc
          | cons a l => exact ⟨a, l, rfl⟩
        rw [hal] at h2
        repeat' first | refine go_seq ?_ | refine go_region ?_ | refine go_miss rfl rfl rfl ?_ | refine go_undef rfl rfl rfl ?_ | refine go_draw drawsOk ?_ | ((first | refine go_op rfl ?_ | refine go_nil ?_ | refine go_hit rfl rfl rfl ?_ | refine go_splitT rfl rfl rfl (fun h => ?_) (fun h => ?_) | refine go_splitF rfl rfl rfl (fun h => ?_) (fun h => ?_) | refine go_dop rfl ?_ | refine go_dhit rfl rfl ?_ | refine go_dmiss rfl rfl ?_ | refine go_dundef rfl rfl ?_ | refine go_dend (by kernel_rfl) ?_ | refine go_pickT rfl ?_ | refine go_pickF rfl ?_ | refine go_pick rfl (fun h => ?_) (fun h => ?_) | refine go_call [] (h0) rfl rfl rfl rfl ?_ | refine go_call [] (h1) rfl rfl rfl rfl ?_ | refine go_call [] (h2) rfl rfl rfl rfl ?_) <;> conv => whnf) | ((first | refine go_dsplit2 rfl (fun h => ?_) (fun h => ?_) | refine go_loadB ?_ | refine ⟨by kernel_rfl, ?_⟩ | refine go_ret ?_) <;> conv => whnf) | refine go_block ?_ | ((first | refine go_skip ?_ | refine go_exit ?_) <;> conv => whnf) | refine go_true rfl ?_ | refine go_false rfl ?_ | refine go_cond rfl (fun h => ?_) (fun h => ?_) | refine ⟨rfl, ?_⟩ | ((first | refine ⟨trivial, ?_⟩ | refine ⟨le_of_ble rfl, ?_⟩) <;> conv => whnf) | fail
        all_goals first
          | exact ret_arr2 rfl rfl rfl rfl rfl rfl (by intro r hr; cases hr) rfl rfl rfl
          | (exfalso; simp at h; done)
          | (exfalso; simp at h; omega)
          | trace_state
      have hasc := mrN_asc (iv_asc hx) (iv_asc hy)
      have hone := change_one' xs
      have hc' := hc
      rw [hc] at h2
      repeat' first | refine go_seq ?_ | refine go_region ?_ | refine go_miss rfl rfl rfl ?_ | refine go_undef rfl rfl rfl ?_ | refine go_draw drawsOk ?_ | ((first | refine go_op rfl ?_ | refine go_nil ?_ | refine go_hit rfl rfl rfl ?_ | refine go_splitT rfl rfl rfl (fun h => ?_) (fun h => ?_) | refine go_splitF rfl rfl rfl (fun h => ?_) (fun h => ?_) | refine go_dop rfl ?_ | refine go_dhit rfl rfl ?_ | refine go_dmiss rfl rfl ?_ | refine go_dundef rfl rfl ?_ | refine go_dend (by kernel_rfl) ?_ | refine go_pickT rfl ?_ | refine go_pickF rfl ?_ | refine go_pick rfl (fun h => ?_) (fun h => ?_) | refine go_call [] (h0) rfl rfl rfl rfl ?_ | refine go_call [] (h1) rfl rfl rfl rfl ?_ | refine go_call [] (h2) rfl rfl rfl rfl ?_ | refine go_appImm rfl rfl rfl rfl rfl rfl rfl rfl rfl hone rfl rfl (by simp; omega) ?_) <;> conv => whnf) | ((first | refine go_dsplit2 rfl (fun h => ?_) (fun h => ?_) | refine go_loadB ?_ | refine ⟨by kernel_rfl, ?_⟩ | refine go_ret ?_) <;> conv => whnf) | refine go_block ?_ | ((first | refine go_skip ?_ | refine go_exit ?_) <;> conv => whnf) | refine go_true rfl ?_ | refine go_false rfl ?_ | refine go_cond rfl (fun h => ?_) (fun h => ?_) | refine ⟨rfl, ?_⟩ | ((first | refine ⟨trivial, ?_⟩ | refine ⟨le_of_ble rfl, ?_⟩) <;> conv => whnf) | fail
      all_goals try first
        | (exfalso; simp at h; done)
      refine go_loop (α := Nat) (fun j => j ≤ ys.length) (fun j => ys.length - j)
        (fun j => st Tryz.f8.ntmps [(1, .imm (.list (xs.map Change.enc))), (2, .imm (.list (ys.map Change.enc))), (3, .box 1001 0), (8, .own 1002 0 0), (9, .own 1000 0 (mrN xs ys j).length), (10, .imm (.int .i64 (j : Nat)))]
          [(1001, .box 40 (t.enc.map .imm)), (1002, .arr 62 5 []), (1000, .arr 62 5 ((mrN xs ys j).map Change.enc))] []) 0 (Nat.zero_le _) ?_ ?_
      · refine ref_st (fun y => if y = 1001 then nid 1 3 else if y = 1002 then nid 2 12 else nid 4 33) rfl ⟨rfl, rfl, ⟨rfl, rfl⟩, ⟨rfl, rfl⟩, ⟨?_, rfl⟩, rfl, trivial⟩ ⟨⟨rfl, wavs_imm _⟩, rfl, rfl, trivial⟩ (by simp [nid]) rfl (by simp)
        show AV.own _ _ _ = AV.own _ _ _
        simp [mrN]; try rfl
      intro j hj
      obtain ⟨m1, m2, m3⟩ := hasc j hj
      have hsrt := asc_srt m1
      cases hyj : ys[j]? with
      | none =>
        have hge := le_of_at hyj
        have hjn : j = ys.length := by omega
        subst hjn
        have h3 : CallOk Tryz.prog 26 [.imm (.agg t.enc), .imm (.list ((((mrL xs ys).map Change.enc).drop 0).take (mrL xs ys).length))] { res := [.imm (.bool (ivOk t (mrL xs ys)))] } := by
          rw [List.drop_zero, List.take_of_length_le (by simp)]
          exact c26 t hf (mrL xs ys) (by unfold mrL; omega)
        cases hm : ivOk t (mrL xs ys) with
        | false =>
          have hO : mgOk t xs ys = false := by unfold mgOk ctOk; rw [hx, hy, decide_eq_true hc', hm]; rfl
          rw [hm] at h3
          rw [mg_no hO, hO]
          repeat' first | refine go_seq ?_ | refine go_region ?_ | refine go_miss rfl rfl rfl ?_ | refine go_undef rfl rfl rfl ?_ | refine go_draw drawsOk ?_ | ((first | refine go_op rfl ?_ | refine go_nil ?_ | refine go_hit rfl rfl rfl ?_ | refine go_splitT rfl rfl rfl (fun h => ?_) (fun h => ?_) | refine go_splitF rfl rfl rfl (fun h => ?_) (fun h => ?_) | refine go_dop rfl ?_ | refine go_dhit rfl rfl ?_ | refine go_dmiss rfl rfl ?_ | refine go_dundef rfl rfl ?_ | refine go_dend (by kernel_rfl) ?_ | refine go_pickT rfl ?_ | refine go_pickF rfl ?_ | refine go_pick rfl (fun h => ?_) (fun h => ?_) | refine go_call [] (h3) rfl rfl rfl rfl ?_) <;> conv => whnf) | ((first | refine go_dsplit2 rfl (fun h => ?_) (fun h => ?_) | refine go_loadB ?_ | refine ⟨by kernel_rfl, ?_⟩ | refine go_ret ?_) <;> conv => whnf) | refine go_block ?_ | ((first | refine go_skip ?_ | refine go_exit ?_) <;> conv => whnf) | refine go_true rfl ?_ | refine go_false rfl ?_ | refine go_cond rfl (fun h => ?_) (fun h => ?_) | refine ⟨rfl, ?_⟩ | ((first | refine ⟨trivial, ?_⟩ | refine ⟨le_of_ble rfl, ?_⟩) <;> conv => whnf) | fail
          all_goals first
            | exact ret_arr2 rfl rfl rfl rfl rfl rfl (by intro r hr; cases hr) rfl rfl rfl
            | (exfalso; simp at h; done)
            | (exfalso; simp at h; omega)
            | trace_state
        | true =>
          have hO : mgOk t xs ys = true := by unfold mgOk ctOk; rw [hx, hy, decide_eq_true hc', hm]; rfl
          rw [hm] at h3
          rw [mg_yes hO, hO]
          repeat' first | refine go_seq ?_ | refine go_region ?_ | refine go_miss rfl rfl rfl ?_ | refine go_undef rfl rfl rfl ?_ | refine go_draw drawsOk ?_ | ((first | refine go_op rfl ?_ | refine go_nil ?_ | refine go_hit rfl rfl rfl ?_ | refine go_splitT rfl rfl rfl (fun h => ?_) (fun h => ?_) | refine go_splitF rfl rfl rfl (fun h => ?_) (fun h => ?_) | refine go_dop rfl ?_ | refine go_dhit rfl rfl ?_ | refine go_dmiss rfl rfl ?_ | refine go_dundef rfl rfl ?_ | refine go_dend (by kernel_rfl) ?_ | refine go_pickT rfl ?_ | refine go_pickF rfl ?_ | refine go_pick rfl (fun h => ?_) (fun h => ?_) | refine go_call [] (h3) rfl rfl rfl rfl ?_) <;> conv => whnf) | ((first | refine go_dsplit2 rfl (fun h => ?_) (fun h => ?_) | refine go_loadB ?_ | refine ⟨by kernel_rfl, ?_⟩ | refine go_ret ?_) <;> conv => whnf) | refine go_block ?_ | ((first | refine go_skip ?_ | refine go_exit ?_) <;> conv => whnf) | refine go_true rfl ?_ | refine go_false rfl ?_ | refine go_cond rfl (fun h => ?_) (fun h => ?_) | refine ⟨rfl, ?_⟩ | ((first | refine ⟨trivial, ?_⟩ | refine ⟨le_of_ble rfl, ?_⟩) <;> conv => whnf) | fail
          all_goals first
            | exact ret_arr2 rfl rfl rfl rfl rfl (by rw [List.drop_zero, List.take_of_length_le (by simp)]; rfl) (change_gr _) rfl rfl rfl
            | (exfalso; simp at h; done)
            | (exfalso; simp at h; omega)
            | trace_state
      | some y =>
        have hlt := lt_of_at hyj
        have hry := row_at Change.enc hyj
        have hF := c28 xs hl y.trip.id
        have hnx := mrN_next (xs := xs) hyj
        by_cases hfd : 0 ≤ findC xs y.trip.id
        case pos =>
          rw [if_pos hfd] at hnx
          repeat' first | refine go_seq ?_ | refine go_region ?_ | refine go_miss rfl rfl rfl ?_ | refine go_undef rfl rfl rfl ?_ | refine go_draw drawsOk ?_ | ((first | refine go_op rfl ?_ | refine go_nil ?_ | refine go_hit rfl rfl rfl ?_ | refine go_splitT rfl rfl rfl (fun h => ?_) (fun h => ?_) | refine go_splitF rfl rfl rfl (fun h => ?_) (fun h => ?_) | refine go_dop rfl ?_ | refine go_dhit rfl rfl ?_ | refine go_dmiss rfl rfl ?_ | refine go_dundef rfl rfl ?_ | refine go_dend (by kernel_rfl) ?_ | refine go_pickT rfl ?_ | refine go_pickF rfl ?_ | refine go_pick rfl (fun h => ?_) (fun h => ?_) | refine go_call [] (hF) rfl rfl rfl rfl ?_ | refine go_idx rfl rfl rfl rfl (by omega) hry rfl ?_) <;> conv => whnf) | ((first | refine go_dsplit2 rfl (fun h => ?_) (fun h => ?_) | refine go_loadB ?_ | refine ⟨by kernel_rfl, ?_⟩ | refine go_ret ?_) <;> conv => whnf) | refine go_block ?_ | ((first | refine go_skip ?_ | refine go_exit ?_) <;> conv => whnf) | refine go_true rfl ?_ | refine go_false rfl ?_ | refine go_cond rfl (fun h => ?_) (fun h => ?_) | refine ⟨rfl, ?_⟩ | ((first | refine ⟨trivial, ?_⟩ | refine ⟨le_of_ble rfl, ?_⟩) <;> conv => whnf) | fail
          all_goals first
            | exact go_next (j + 1) (by omega) (by omega) (by rw [hnx]; exact ref_st id rfl ⟨rfl, rfl, ⟨rfl, rfl⟩, ⟨rfl, rfl⟩, ⟨rfl, rfl⟩, next_i (by omega), trivial⟩ ⟨⟨rfl, wavs_imm _⟩, rfl, rfl, trivial⟩ (by simp) rfl (by simp))
            | (exfalso; have h' := of_decide_eq_false h; omega)
            | (exfalso; have h' := of_decide_eq_true h; omega)
            | (exfalso; rename_i hq; have h' := of_decide_eq_true hq; omega)
            | (exfalso; rename_i hq; have h' := of_decide_eq_false hq; omega)
            | (exfalso; rename_i hq _; have h' := of_decide_eq_true hq; omega)
            | (exfalso; rename_i hq _; have h' := of_decide_eq_false hq; omega)
            | (exfalso; simp at h; omega)
            | trace_state
        rw [if_neg hfd] at hnx
        generalize hsd : mrN xs ys j = s at *
        have hsm : (s.map Change.enc).length = s.length := List.length_map _
        repeat' first | refine go_seq ?_ | refine go_region ?_ | refine go_miss rfl rfl rfl ?_ | refine go_undef rfl rfl rfl ?_ | refine go_draw drawsOk ?_ | ((first | refine go_op rfl ?_ | refine go_nil ?_ | refine go_hit rfl rfl rfl ?_ | refine go_splitT rfl rfl rfl (fun h => ?_) (fun h => ?_) | refine go_splitF rfl rfl rfl (fun h => ?_) (fun h => ?_) | refine go_dop rfl ?_ | refine go_dhit rfl rfl ?_ | refine go_dmiss rfl rfl ?_ | refine go_dundef rfl rfl ?_ | refine go_dend (by kernel_rfl) ?_ | refine go_pickT rfl ?_ | refine go_pickF rfl ?_ | refine go_pick rfl (fun h => ?_) (fun h => ?_) | refine go_call [] (hF) rfl rfl rfl rfl ?_ | refine go_idx rfl rfl rfl rfl (by omega) hry rfl ?_) <;> conv => whnf) | ((first | refine go_dsplit2 rfl (fun h => ?_) (fun h => ?_) | refine go_loadB ?_ | refine ⟨by kernel_rfl, ?_⟩ | refine go_ret ?_) <;> conv => whnf) | refine go_block ?_ | ((first | refine go_skip ?_ | refine go_exit ?_) <;> conv => whnf) | refine go_true rfl ?_ | refine go_false rfl ?_ | refine go_cond rfl (fun h => ?_) (fun h => ?_) | refine ⟨rfl, ?_⟩ | ((first | refine ⟨trivial, ?_⟩ | refine ⟨le_of_ble rfl, ?_⟩) <;> conv => whnf) | fail
        all_goals try first
          | (exfalso; have h' := of_decide_eq_false h; omega)
          | (exfalso; have h' := of_decide_eq_true h; omega)
          | (exfalso; rename_i hq; have h' := of_decide_eq_true hq; omega)
          | (exfalso; rename_i hq; have h' := of_decide_eq_false hq; omega)
          | (exfalso; rename_i hq _; have h' := of_decide_eq_true hq; omega)
          | (exfalso; rename_i hq _; have h' := of_decide_eq_false hq; omega)
          | (exfalso; have h' := of_decide_eq_true h; omega)
          | (exfalso; simp at h; omega)
        refine go_loop (α := Nat) (fun k => k ≤ s.length ∧ ∀ c ∈ s.drop k, chgLt y c = true) (fun k => k)
          (fun k => st Tryz.f8.ntmps [(1, .imm (.list (xs.map Change.enc))), (2, .imm (.list (ys.map Change.enc))), (3, .box 1001 0), (8, .own 1002 0 0), (9, .own 1000 0 s.length), (10, .imm (.int .i64 (j : Nat))), (11, .imm (.int .i64 (k : Nat)))]
            [(1001, .box 40 (t.enc.map .imm)), (1002, .arr 62 5 []), (1000, .arr 62 5 (s.map Change.enc))] []) s.length ⟨Nat.le_refl _, by simp⟩ ?_ ?_
        · exact ref_st id rfl ⟨rfl, rfl, ⟨rfl, rfl⟩, ⟨rfl, rfl⟩, ⟨rfl, rfl⟩, rfl, rfl, trivial⟩ ⟨⟨rfl, wavs_imm _⟩, rfl, rfl, trivial⟩ (by simp) rfl (by simp)
        rintro k ⟨hk, hdr⟩
        have hgo : (k = 0 ∨ ∃ c, s[k - 1]? = some c ∧ chgLt y c = false) → s.take k ++ [y] ++ s.drop k = mrN xs ys (j + 1) := fun h => by rw [hnx]; exact insL_at chgWeak hsrt hdr h
        have hlen' : (s.take k ++ [y] ++ s.drop k).length = s.length + 1 := by simp; omega
        have rr1 : ((s.map Change.enc).drop 0).take k = (s.take k).map Change.enc := by rw [List.drop_zero, List.map_take]
        have rr2 : ((s.map Change.enc).drop k).take (s.length - k) = (s.drop k).map Change.enc := by rw [← List.map_drop, List.take_of_length_le (by simp)]
        have o1 : ∀ r ∈ (s.take k).map Change.enc, r.all D.one = true := fun r hr => (change_one' _ r hr).2
        have o2 : ∀ r ∈ (s.drop k).map Change.enc, r.all D.one = true := fun r hr => (change_one' _ r hr).2
        have o3 := change_one [y]
        by_cases hk0 : k = 0
        · subst hk0
          have hF1 : 0 + 0 ≤ (s.map Change.enc).length := by omega
          have hF2 : 0 + (s.length - 0) ≤ (s.map Change.enc).length := by omega
          have hB1 : 0 + 0 ≤ 1073741824 := by omega
          have hB2 : 0 + 0 + 1 ≤ 1073741824 := by omega
          have hB3 : 0 + 0 + 1 + (s.length - 0) ≤ 1073741824 := by omega
          have hL1 : 0 + 0 = (List.replicate 0 ty62.zero ++ (s.take 0).map Change.enc).length := by simp
          have hL2 : 0 + 0 + 1 = (List.replicate 0 ty62.zero ++ (s.take 0).map Change.enc ++ [y].map Change.enc).length := by simp
          repeat' first | refine go_seq ?_ | refine go_region ?_ | refine go_miss rfl rfl rfl ?_ | refine go_undef rfl rfl rfl ?_ | refine go_draw drawsOk ?_ | ((first | refine go_op rfl ?_ | refine go_nil ?_ | refine go_hit rfl rfl rfl ?_ | refine go_splitT rfl rfl rfl (fun h => ?_) (fun h => ?_) | refine go_splitF rfl rfl rfl (fun h => ?_) (fun h => ?_) | refine go_dop rfl ?_ | refine go_dhit rfl rfl ?_ | refine go_dmiss rfl rfl ?_ | refine go_dundef rfl rfl ?_ | refine go_dend (by kernel_rfl) ?_ | refine go_pickT rfl ?_ | refine go_pickF rfl ?_ | refine go_pick rfl (fun h => ?_) (fun h => ?_) | refine go_idx rfl rfl rfl rfl (by omega) hry rfl ?_ | refine go_sliceTo (k := 0) (id := 1000) rfl rfl rfl rfl rfl rfl hk ?_ | refine go_sliceFrom (k := 0) (id := 1000) rfl rfl rfl rfl rfl rfl hk ?_ | refine go_appSl (off2 := 0) (rr := (s.take 0).map Change.enc) rfl rfl rfl rfl rfl rfl rfl rfl rfl rfl rfl rfl hF1 rr1 o1 rfl rfl hB1 ?_ | refine go_append (rows2 := [y].map Change.enc) rfl rfl rfl rfl rfl rfl rfl rfl rfl rfl rfl rfl o3 rfl hL1 rfl hB2 ?_ | refine go_appSl (off2 := 0) (rr := (s.drop 0).map Change.enc) rfl rfl rfl rfl rfl rfl rfl rfl rfl rfl rfl rfl hF2 rr2 o2 rfl hL2 hB3 ?_) <;> conv => whnf) | ((first | refine go_dsplit2 rfl (fun h => ?_) (fun h => ?_) | refine go_loadB ?_ | refine ⟨by kernel_rfl, ?_⟩ | refine go_ret ?_) <;> conv => whnf) | refine go_block ?_ | ((first | refine go_skip ?_ | refine go_exit ?_) <;> conv => whnf) | refine go_true rfl ?_ | refine go_false rfl ?_ | refine go_cond rfl (fun h => ?_) (fun h => ?_) | refine ⟨rfl, ?_⟩ | ((first | refine ⟨trivial, ?_⟩ | refine ⟨le_of_ble rfl, ?_⟩) <;> conv => whnf) | fail
          all_goals first
            | (refine go_next (j + 1) (by omega) (by omega) (ref_st (fun y => if y = 1000 then nid 3 85 else y) rfl ⟨rfl, rfl, ⟨rfl, rfl⟩, ⟨rfl, rfl⟩, ⟨?_, rfl⟩, next_i (by omega), trivial⟩ ⟨⟨rfl, wavs_imm _⟩, rfl, ?_, trivial⟩ (by simp [nid]) rfl (by simp))
               · show AV.own _ _ _ = AV.own _ _ _
                 congr 1
                 rw [← hgo (.inl rfl), hlen']
                 omega
               · show some _ = some _
                 rw [← hgo (.inl rfl), List.map_append, List.map_append]
                 rfl
               done)
            | (exfalso; have h' := of_decide_eq_false h; omega)
            | (exfalso; have h' := of_decide_eq_true h; omega)
            | (exfalso; rename_i hq; have h' := of_decide_eq_true hq; omega)
            | (exfalso; rename_i hq; have h' := of_decide_eq_false hq; omega)
            | (exfalso; rename_i hq _; have h' := of_decide_eq_true hq; omega)
            | (exfalso; rename_i hq _; have h' := of_decide_eq_false hq; omega)
            | trace_state
        · obtain ⟨q, rfl⟩ : ∃ q, k = q + 1 := ⟨k - 1, by omega⟩
          obtain ⟨c, hcq⟩ : ∃ c, s[q]? = some c := ⟨_, List.getElem?_eq_getElem (by omega)⟩
          have r0 : (s.map Change.enc)[q]? = some (Change.enc c) := by rw [List.getElem?_map, hcq]; rfl
          have hF1 : 0 + (q + 1) ≤ (s.map Change.enc).length := by omega
          have hF2 : q + 1 + (s.length - (q + 1)) ≤ (s.map Change.enc).length := by omega
          have hB1 : 0 + (q + 1) ≤ 1073741824 := by omega
          have hB2 : 0 + (q + 1) + 1 ≤ 1073741824 := by omega
          have hB3 : 0 + (q + 1) + 1 + (s.length - (q + 1)) ≤ 1073741824 := by omega
          have hL1 : 0 + (q + 1) = (List.replicate 0 ty62.zero ++ (s.take (q + 1)).map Change.enc).length := by simp; omega
          have hL2 : 0 + (q + 1) + 1 = (List.replicate 0 ty62.zero ++ (s.take (q + 1)).map Change.enc ++ [y].map Change.enc).length := by simp; omega
          have ej : IntKind.i64.wrap (((q + 1 : Nat) : Int) - 1) = (q : Nat) := by rw [wrap_small (by omega) (by omega)]; omega
          have hdj : s.drop q = c :: s.drop (q + 1) := by
            rw [List.drop_eq_getElem_cons (show q < s.length by omega)]
            congr 1
            exact (List.getElem?_eq_some_iff.1 hcq).2
          repeat' first | refine go_seq ?_ | refine go_region ?_ | refine go_miss rfl rfl rfl ?_ | refine go_undef rfl rfl rfl ?_ | refine go_draw drawsOk ?_ | ((first | refine go_op rfl ?_ | refine go_nil ?_ | refine go_hit rfl rfl rfl ?_ | refine go_splitT rfl rfl rfl (fun h => ?_) (fun h => ?_) | refine go_splitF rfl rfl rfl (fun h => ?_) (fun h => ?_) | refine go_dop rfl ?_ | refine go_dhit rfl rfl ?_ | refine go_dmiss rfl rfl ?_ | refine go_dundef rfl rfl ?_ | refine go_dend (by kernel_rfl) ?_ | refine go_pickT rfl ?_ | refine go_pickF rfl ?_ | refine go_pick rfl (fun h => ?_) (fun h => ?_) | refine go_idx rfl rfl rfl rfl (by omega) hry rfl ?_ | refine go_sliceTo (k := q + 1) (id := 1000) rfl rfl rfl rfl rfl rfl hk ?_ | refine go_sliceFrom (k := q + 1) (id := 1000) rfl rfl rfl rfl rfl rfl hk ?_ | refine go_appSl (off2 := 0) (rr := (s.take (q + 1)).map Change.enc) rfl rfl rfl rfl rfl rfl rfl rfl rfl rfl rfl rfl hF1 rr1 o1 rfl rfl hB1 ?_ | refine go_append (rows2 := [y].map Change.enc) rfl rfl rfl rfl rfl rfl rfl rfl rfl rfl rfl rfl o3 rfl hL1 rfl hB2 ?_ | refine go_appSl (off2 := q + 1) (rr := (s.drop (q + 1)).map Change.enc) rfl rfl rfl rfl rfl rfl rfl rfl rfl rfl rfl rfl hF2 rr2 o2 rfl hL2 hB3 ?_ | refine go_idxOwnI (j := q) rfl rfl ej rfl rfl rfl rfl (show q < _ by omega) ?_ | refine go_loadEl (i := q) rfl rfl rfl r0 ?_) <;> conv => whnf) | ((first | refine go_dsplit2 rfl (fun h => ?_) (fun h => ?_) | refine go_loadB ?_ | refine ⟨by kernel_rfl, ?_⟩ | refine go_ret ?_) <;> conv => whnf) | refine go_block ?_ | ((first | refine go_skip ?_ | refine go_exit ?_) <;> conv => whnf) | refine go_true rfl ?_ | refine go_false rfl ?_ | refine go_cond rfl (fun h => ?_) (fun h => ?_) | refine ⟨rfl, ?_⟩ | ((first | refine ⟨trivial, ?_⟩ | refine ⟨le_of_ble rfl, ?_⟩) <;> conv => whnf) | fail
          all_goals first
            | (refine go_next q ⟨by omega, ?_⟩ (by omega) (ref_st id rfl ⟨rfl, rfl, ⟨rfl, rfl⟩, ⟨rfl, rfl⟩, ⟨rfl, rfl⟩, rfl, ?_, trivial⟩ ⟨⟨rfl, wavs_imm _⟩, rfl, rfl, trivial⟩ (by simp) rfl (by simp))
               · intro z hz
                 rw [hdj] at hz
                 rcases List.mem_cons.1 hz with rfl | hz
                 · unfold chgLt
                   simp only [decide_eq_true_eq, decide_eq_false_iff_not] at *
                   omega
                 · exact hdr z hz
               · show AV.imm (.int .i64 _) = AV.imm (.int .i64 _)
                 rw [ej]
               done)
            | (have hno : chgLt y c = false := by
                 unfold chgLt
                 simp only [decide_eq_true_eq, decide_eq_false_iff_not] at *
                 omega
               refine go_next (j + 1) (by omega) (by omega) (ref_st (fun y => if y = 1000 then nid 3 85 else y) rfl ⟨rfl, rfl, ⟨rfl, rfl⟩, ⟨rfl, rfl⟩, ⟨?_, rfl⟩, next_i (by omega), trivial⟩ ⟨⟨rfl, wavs_imm _⟩, rfl, ?_, trivial⟩ (by simp [nid]) rfl (by simp))
               · show AV.own _ _ _ = AV.own _ _ _
                 congr 1
                 rw [← hgo (.inr ⟨c, hcq, hno⟩), hlen']
                 omega
               · show some _ = some _
                 rw [← hgo (.inr ⟨c, hcq, hno⟩), List.map_append, List.map_append]
                 rfl
               done)
            | (exfalso; have h' := of_decide_eq_false h; omega)
            | (exfalso; have h' := of_decide_eq_true h; omega)
            | (exfalso; rename_i hq; have h' := of_decide_eq_true hq; omega)
            | (exfalso; rename_i hq; have h' := of_decide_eq_false hq; omega)
            | (exfalso; rename_i hq _; have h' := of_decide_eq_true hq; omega)
            | (exfalso; rename_i hq _; have h' := of_decide_eq_false hq; omega)
            | trace_state
end Go.Proofs.YtcfhmncbfekoaaaGreat

