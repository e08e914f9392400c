/- Depots: the reference's blockers; comparisons of depots. -/
import Derived.Test.YtkjigbbbobijnaaE3
import Derived.Test.YtkjigbbbobijnaaC2
namespace Go.Proofs.Ytkjigbbbobijnaa
open Go Go.Am
set_option maxRecDepth 100000
set_option maxHeartbeats 8000000
attribute [local irreducible] amOps amC opCall opIndexAddr opPick retQ opMake opStore amDraw opAppend opLoad opNilCmp opIndex opSlice

theorem rev_drop {tr : List Int} {q : Nat} {x : Int} (h : tr[q]? = some x) : (tr.drop q).reverse = (tr.drop (q + 1)).reverse ++ [x] := by
  rw [drop_at h, List.reverse_cons]
theorem c32 (d : Depot) (i k : Nat) (tr : List Int) (ht : d.tracks[i]? = some tr) (hl : tr.length ≤ 1000) (hi : i ≤ 1000) (hk : k < tr.length) : CallOk Try.prog 32 [.imm (.agg d.enc), .imm (.int .i64 ((i : Nat) : Int)), .imm (.int .i64 ((k : Nat) : Int))]
    { res := [.imm (.list ((tr.drop (k + 1)).reverse.map intRow))] } := by
  refine callOk_of tyOk Try.func32 rfl rfl (le_of_ble rfl) (le_of_ble rfl) (mutOk_imm rfl _) ?_
  have hr := ints_row ht
  have hw0 : AV.imm (.int .i64 (IntKind.i64.wrap (((tr.map intRow).length : Int) - 1))) = .imm (.int .i64 (((tr.length : Nat) : Int) - 1)) := by rw [List.length_map, wrap_small (by omega) (by omega)]
  repeat' first | refine go_seq ?_ | refine go_region ?_ | ((first | refine go_op rfl ?_ | refine go_nil ?_ | refine go_idx rfl rfl rfl rfl (by omega) hr rfl ?_) <;> conv => whnf) | ((first | refine go_loadB ?_ | refine ⟨by kernel_rfl, ?_⟩ | refine go_ret ?_) <;> conv => whnf) | refine go_block ?_ | ((first | refine go_skip ?_ | refine go_exit ?_) <;> conv => whnf) | refine go_true rfl ?_ | refine go_false rfl ?_ | refine go_cond rfl (fun h => ?_) (fun h => ?_) | refine ⟨rfl, ?_⟩ | ((first | refine ⟨trivial, ?_⟩ | refine ⟨le_of_ble rfl, ?_⟩) <;> conv => whnf) | fail
  refine go_loop (α := Nat) (fun p => k + 1 ≤ p ∧ p ≤ tr.length) (fun p => p)
    (fun p => st Try.f32.ntmps [(1, .imm (.int .i64 ((i : Nat) : Int))), (2, .imm (.int .i64 ((k : Nat) : Int))), (3, .box 1000 0), (7, .own 1001 0 ((tr.drop p).reverse.map intRow).length), (8, .imm (.int .i64 (((p : Nat) : Int) - 1)))]
      [(1000, .box 27 (d.enc.map .imm)), (1001, .arr 3 1 ((tr.drop p).reverse.map intRow))] []) tr.length ⟨by omega, Nat.le_refl _⟩ ?_ ?_
  · refine ref_st (fun x => if x = 1000 then nid 1 3 else nid 2 9) rfl ⟨rfl, rfl, ⟨rfl, rfl⟩, ⟨?_, rfl⟩, hw0, trivial⟩ ⟨⟨rfl, wavs_imm _⟩, ?_, trivial⟩ (by simp [nid]) rfl (by simp)
    · show AV.own _ _ _ = AV.own _ _ _
      rw [List.drop_length]; rfl
    · show some _ = some _
      rw [List.drop_length]; rfl
  rintro p ⟨hp1, hp2⟩
  by_cases hgo : k + 1 < p
  · obtain ⟨q, rfl⟩ : ∃ q, p = q + 1 := ⟨p - 1, by omega⟩
    obtain ⟨x, hx⟩ : ∃ x, tr[q]? = some x := ⟨_, List.getElem?_eq_getElem (by omega)⟩
    have hr3 := row_at intRow hx
    have hcond : decide (((k : Nat) : Int) < ((q + 1 : Nat) : Int) - 1) = true := by simp; omega
    have e1 : ((q + 1 : Nat) : Int) - 1 = ((q : Nat) : Int) := by omega
    have e2 : AV.imm (.int .i64 (IntKind.i64.wrap (((q + 1 : Nat) : Int) - 1 - 1))) = .imm (.int .i64 (((q : Nat) : Int) - 1)) := by rw [wrap_small (by omega) (by omega), e1]
    have hr4 : (tr.map intRow)[(((q + 1 : Nat) : Int) - 1).toNat]? = some (intRow x) := by rw [e1]; exact hr3
    have hone : ([x].map intRow).all (fun r => r.all D.one) = true := rfl
    have hbd : ((tr.drop (q + 1)).reverse.map intRow).length + 1 ≤ 1073741824 := by simp; omega
    repeat' first | refine go_seq ?_ | refine go_region ?_ | ((first | refine go_op rfl ?_ | refine go_nil ?_ | refine go_idx rfl rfl rfl rfl (by omega) hr4 rfl ?_ | refine go_idx rfl rfl rfl rfl (by omega) hr rfl ?_ | refine go_append (rows2 := [x].map intRow) rfl rfl rfl rfl rfl rfl rfl rfl rfl rfl rfl rfl hone rfl rfl rfl hbd ?_) <;> conv => whnf) | ((first | refine go_loadB ?_ | refine ⟨by kernel_rfl, ?_⟩ | refine go_ret ?_) <;> conv => whnf) | refine go_block ?_ | ((first | refine go_skip ?_ | refine go_exit ?_) <;> conv => whnf) | refine go_true rfl ?_ | refine go_false rfl ?_ | refine go_cond rfl (fun h => ?_) (fun h => ?_) | refine ⟨rfl, ?_⟩ | ((first | refine ⟨trivial, ?_⟩ | refine ⟨le_of_ble rfl, ?_⟩) <;> conv => whnf) | fail
    all_goals first
      | (refine go_next q ⟨by omega, by omega⟩ (by omega) (ref_st (fun y => if y = 1001 then nid 3 32 else y) rfl ⟨rfl, rfl, ⟨rfl, rfl⟩, ⟨?_, rfl⟩, e2, trivial⟩ ⟨⟨rfl, wavs_imm _⟩, ?_, trivial⟩ (by simp [nid]) rfl (by simp))
         · show AV.own _ _ _ = AV.own _ _ _
           rw [rev_drop hx, List.map_append, List.length_append]; rfl
         · show some _ = some _
           rw [rev_drop hx, List.map_append]; rfl)
      | (exfalso; rw [hcond] at h; cases h)
      | trace_state
  · have hpe : p = k + 1 := by omega
    subst hpe
    have hcond : decide (((k : Nat) : Int) < ((k + 1 : Nat) : Int) - 1) = false := by rw [decide_eq_false_iff_not]; omega
    repeat' first | refine go_seq ?_ | refine go_region ?_ | ((first | refine go_op rfl ?_ | refine go_nil ?_) <;> conv => whnf) | ((first | refine go_loadB ?_ | refine ⟨by kernel_rfl, ?_⟩ | refine go_ret ?_) <;> conv => whnf) | refine go_block ?_ | ((first | refine go_skip ?_ | refine go_exit ?_) <;> conv => whnf) | refine go_true rfl ?_ | refine go_false rfl ?_ | refine go_cond rfl (fun h => ?_) (fun h => ?_) | refine ⟨rfl, ?_⟩ | ((first | refine ⟨trivial, ?_⟩ | refine ⟨le_of_ble rfl, ?_⟩) <;> conv => whnf) | fail
    all_goals first
      | exact ret_own rfl rfl rfl rfl rfl (by first | rfl | rw [List.drop_zero, List.take_length]) (int_gr _)
      | (exfalso; rw [hcond] at h; cases h)
      | trace_state

theorem c15 (d : Depot) (hf : d.fit) (v : Int) : CallOk Try.prog 15 [.imm (.agg d.enc), .imm (.int .i64 v)] { res := [.imm (.list ((bkL d v).map intRow)), .imm (.bool (bkT d v))], sep := false } := by
  refine callOk_of tyOk Try.func15 rfl rfl (le_of_ble rfl) (le_of_ble rfl) (mutOk_imm rfl _) ?_
  have hV := c24 d hf
  have hT := c31 d hf v
  obtain ⟨_, f2, f3⟩ := hf
  unfold bkL bkT
  cases hok : depOk d with
  | false =>
    rw [hok] at hV
    repeat' first | refine go_seq ?_ | refine go_region ?_ | refine go_miss rfl rfl rfl ?_ | refine go_undef rfl rfl rfl ?_ | ((first | refine go_op rfl ?_ | refine go_nil ?_ | refine go_hit rfl rfl rfl ?_ | refine go_splitT rfl rfl rfl (fun h => ?_) (fun h => ?_) | refine go_splitF rfl rfl rfl (fun h => ?_) (fun h => ?_) | refine go_pickT rfl ?_ | refine go_pickF rfl ?_ | refine go_pick rfl (fun h => ?_) (fun h => ?_) | refine go_call [] (hV) rfl rfl rfl rfl ?_ | refine go_call [] (hT) rfl rfl rfl rfl ?_) <;> conv => whnf) | ((first | refine go_loadB ?_ | refine ⟨by kernel_rfl, ?_⟩ | refine go_ret ?_) <;> conv => whnf) | ((first | refine go_skip ?_) <;> conv => whnf) | refine go_true rfl ?_ | refine go_false rfl ?_ | refine go_cond rfl (fun h => ?_) (fun h => ?_) | refine ⟨rfl, ?_⟩ | ((first | refine ⟨trivial, ?_⟩ | refine ⟨le_of_ble rfl, ?_⟩) <;> conv => whnf) | fail
    all_goals first
      | exact ret_own2 rfl rfl rfl rfl rfl rfl (by intro x hx; cases hx) rfl rfl rfl
      | (exfalso; simp at h; done)
      | trace_state
  | true =>
    rw [hok] at hV
    rw [if_pos rfl, Bool.true_and]
    cases hp : plc d.tracks v with
    | none =>
      rw [hp] at hT
      rw [blkL_none hp]
      have hT : CallOk Try.prog 31 [.imm (.agg d.enc), .imm (.int .i64 v)] { res := [.imm (.int .i64 (-1)), .imm (.int .i64 (-1))] } := hT
      repeat' first | refine go_seq ?_ | refine go_region ?_ | refine go_miss rfl rfl rfl ?_ | refine go_undef rfl rfl rfl ?_ | ((first | refine go_op rfl ?_ | refine go_nil ?_ | refine go_hit rfl rfl rfl ?_ | refine go_splitT rfl rfl rfl (fun h => ?_) (fun h => ?_) | refine go_splitF rfl rfl rfl (fun h => ?_) (fun h => ?_) | refine go_pickT rfl ?_ | refine go_pickF rfl ?_ | refine go_pick rfl (fun h => ?_) (fun h => ?_) | refine go_call [] (hV) rfl rfl rfl rfl ?_ | refine go_call [] (hT) rfl rfl rfl rfl ?_) <;> conv => whnf) | ((first | refine go_loadB ?_ | refine ⟨by kernel_rfl, ?_⟩ | refine go_ret ?_) <;> conv => whnf) | ((first | refine go_skip ?_) <;> conv => whnf) | refine go_true rfl ?_ | refine go_false rfl ?_ | refine go_cond rfl (fun h => ?_) (fun h => ?_) | refine ⟨rfl, ?_⟩ | ((first | refine ⟨trivial, ?_⟩ | refine ⟨le_of_ble rfl, ?_⟩) <;> conv => whnf) | fail
      all_goals first
        | exact ret_own2 rfl rfl rfl rfl rfl rfl (by intro x hx; cases hx) rfl rfl rfl
        | (exfalso; simp at h; done)
        | trace_state
    | some x =>
      obtain ⟨i, k⟩ := x
      rw [hp] at hT
      rw [blkL_some hp]
      have hT : CallOk Try.prog 31 [.imm (.agg d.enc), .imm (.int .i64 v)] { res := [.imm (.int .i64 ((i : Nat) : Int)), .imm (.int .i64 ((k : Nat) : Int))] } := hT
      obtain ⟨_, h2, _, h4⟩ := plcF_some hp
      rw [Nat.sub_zero] at h2 h4
      have ht := trk_at h2
      have htf := f3 _ (List.mem_of_getElem? ht)
      have hB := c32 d i k _ ht htf (by omega) h4
      repeat' first | refine go_seq ?_ | refine go_region ?_ | refine go_miss rfl rfl rfl ?_ | refine go_undef rfl rfl rfl ?_ | ((first | refine go_op rfl ?_ | refine go_nil ?_ | refine go_hit rfl rfl rfl ?_ | refine go_splitT rfl rfl rfl (fun h => ?_) (fun h => ?_) | refine go_splitF rfl rfl rfl (fun h => ?_) (fun h => ?_) | refine go_pickT rfl ?_ | refine go_pickF rfl ?_ | refine go_pick rfl (fun h => ?_) (fun h => ?_) | refine go_call [] (hV) rfl rfl rfl rfl ?_ | refine go_call [] (hT) rfl rfl rfl rfl ?_ | refine go_call [] (hB) rfl rfl rfl rfl ?_) <;> conv => whnf) | ((first | refine go_loadB ?_ | refine ⟨by kernel_rfl, ?_⟩ | refine go_ret ?_) <;> conv => whnf) | ((first | refine go_skip ?_) <;> conv => whnf) | refine go_true rfl ?_ | refine go_false rfl ?_ | refine go_cond rfl (fun h => ?_) (fun h => ?_) | refine ⟨rfl, ?_⟩ | ((first | refine ⟨trivial, ?_⟩ | refine ⟨le_of_ble rfl, ?_⟩) <;> conv => whnf) | fail
      all_goals first
        | exact ret_all rfl ⟨⟨rfl, fun h => by cases h⟩, ret1_imm rfl rfl, trivial⟩ List.nodup_nil List.nodup_nil trivial
        | (exfalso; simp at h; omega)
        | (exfalso; simp at h; done)
        | trace_state

theorem c4 (xs : List Int) : CallOk Try.prog 4 [.imm (.list (xs.map byteRow))] { res := [.imm (.bool (decide (65536 < ((xs.map byteRow).length : Int))))] } := by
  refine callOk_of tyOk Try.func4 rfl rfl (le_of_ble rfl) (le_of_ble rfl) (mutOk_imm rfl _) ?_
  repeat' first | refine go_seq ?_ | refine go_region ?_ | ((first | refine go_op rfl ?_ | refine go_nil ?_) <;> conv => whnf) | ((first | refine ⟨by kernel_rfl, ?_⟩ | refine go_ret ?_) <;> conv => whnf) | ((first | refine go_skip ?_) <;> conv => whnf) | refine ⟨rfl, ?_⟩ | ((first | refine ⟨trivial, ?_⟩ | refine ⟨le_of_ble rfl, ?_⟩) <;> conv => whnf) | fail
  all_goals exact ret_imm rfl rfl rfl rfl rfl rfl
/-- A list of numbers is equal to itself. -/
theorem c16 (xs : List Int) (hl : xs.length ≤ 1048576) : CallOk Try.prog 16 [.imm (.list (xs.map intRow)), .imm (.list (xs.map intRow))] { res := [.imm (.bool true)] } := by
  refine callOk_of tyOk Try.func16 rfl rfl (le_of_ble rfl) (le_of_ble rfl) (mutOk_imm rfl _) ?_
  repeat' first | refine go_seq ?_ | refine go_region ?_ | refine go_draw drawsOk ?_ | ((first | refine go_op rfl ?_ | refine go_nil ?_ | refine go_dop rfl ?_ | refine go_dend (by kernel_rfl) ?_) <;> conv => whnf) | ((first | refine go_loadB ?_ | refine ⟨by kernel_rfl, ?_⟩ | refine go_ret ?_) <;> conv => whnf) | refine go_block ?_ | ((first | refine go_skip ?_ | refine go_exit ?_) <;> conv => whnf) | refine go_true rfl ?_ | refine go_false rfl ?_ | refine go_cond rfl (fun h => ?_) (fun h => ?_) | refine ⟨rfl, ?_⟩ | ((first | refine ⟨trivial, ?_⟩ | refine ⟨le_of_ble rfl, ?_⟩) <;> conv => whnf) | fail
  all_goals first
    | (exfalso; simp at h; done)
    | skip
  refine go_loop (α := Nat) (fun i => i ≤ xs.length) (fun i => xs.length - i) (fun i => st Try.f16.ntmps [(0, .imm (.list (xs.map intRow))), (1, .imm (.list (xs.map intRow))), (5, .imm (.int .i64 (i : Nat)))] [] []) 0
    (Nat.zero_le _) (ref_st0 rfl ⟨rfl, rfl, rfl, trivial⟩ rfl) ?_
  intro i hi
  cases hx : xs[i]? with
  | none =>
    have hge := le_of_at hx
    repeat' first | refine go_seq ?_ | refine go_region ?_ | refine go_draw drawsOk ?_ | ((first | refine go_op rfl ?_ | refine go_nil ?_ | refine go_dop rfl ?_ | refine go_dend (by kernel_rfl) ?_) <;> conv => whnf) | ((first | refine go_loadB ?_ | refine ⟨by kernel_rfl, ?_⟩ | refine go_ret ?_) <;> conv => whnf) | refine go_block ?_ | ((first | refine go_skip ?_ | refine go_exit ?_) <;> conv => whnf) | refine go_true rfl ?_ | refine go_false rfl ?_ | refine go_cond rfl (fun h => ?_) (fun h => ?_) | refine ⟨rfl, ?_⟩ | ((first | refine ⟨trivial, ?_⟩ | refine ⟨le_of_ble rfl, ?_⟩) <;> conv => whnf) | fail
    all_goals first
      | exact ret_imm rfl rfl rfl rfl rfl rfl
      | (exfalso; simp only [decide_eq_true_eq, List.length_map] at *; omega)
      | trace_state
  | some d =>
    have hlt := lt_of_at hx
    have hr := row_at intRow hx
    repeat' first | refine go_seq ?_ | refine go_region ?_ | refine go_draw drawsOk ?_ | ((first | refine go_op rfl ?_ | refine go_nil ?_ | refine go_dop rfl ?_ | refine go_dend (by kernel_rfl) ?_ | refine go_idx rfl rfl rfl rfl (by omega) hr rfl ?_) <;> conv => whnf) | ((first | refine go_loadB ?_ | refine ⟨by kernel_rfl, ?_⟩ | refine go_ret ?_) <;> conv => whnf) | refine go_block ?_ | ((first | refine go_skip ?_ | refine go_exit ?_) <;> conv => whnf) | refine go_true rfl ?_ | refine go_false rfl ?_ | refine go_cond rfl (fun h => ?_) (fun h => ?_) | refine ⟨rfl, ?_⟩ | ((first | refine ⟨trivial, ?_⟩ | refine ⟨le_of_ble rfl, ?_⟩) <;> conv => whnf) | fail
    all_goals first
      | exact go_next (i + 1) (by show i + 1 ≤ _; omega) (by show _ - (i + 1) < _ - i; omega) (ref_st0 rfl ⟨rfl, rfl, next_i (by omega), trivial⟩ rfl)
      | (exfalso; simp at h; done)
      | (exfalso; simp only [decide_eq_false_iff_not, List.length_map] at *; omega)
      | trace_state
theorem c26 (ts : List (List Int)) (hl : ts.length ≤ 1000) (hf : ∀ t ∈ ts, t.length ≤ 1000) : CallOk Try.prog 26 [.imm (.list (ts.map intsRow)), .imm (.list (ts.map intsRow))] { res := [.imm (.bool true)] } := by
  refine callOk_of tyOk Try.func26 rfl rfl (le_of_ble rfl) (le_of_ble rfl) (mutOk_imm rfl _) ?_
  repeat' first | refine go_seq ?_ | refine go_region ?_ | refine go_draw drawsOk ?_ | ((first | refine go_op rfl ?_ | refine go_nil ?_ | refine go_dop rfl ?_ | refine go_dend (by kernel_rfl) ?_) <;> conv => whnf) | ((first | refine go_loadB ?_ | refine ⟨by kernel_rfl, ?_⟩ | refine go_ret ?_) <;> conv => whnf) | refine go_block ?_ | ((first | refine go_skip ?_ | refine go_exit ?_) <;> conv => whnf) | refine go_true rfl ?_ | refine go_false rfl ?_ | refine go_cond rfl (fun h => ?_) (fun h => ?_) | refine ⟨rfl, ?_⟩ | ((first | refine ⟨trivial, ?_⟩ | refine ⟨le_of_ble rfl, ?_⟩) <;> conv => whnf) | fail
  all_goals first
    | (exfalso; simp at h; done)
    | skip
  refine go_loop (α := Nat) (fun i => i ≤ ts.length) (fun i => ts.length - i) (fun i => st Try.f26.ntmps [(0, .imm (.list (ts.map intsRow))), (1, .imm (.list (ts.map intsRow))), (5, .imm (.int .i64 (i : Nat)))] [] []) 0
    (Nat.zero_le _) (ref_st0 rfl ⟨rfl, rfl, rfl, trivial⟩ rfl) ?_
  intro i hi
  cases hx : ts[i]? with
  | none =>
    have hge := le_of_at hx
    repeat' first | refine go_seq ?_ | refine go_region ?_ | refine go_draw drawsOk ?_ | ((first | refine go_op rfl ?_ | refine go_nil ?_ | refine go_dop rfl ?_ | refine go_dend (by kernel_rfl) ?_) <;> conv => whnf) | ((first | refine go_loadB ?_ | refine ⟨by kernel_rfl, ?_⟩ | refine go_ret ?_) <;> conv => whnf) | refine go_block ?_ | ((first | refine go_skip ?_ | refine go_exit ?_) <;> conv => whnf) | refine go_true rfl ?_ | refine go_false rfl ?_ | refine go_cond rfl (fun h => ?_) (fun h => ?_) | refine ⟨rfl, ?_⟩ | ((first | refine ⟨trivial, ?_⟩ | refine ⟨le_of_ble rfl, ?_⟩) <;> conv => whnf) | fail
    all_goals first
      | exact ret_imm rfl rfl rfl rfl rfl rfl
      | (exfalso; simp only [decide_eq_true_eq, List.length_map] at *; omega)
      | trace_state
  | some t =>
    have hlt := lt_of_at hx
    have hr := ints_row hx
    have hI := c16 t (by have := hf t (List.mem_of_getElem? hx); omega)
    repeat' first | refine go_seq ?_ | refine go_region ?_ | refine go_draw drawsOk ?_ | ((first | refine go_op rfl ?_ | refine go_nil ?_ | refine go_dop rfl ?_ | refine go_dend (by kernel_rfl) ?_ | refine go_call [] (hI) rfl rfl rfl rfl ?_ | refine go_idx rfl rfl rfl rfl (by omega) hr rfl ?_) <;> conv => whnf) | ((first | refine go_loadB ?_ | refine ⟨by kernel_rfl, ?_⟩ | refine go_ret ?_) <;> conv => whnf) | refine go_block ?_ | ((first | refine go_skip ?_ | refine go_exit ?_) <;> conv => whnf) | refine go_true rfl ?_ | refine go_false rfl ?_ | refine go_cond rfl (fun h => ?_) (fun h => ?_) | refine ⟨rfl, ?_⟩ | ((first | refine ⟨trivial, ?_⟩ | refine ⟨le_of_ble rfl, ?_⟩) <;> conv => whnf) | fail
    all_goals first
      | exact go_next (i + 1) (by show i + 1 ≤ _; omega) (by show _ - (i + 1) < _ - i; omega) (ref_st0 rfl ⟨rfl, rfl, next_i (by omega), trivial⟩ rfl)
      | (exfalso; simp at h; done)
      | (exfalso; simp only [decide_eq_false_iff_not, List.length_map] at *; omega)
      | trace_state
theorem c8 (d : Depot) (hf : d.fit) : CallOk Try.prog 8 [.imm (.agg d.enc), .imm (.agg d.enc)] { res := [.imm (.bool true)] } := by
  refine callOk_of tyOk Try.func8 rfl rfl (le_of_ble rfl) (le_of_ble rfl) (mutOk_imm rfl _) ?_
  obtain ⟨f1, f2, f3⟩ := hf
  have h1 := c16 d.sizes (by omega)
  have h2 := c26 d.tracks f2 f3
  repeat' first | refine go_seq ?_ | refine go_region ?_ | refine go_miss rfl rfl rfl ?_ | refine go_undef rfl rfl rfl ?_ | ((first | refine go_op rfl ?_ | refine go_nil ?_ | refine go_hit rfl rfl rfl ?_ | refine go_splitT rfl rfl rfl (fun h => ?_) (fun h => ?_) | refine go_splitF rfl rfl rfl (fun h => ?_) (fun h => ?_) | refine go_pickT rfl ?_ | refine go_pickF rfl ?_ | refine go_pick rfl (fun h => ?_) (fun h => ?_) | refine go_call [] (h1) rfl rfl rfl rfl ?_ | refine go_call [] (h2) rfl rfl rfl rfl ?_) <;> conv => whnf) | ((first | refine go_loadB ?_ | refine ⟨by kernel_rfl, ?_⟩ | refine go_ret ?_) <;> conv => whnf) | ((first | refine go_skip ?_) <;> conv => whnf) | refine ⟨rfl, ?_⟩ | ((first | refine ⟨trivial, ?_⟩ | refine ⟨le_of_ble rfl, ?_⟩) <;> conv => whnf) | fail
  all_goals first
    | exact ret_imm rfl rfl rfl rfl rfl rfl
    | (exfalso; simp at h; done)
    | trace_state
end Go.Proofs.Ytkjigbbbobijnaa

