/- The walks of the messages that matter at a time. -/
import Derived.Test.YtlkmbamenkjcmaaM5
namespace Go.Proofs.Ytlkmbamenkjcmaa
open Go Go.Am
set_option maxRecDepth 100000
set_option maxHeartbeats 4000000
attribute [local irreducible] amOps amC opCall opIndexAddr opPick retQ opMake opStore amDraw opAppend opLoad opNilCmp opIndex

theorem c34 (xs : List Message) (now : Int) (hl : xs.length ≤ 1048576) : CallOk Try.prog 34 [.imm (.list (xs.map Message.enc)), .imm (.int .i64 now)]
    { res := [.arr 3 1 ((amR now xs).map intRow), .imm (.bool (amOk now xs))] } := by
  refine callOk_of tyOk Try.func34 rfl rfl (le_of_ble rfl) (le_of_ble rfl) (mutOk_imm rfl _) ?_
  have hc0 := c97 xs hl
  have hc1 := c91 now
  cases hok : amOk now xs with
  | false =>
    have hm : amR now xs = [] := by unfold amR; rw [hok]; rfl
    rw [hm]
    cases hn : noticeOk xs with
    | false =>
      rw [hn] at hc0
      repeat' first
        | refine go_seq ?_
        | refine go_region ?_
        | (refine go_op rfl ?_; conv => whnf)
        | (refine go_nil ?_; conv => whnf)
        | (refine go_hit rfl rfl rfl ?_; conv => whnf)
        | (refine go_miss rfl rfl rfl ?_)
        | (refine go_undef rfl rfl rfl ?_)
        | (refine go_splitT rfl rfl rfl (fun h => ?_) (fun h => ?_) <;> conv => whnf)
        | (refine go_splitF rfl rfl rfl (fun h => ?_) (fun h => ?_) <;> conv => whnf)
        | (refine go_storeBox rfl rfl rfl rfl rfl rfl ?_; conv => whnf)
        | (refine go_dop rfl ?_; conv => whnf)
        | (refine go_dhit rfl rfl ?_; conv => whnf)
        | refine go_dmiss rfl rfl ?_
        | refine go_dundef rfl rfl ?_
        | (refine go_dend (by kernel_rfl) ?_; conv => whnf)
        | refine go_draw drawsOk ?_
        | (refine go_pickT rfl ?_; conv => whnf)
        | (refine go_pickF rfl ?_; conv => whnf)
        | (refine go_pick rfl (fun h => ?_) (fun h => ?_) <;> conv => whnf)
        | (refine go_call [] (hc0) rfl rfl rfl rfl ?_; conv => whnf)
        | (refine go_loadB ?_; conv => whnf)
        | (refine ⟨by kernel_rfl, ?_⟩; conv => whnf)
        | (refine go_ret ?_; conv => whnf)
        | refine go_block ?_
        | (refine go_skip ?_; conv => whnf)
        | (refine go_exit ?_; conv => whnf)
        | refine go_true rfl ?_
        | refine go_false rfl ?_
        | refine go_cond rfl (fun h => ?_) (fun h => ?_)
        | refine ⟨rfl, ?_⟩
        | (refine ⟨trivial, ?_⟩; conv => whnf)
        | (refine ⟨le_of_ble rfl, ?_⟩; conv => whnf)
        | fail
      all_goals exact ret_arr2 rfl rfl rfl rfl rfl rfl (int_gr _) rfl rfl rfl
    | true =>
      have h1 : timeOk now = false := by simpa [amOk, hn] using hok
      rw [hn] at hc0
      rw [h1] at hc1
      repeat' first
        | refine go_seq ?_
        | refine go_region ?_
        | (refine go_op rfl ?_; conv => whnf)
        | (refine go_nil ?_; conv => whnf)
        | (refine go_hit rfl rfl rfl ?_; conv => whnf)
        | (refine go_miss rfl rfl rfl ?_)
        | (refine go_undef rfl rfl rfl ?_)
        | (refine go_splitT rfl rfl rfl (fun h => ?_) (fun h => ?_) <;> conv => whnf)
        | (refine go_splitF rfl rfl rfl (fun h => ?_) (fun h => ?_) <;> conv => whnf)
        | (refine go_storeBox rfl rfl rfl rfl rfl rfl ?_; conv => whnf)
        | (refine go_dop rfl ?_; conv => whnf)
        | (refine go_dhit rfl rfl ?_; conv => whnf)
        | refine go_dmiss rfl rfl ?_
        | refine go_dundef rfl rfl ?_
        | (refine go_dend (by kernel_rfl) ?_; conv => whnf)
        | refine go_draw drawsOk ?_
        | (refine go_pickT rfl ?_; conv => whnf)
        | (refine go_pickF rfl ?_; conv => whnf)
        | (refine go_pick rfl (fun h => ?_) (fun h => ?_) <;> conv => whnf)
        | (refine go_call [] (hc0) rfl rfl rfl rfl ?_; conv => whnf)
        | (refine go_call [] (hc1) rfl rfl rfl rfl ?_; conv => whnf)
        | (refine go_loadB ?_; conv => whnf)
        | (refine ⟨by kernel_rfl, ?_⟩; conv => whnf)
        | (refine go_ret ?_; conv => whnf)
        | refine go_block ?_
        | (refine go_skip ?_; conv => whnf)
        | (refine go_exit ?_; conv => whnf)
        | refine go_true rfl ?_
        | refine go_false rfl ?_
        | refine go_cond rfl (fun h => ?_) (fun h => ?_)
        | refine ⟨rfl, ?_⟩
        | (refine ⟨trivial, ?_⟩; conv => whnf)
        | (refine ⟨le_of_ble rfl, ?_⟩; conv => whnf)
        | fail
      all_goals exact ret_arr2 rfl rfl rfl rfl rfl rfl (int_gr _) rfl rfl rfl
  | true =>
    have hm : amR now xs = selAt (amP now) xs xs.length := by unfold amR; rw [hok]; rfl
    rw [hm]
    have hn10 : xs.length ≤ 10 := by
      have := hok
      simp only [amOk, noticeOk, Bool.and_eq_true, decide_eq_true_eq] at this
      omega
    have hok' := hok
    simp only [amOk, Bool.and_eq_true] at hok'
    rw [hok'.1] at hc0
    rw [hok'.2] at hc1
    repeat' first
      | refine go_seq ?_
      | refine go_region ?_
      | (refine go_op rfl ?_; conv => whnf)
      | (refine go_nil ?_; conv => whnf)
      | (refine go_hit rfl rfl rfl ?_; conv => whnf)
      | (refine go_miss rfl rfl rfl ?_)
      | (refine go_undef rfl rfl rfl ?_)
      | (refine go_splitT rfl rfl rfl (fun h => ?_) (fun h => ?_) <;> conv => whnf)
      | (refine go_splitF rfl rfl rfl (fun h => ?_) (fun h => ?_) <;> conv => whnf)
      | (refine go_storeBox rfl rfl rfl rfl rfl rfl ?_; conv => whnf)
      | (refine go_dop rfl ?_; conv => whnf)
      | (refine go_dhit rfl rfl ?_; conv => whnf)
      | refine go_dmiss rfl rfl ?_
      | refine go_dundef rfl rfl ?_
      | (refine go_dend (by kernel_rfl) ?_; conv => whnf)
      | refine go_draw drawsOk ?_
      | (refine go_pickT rfl ?_; conv => whnf)
      | (refine go_pickF rfl ?_; conv => whnf)
      | (refine go_pick rfl (fun h => ?_) (fun h => ?_) <;> conv => whnf)
      | (refine go_call [] (hc0) rfl rfl rfl rfl ?_; conv => whnf)
      | (refine go_call [] (hc1) rfl rfl rfl rfl ?_; conv => whnf)
      | (refine go_loadB ?_; conv => whnf)
      | (refine ⟨by kernel_rfl, ?_⟩; conv => whnf)
      | (refine go_ret ?_; conv => whnf)
      | refine go_block ?_
      | (refine go_skip ?_; conv => whnf)
      | (refine go_exit ?_; conv => whnf)
      | refine go_true rfl ?_
      | refine go_false rfl ?_
      | refine go_cond rfl (fun h => ?_) (fun h => ?_)
      | refine ⟨rfl, ?_⟩
      | (refine ⟨trivial, ?_⟩; conv => whnf)
      | (refine ⟨le_of_ble rfl, ?_⟩; conv => whnf)
      | fail
    refine go_loop (α := Nat) (fun i => i ≤ xs.length) (fun i => xs.length - i)
      (fun i => st Try.f34.ntmps [(0, .imm (.list (xs.map Message.enc))), (1, .imm (.int .i64 now)), (6, .own 1000 0 ((selAt (amP now) xs i).map intRow).length), (7, .imm (.int .i64 (i : Nat)))] [(1000, .arr 3 1 ((selAt (amP now) xs i).map intRow))] []) 0 (Nat.zero_le _) ?_ ?_
    · exact ref_st (fun _ => nid 2 10) rfl ⟨rfl, rfl, ⟨rfl, rfl⟩, rfl, trivial⟩ ⟨rfl, trivial⟩ (by simp) rfl (by simp)
    · intro i hi
      have hsl := sel_len (amP now) xs i
      have hb : ((selAt (amP now) xs i).map intRow).length + 1 ≤ 1073741824 := by rw [List.length_map]; omega
      cases hx : xs[i]? with
      | none =>
        have hge := le_of_at hx
        have hie : i = xs.length := by omega
        rw [hie]
        repeat' first
          | refine go_seq ?_
          | refine go_region ?_
          | (refine go_op rfl ?_; conv => whnf)
          | (refine go_nil ?_; conv => whnf)
          | (refine go_hit rfl rfl rfl ?_; conv => whnf)
          | (refine go_miss rfl rfl rfl ?_)
          | (refine go_undef rfl rfl rfl ?_)
          | (refine go_splitT rfl rfl rfl (fun h => ?_) (fun h => ?_) <;> conv => whnf)
          | (refine go_splitF rfl rfl rfl (fun h => ?_) (fun h => ?_) <;> conv => whnf)
          | (refine go_storeBox rfl rfl rfl rfl rfl rfl ?_; conv => whnf)
          | (refine go_dop rfl ?_; conv => whnf)
          | (refine go_dhit rfl rfl ?_; conv => whnf)
          | refine go_dmiss rfl rfl ?_
          | refine go_dundef rfl rfl ?_
          | (refine go_dend (by kernel_rfl) ?_; conv => whnf)
          | refine go_draw drawsOk ?_
          | (refine go_pickT rfl ?_; conv => whnf)
          | (refine go_pickF rfl ?_; conv => whnf)
          | (refine go_pick rfl (fun h => ?_) (fun h => ?_) <;> conv => whnf)
          | (refine go_loadB ?_; conv => whnf)
          | (refine ⟨by kernel_rfl, ?_⟩; conv => whnf)
          | (refine go_ret ?_; conv => whnf)
          | refine go_block ?_
          | (refine go_skip ?_; conv => whnf)
          | (refine go_exit ?_; conv => whnf)
          | refine go_true rfl ?_
          | refine go_false rfl ?_
          | refine go_cond rfl (fun h => ?_) (fun h => ?_)
          | refine ⟨rfl, ?_⟩
          | (refine ⟨trivial, ?_⟩; conv => whnf)
          | (refine ⟨le_of_ble rfl, ?_⟩; conv => whnf)
          | fail
        · exfalso; simp at h
        · exact ret_arr2 rfl rfl rfl rfl rfl (by rw [List.drop_zero, List.take_length]) (int_gr _) rfl rfl rfl
      | some v =>
        have hlt := lt_of_at hx
        have hr := row_at Message.enc hx
        have hs1 := fun h => sel_hit (p := amP now) hx h
        have hs2 := fun h => sel_miss (p := amP now) hx h
        repeat' first
          | refine go_seq ?_
          | refine go_region ?_
          | (refine go_op rfl ?_; conv => whnf)
          | (refine go_nil ?_; conv => whnf)
          | (refine go_hit rfl rfl rfl ?_; conv => whnf)
          | (refine go_miss rfl rfl rfl ?_)
          | (refine go_undef rfl rfl rfl ?_)
          | (refine go_splitT rfl rfl rfl (fun h => ?_) (fun h => ?_) <;> conv => whnf)
          | (refine go_splitF rfl rfl rfl (fun h => ?_) (fun h => ?_) <;> conv => whnf)
          | (refine go_storeBox rfl rfl rfl rfl rfl rfl ?_; conv => whnf)
          | (refine go_dop rfl ?_; conv => whnf)
          | (refine go_dhit rfl rfl ?_; conv => whnf)
          | refine go_dmiss rfl rfl ?_
          | refine go_dundef rfl rfl ?_
          | (refine go_dend (by kernel_rfl) ?_; conv => whnf)
          | refine go_draw drawsOk ?_
          | (refine go_pickT rfl ?_; conv => whnf)
          | (refine go_pickF rfl ?_; conv => whnf)
          | (refine go_pick rfl (fun h => ?_) (fun h => ?_) <;> conv => whnf)
          | (refine go_call [] (c102 now v.fro v.to) rfl rfl rfl rfl ?_; conv => whnf)
          | (refine go_idx rfl rfl rfl rfl (by omega) hr rfl ?_; conv => whnf)
          | (refine go_append (rows2 := [((i : Nat) : Int)].map intRow) rfl rfl rfl rfl rfl rfl rfl rfl rfl rfl rfl rfl (int_one [((i : Nat) : Int)]) rfl rfl rfl hb ?_; conv => whnf)
          | (refine go_loadB ?_; conv => whnf)
          | (refine ⟨by kernel_rfl, ?_⟩; conv => whnf)
          | (refine go_ret ?_; conv => whnf)
          | refine go_block ?_
          | (refine go_skip ?_; conv => whnf)
          | (refine go_exit ?_; conv => whnf)
          | refine go_true rfl ?_
          | refine go_false rfl ?_
          | refine go_cond rfl (fun h => ?_) (fun h => ?_)
          | refine ⟨rfl, ?_⟩
          | (refine ⟨trivial, ?_⟩; conv => whnf)
          | (refine ⟨le_of_ble rfl, ?_⟩; conv => whnf)
          | fail
        all_goals first
          | (exfalso; simp at h; omega)
          | (refine go_next (i + 1) (by omega) (by omega) ?_
             rw [hs2 (by simp_all [amP])]
             exact ref_st id rfl ⟨rfl, rfl, ⟨rfl, rfl⟩, next_i (by omega), trivial⟩ ⟨rfl, trivial⟩ (by simp) rfl (by simp))
          | (refine go_next (i + 1) (by omega) (by omega) ?_
             rw [hs1 (by simp_all [amP])]
             refine ref_st (fun _ => nid 6 52) rfl ⟨rfl, rfl, ⟨?_, rfl⟩, next_i (by omega), trivial⟩ ⟨?_, trivial⟩ (by simp) rfl (by simp)
             · show AV.own _ _ _ = AV.own _ _ _
               rw [List.map_append, List.length_append]
               rfl
             · show some _ = some _
               rw [List.map_append]
               rfl)
          | (refine go_next (i + 1) (by omega) (by omega) ?_
             rw [hs1 (by simp_all [amP])]
             refine ref_st (fun _ => nid 7 52) rfl ⟨rfl, rfl, ⟨?_, rfl⟩, next_i (by omega), trivial⟩ ⟨?_, trivial⟩ (by simp) rfl (by simp)
             · show AV.own _ _ _ = AV.own _ _ _
               rw [List.map_append, List.length_append]
               rfl
             · show some _ = some _
               rw [List.map_append]
               rfl)
          | (refine go_next (i + 1) (by omega) (by omega) ?_
             rw [hs1 (by simp_all [amP])]
             refine ref_st (fun _ => nid 8 52) rfl ⟨rfl, rfl, ⟨?_, rfl⟩, next_i (by omega), trivial⟩ ⟨?_, trivial⟩ (by simp) rfl (by simp)
             · show AV.own _ _ _ = AV.own _ _ _
               rw [List.map_append, List.length_append]
               rfl
             · show some _ = some _
               rw [List.map_append]
               rfl)
          | (refine go_next (i + 1) (by omega) (by omega) ?_
             rw [hs1 (by simp_all [amP])]
             refine ref_st (fun _ => nid 9 52) rfl ⟨rfl, rfl, ⟨?_, rfl⟩, next_i (by omega), trivial⟩ ⟨?_, trivial⟩ (by simp) rfl (by simp)
             · show AV.own _ _ _ = AV.own _ _ _
               rw [List.map_append, List.length_append]
               rfl
             · show some _ = some _
               rw [List.map_append]
               rfl)
          | (refine go_next (i + 1) (by omega) (by omega) ?_
             rw [hs1 (by simp_all [amP])]
             refine ref_st (fun _ => nid 10 52) rfl ⟨rfl, rfl, ⟨?_, rfl⟩, next_i (by omega), trivial⟩ ⟨?_, trivial⟩ (by simp) rfl (by simp)
             · show AV.own _ _ _ = AV.own _ _ _
               rw [List.map_append, List.length_append]
               rfl
             · show some _ = some _
               rw [List.map_append]
               rfl)
          | (refine go_next (i + 1) (by omega) (by omega) ?_
             rw [hs1 (by simp_all [amP])]
             refine ref_st (fun _ => nid 11 52) rfl ⟨rfl, rfl, ⟨?_, rfl⟩, next_i (by omega), trivial⟩ ⟨?_, trivial⟩ (by simp) rfl (by simp)
             · show AV.own _ _ _ = AV.own _ _ _
               rw [List.map_append, List.length_append]
               rfl
             · show some _ = some _
               rw [List.map_append]
               rfl)
          | (refine go_next (i + 1) (by omega) (by omega) ?_
             rw [hs1 (by simp_all [amP])]
             refine ref_st (fun _ => nid 12 52) rfl ⟨rfl, rfl, ⟨?_, rfl⟩, next_i (by omega), trivial⟩ ⟨?_, trivial⟩ (by simp) rfl (by simp)
             · show AV.own _ _ _ = AV.own _ _ _
               rw [List.map_append, List.length_append]
               rfl
             · show some _ = some _
               rw [List.map_append]
               rfl)
          | trace_state

theorem c35 (xs : List Message) (now : Int) (hl : xs.length ≤ 1048576) : CallOk Try.prog 35 [.imm (.list (xs.map Message.enc)), .imm (.int .i64 now)]
    { res := [.arr 3 1 ((amR now xs).map intRow), .imm (.bool (amOk now xs))] } := by
  refine callOk_of tyOk Try.func35 rfl rfl (le_of_ble rfl) (le_of_ble rfl) (mutOk_imm rfl _) ?_
  have hc0 := c99 xs hl
  have hc1 := c21 now
  cases hok : amOk now xs with
  | false =>
    have hm : amR now xs = [] := by unfold amR; rw [hok]; rfl
    rw [hm]
    cases hn : noticeOk xs with
    | false =>
      rw [hn] at hc0
      repeat' first
        | refine go_seq ?_
        | refine go_region ?_
        | (refine go_op rfl ?_; conv => whnf)
        | (refine go_nil ?_; conv => whnf)
        | (refine go_hit rfl rfl rfl ?_; conv => whnf)
        | (refine go_miss rfl rfl rfl ?_)
        | (refine go_undef rfl rfl rfl ?_)
        | (refine go_splitT rfl rfl rfl (fun h => ?_) (fun h => ?_) <;> conv => whnf)
        | (refine go_splitF rfl rfl rfl (fun h => ?_) (fun h => ?_) <;> conv => whnf)
        | (refine go_storeBox rfl rfl rfl rfl rfl rfl ?_; conv => whnf)
        | (refine go_dop rfl ?_; conv => whnf)
        | (refine go_dhit rfl rfl ?_; conv => whnf)
        | refine go_dmiss rfl rfl ?_
        | refine go_dundef rfl rfl ?_
        | (refine go_dend (by kernel_rfl) ?_; conv => whnf)
        | refine go_draw drawsOk ?_
        | (refine go_pickT rfl ?_; conv => whnf)
        | (refine go_pickF rfl ?_; conv => whnf)
        | (refine go_pick rfl (fun h => ?_) (fun h => ?_) <;> conv => whnf)
        | (refine go_call [] (hc0) rfl rfl rfl rfl ?_; conv => whnf)
        | (refine go_loadB ?_; conv => whnf)
        | (refine ⟨by kernel_rfl, ?_⟩; conv => whnf)
        | (refine go_ret ?_; conv => whnf)
        | refine go_block ?_
        | (refine go_skip ?_; conv => whnf)
        | (refine go_exit ?_; conv => whnf)
        | refine go_true rfl ?_
        | refine go_false rfl ?_
        | refine go_cond rfl (fun h => ?_) (fun h => ?_)
        | refine ⟨rfl, ?_⟩
        | (refine ⟨trivial, ?_⟩; conv => whnf)
        | (refine ⟨le_of_ble rfl, ?_⟩; conv => whnf)
        | fail
      all_goals exact ret_arr2 rfl rfl rfl rfl rfl rfl (int_gr _) rfl rfl rfl
    | true =>
      have h1 : timeOk now = false := by simpa [amOk, hn] using hok
      rw [hn] at hc0
      rw [h1] at hc1
      repeat' first
        | refine go_seq ?_
        | refine go_region ?_
        | (refine go_op rfl ?_; conv => whnf)
        | (refine go_nil ?_; conv => whnf)
        | (refine go_hit rfl rfl rfl ?_; conv => whnf)
        | (refine go_miss rfl rfl rfl ?_)
        | (refine go_undef rfl rfl rfl ?_)
        | (refine go_splitT rfl rfl rfl (fun h => ?_) (fun h => ?_) <;> conv => whnf)
        | (refine go_splitF rfl rfl rfl (fun h => ?_) (fun h => ?_) <;> conv => whnf)
        | (refine go_storeBox rfl rfl rfl rfl rfl rfl ?_; conv => whnf)
        | (refine go_dop rfl ?_; conv => whnf)
        | (refine go_dhit rfl rfl ?_; conv => whnf)
        | refine go_dmiss rfl rfl ?_
        | refine go_dundef rfl rfl ?_
        | (refine go_dend (by kernel_rfl) ?_; conv => whnf)
        | refine go_draw drawsOk ?_
        | (refine go_pickT rfl ?_; conv => whnf)
        | (refine go_pickF rfl ?_; conv => whnf)
        | (refine go_pick rfl (fun h => ?_) (fun h => ?_) <;> conv => whnf)
        | (refine go_call [] (hc0) rfl rfl rfl rfl ?_; conv => whnf)
        | (refine go_call [] (hc1) rfl rfl rfl rfl ?_; conv => whnf)
        | (refine go_loadB ?_; conv => whnf)
        | (refine ⟨by kernel_rfl, ?_⟩; conv => whnf)
        | (refine go_ret ?_; conv => whnf)
        | refine go_block ?_
        | (refine go_skip ?_; conv => whnf)
        | (refine go_exit ?_; conv => whnf)
        | refine go_true rfl ?_
        | refine go_false rfl ?_
        | refine go_cond rfl (fun h => ?_) (fun h => ?_)
        | refine ⟨rfl, ?_⟩
        | (refine ⟨trivial, ?_⟩; conv => whnf)
        | (refine ⟨le_of_ble rfl, ?_⟩; conv => whnf)
        | fail
      all_goals exact ret_arr2 rfl rfl rfl rfl rfl rfl (int_gr _) rfl rfl rfl
  | true =>
    have hm : amR now xs = selAt (amP now) xs xs.length := by unfold amR; rw [hok]; rfl
    rw [hm]
    have hn10 : xs.length ≤ 10 := by
      have := hok
      simp only [amOk, noticeOk, Bool.and_eq_true, decide_eq_true_eq] at this
      omega
    have hok' := hok
    simp only [amOk, Bool.and_eq_true] at hok'
    rw [hok'.1] at hc0
    rw [hok'.2] at hc1
    repeat' first
      | refine go_seq ?_
      | refine go_region ?_
      | (refine go_op rfl ?_; conv => whnf)
      | (refine go_nil ?_; conv => whnf)
      | (refine go_hit rfl rfl rfl ?_; conv => whnf)
      | (refine go_miss rfl rfl rfl ?_)
      | (refine go_undef rfl rfl rfl ?_)
      | (refine go_splitT rfl rfl rfl (fun h => ?_) (fun h => ?_) <;> conv => whnf)
      | (refine go_splitF rfl rfl rfl (fun h => ?_) (fun h => ?_) <;> conv => whnf)
      | (refine go_storeBox rfl rfl rfl rfl rfl rfl ?_; conv => whnf)
      | (refine go_dop rfl ?_; conv => whnf)
      | (refine go_dhit rfl rfl ?_; conv => whnf)
      | refine go_dmiss rfl rfl ?_
      | refine go_dundef rfl rfl ?_
      | (refine go_dend (by kernel_rfl) ?_; conv => whnf)
      | refine go_draw drawsOk ?_
      | (refine go_pickT rfl ?_; conv => whnf)
      | (refine go_pickF rfl ?_; conv => whnf)
      | (refine go_pick rfl (fun h => ?_) (fun h => ?_) <;> conv => whnf)
      | (refine go_call [] (hc0) rfl rfl rfl rfl ?_; conv => whnf)
      | (refine go_call [] (hc1) rfl rfl rfl rfl ?_; conv => whnf)
      | (refine go_loadB ?_; conv => whnf)
      | (refine ⟨by kernel_rfl, ?_⟩; conv => whnf)
      | (refine go_ret ?_; conv => whnf)
      | refine go_block ?_
      | (refine go_skip ?_; conv => whnf)
      | (refine go_exit ?_; conv => whnf)
      | refine go_true rfl ?_
      | refine go_false rfl ?_
      | refine go_cond rfl (fun h => ?_) (fun h => ?_)
      | refine ⟨rfl, ?_⟩
      | (refine ⟨trivial, ?_⟩; conv => whnf)
      | (refine ⟨le_of_ble rfl, ?_⟩; conv => whnf)
      | fail
    refine go_loop (α := Nat) (fun i => i ≤ xs.length) (fun i => xs.length - i)
      (fun i => st Try.f35.ntmps [(1, .imm (.int .i64 now)), (18, .imm (.list (xs.map Message.enc))), (19, .imm (.int .i64 (xs.map Message.enc).length)), (6, .own 1000 0 ((selAt (amP now) xs i).map intRow).length), (20, .imm (.int .i64 (i : Nat)))] [(1000, .arr 3 1 ((selAt (amP now) xs i).map intRow))] []) 0 (Nat.zero_le _) ?_ ?_
    · exact ref_st (fun _ => nid 3 6) rfl ⟨rfl, rfl, rfl, ⟨rfl, rfl⟩, rfl, trivial⟩ ⟨rfl, trivial⟩ (by simp) rfl (by simp)
    · intro i hi
      have hsl := sel_len (amP now) xs i
      have hb : ((selAt (amP now) xs i).map intRow).length + 1 ≤ 1073741824 := by rw [List.length_map]; omega
      cases hx : xs[i]? with
      | none =>
        have hge := le_of_at hx
        have hie : i = xs.length := by omega
        rw [hie]
        repeat' first
          | refine go_seq ?_
          | refine go_region ?_
          | (refine go_op rfl ?_; conv => whnf)
          | (refine go_nil ?_; conv => whnf)
          | (refine go_hit rfl rfl rfl ?_; conv => whnf)
          | (refine go_miss rfl rfl rfl ?_)
          | (refine go_undef rfl rfl rfl ?_)
          | (refine go_splitT rfl rfl rfl (fun h => ?_) (fun h => ?_) <;> conv => whnf)
          | (refine go_splitF rfl rfl rfl (fun h => ?_) (fun h => ?_) <;> conv => whnf)
          | (refine go_storeBox rfl rfl rfl rfl rfl rfl ?_; conv => whnf)
          | (refine go_dop rfl ?_; conv => whnf)
          | (refine go_dhit rfl rfl ?_; conv => whnf)
          | refine go_dmiss rfl rfl ?_
          | refine go_dundef rfl rfl ?_
          | (refine go_dend (by kernel_rfl) ?_; conv => whnf)
          | refine go_draw drawsOk ?_
          | (refine go_pickT rfl ?_; conv => whnf)
          | (refine go_pickF rfl ?_; conv => whnf)
          | (refine go_pick rfl (fun h => ?_) (fun h => ?_) <;> conv => whnf)
          | (refine go_loadB ?_; conv => whnf)
          | (refine ⟨by kernel_rfl, ?_⟩; conv => whnf)
          | (refine go_ret ?_; conv => whnf)
          | refine go_block ?_
          | (refine go_skip ?_; conv => whnf)
          | (refine go_exit ?_; conv => whnf)
          | refine go_true rfl ?_
          | refine go_false rfl ?_
          | refine go_cond rfl (fun h => ?_) (fun h => ?_)
          | refine ⟨rfl, ?_⟩
          | (refine ⟨trivial, ?_⟩; conv => whnf)
          | (refine ⟨le_of_ble rfl, ?_⟩; conv => whnf)
          | fail
        · exfalso; simp at h
        · exact ret_arr2 rfl rfl rfl rfl rfl (by rw [List.drop_zero, List.take_length]) (int_gr _) rfl rfl rfl
      | some v =>
        have hlt := lt_of_at hx
        have hr := row_at Message.enc hx
        have hs1 := fun h => sel_hit (p := amP now) hx h
        have hs2 := fun h => sel_miss (p := amP now) hx h
        repeat' first
          | refine go_seq ?_
          | refine go_region ?_
          | (refine go_op rfl ?_; conv => whnf)
          | (refine go_nil ?_; conv => whnf)
          | (refine go_hit rfl rfl rfl ?_; conv => whnf)
          | (refine go_miss rfl rfl rfl ?_)
          | (refine go_undef rfl rfl rfl ?_)
          | (refine go_splitT rfl rfl rfl (fun h => ?_) (fun h => ?_) <;> conv => whnf)
          | (refine go_splitF rfl rfl rfl (fun h => ?_) (fun h => ?_) <;> conv => whnf)
          | (refine go_storeBox rfl rfl rfl rfl rfl rfl ?_; conv => whnf)
          | (refine go_dop rfl ?_; conv => whnf)
          | (refine go_dhit rfl rfl ?_; conv => whnf)
          | refine go_dmiss rfl rfl ?_
          | refine go_dundef rfl rfl ?_
          | (refine go_dend (by kernel_rfl) ?_; conv => whnf)
          | refine go_draw drawsOk ?_
          | (refine go_pickT rfl ?_; conv => whnf)
          | (refine go_pickF rfl ?_; conv => whnf)
          | (refine go_pick rfl (fun h => ?_) (fun h => ?_) <;> conv => whnf)
          | (refine go_call [] (c87 now v.fro v.to) rfl rfl rfl rfl ?_; conv => whnf)
          | (refine go_idx rfl rfl rfl rfl (by omega) hr rfl ?_; conv => whnf)
          | (refine go_append (rows2 := [((i : Nat) : Int)].map intRow) rfl rfl rfl rfl rfl rfl rfl rfl rfl rfl rfl rfl (int_one [((i : Nat) : Int)]) rfl rfl rfl hb ?_; conv => whnf)
          | (refine go_loadB ?_; conv => whnf)
          | (refine ⟨by kernel_rfl, ?_⟩; conv => whnf)
          | (refine go_ret ?_; conv => whnf)
          | refine go_block ?_
          | (refine go_skip ?_; conv => whnf)
          | (refine go_exit ?_; conv => whnf)
          | refine go_true rfl ?_
          | refine go_false rfl ?_
          | refine go_cond rfl (fun h => ?_) (fun h => ?_)
          | refine ⟨rfl, ?_⟩
          | (refine ⟨trivial, ?_⟩; conv => whnf)
          | (refine ⟨le_of_ble rfl, ?_⟩; conv => whnf)
          | fail
        all_goals first
          | (exfalso; simp at h; omega)
          | (refine go_next (i + 1) (by omega) (by omega) ?_
             rw [hs2 (by simp_all [amP])]
             exact ref_st id rfl ⟨rfl, rfl, rfl, ⟨rfl, rfl⟩, next_i (by omega), trivial⟩ ⟨rfl, trivial⟩ (by simp) rfl (by simp))
          | (refine go_next (i + 1) (by omega) (by omega) ?_
             rw [hs1 (by simp_all [amP])]
             refine ref_st (fun _ => nid 6 47) rfl ⟨rfl, rfl, rfl, ⟨?_, rfl⟩, next_i (by omega), trivial⟩ ⟨?_, trivial⟩ (by simp) rfl (by simp)
             · show AV.own _ _ _ = AV.own _ _ _
               rw [List.map_append, List.length_append]
               rfl
             · show some _ = some _
               rw [List.map_append]
               rfl)
          | (refine go_next (i + 1) (by omega) (by omega) ?_
             rw [hs1 (by simp_all [amP])]
             refine ref_st (fun _ => nid 7 47) rfl ⟨rfl, rfl, rfl, ⟨?_, rfl⟩, next_i (by omega), trivial⟩ ⟨?_, trivial⟩ (by simp) rfl (by simp)
             · show AV.own _ _ _ = AV.own _ _ _
               rw [List.map_append, List.length_append]
               rfl
             · show some _ = some _
               rw [List.map_append]
               rfl)
          | (refine go_next (i + 1) (by omega) (by omega) ?_
             rw [hs1 (by simp_all [amP])]
             refine ref_st (fun _ => nid 8 47) rfl ⟨rfl, rfl, rfl, ⟨?_, rfl⟩, next_i (by omega), trivial⟩ ⟨?_, trivial⟩ (by simp) rfl (by simp)
             · show AV.own _ _ _ = AV.own _ _ _
               rw [List.map_append, List.length_append]
               rfl
             · show some _ = some _
               rw [List.map_append]
               rfl)
          | (refine go_next (i + 1) (by omega) (by omega) ?_
             rw [hs1 (by simp_all [amP])]
             refine ref_st (fun _ => nid 9 47) rfl ⟨rfl, rfl, rfl, ⟨?_, rfl⟩, next_i (by omega), trivial⟩ ⟨?_, trivial⟩ (by simp) rfl (by simp)
             · show AV.own _ _ _ = AV.own _ _ _
               rw [List.map_append, List.length_append]
               rfl
             · show some _ = some _
               rw [List.map_append]
               rfl)
          | (refine go_next (i + 1) (by omega) (by omega) ?_
             rw [hs1 (by simp_all [amP])]
             refine ref_st (fun _ => nid 10 47) rfl ⟨rfl, rfl, rfl, ⟨?_, rfl⟩, next_i (by omega), trivial⟩ ⟨?_, trivial⟩ (by simp) rfl (by simp)
             · show AV.own _ _ _ = AV.own _ _ _
               rw [List.map_append, List.length_append]
               rfl
             · show some _ = some _
               rw [List.map_append]
               rfl)
          | (refine go_next (i + 1) (by omega) (by omega) ?_
             rw [hs1 (by simp_all [amP])]
             refine ref_st (fun _ => nid 11 47) rfl ⟨rfl, rfl, rfl, ⟨?_, rfl⟩, next_i (by omega), trivial⟩ ⟨?_, trivial⟩ (by simp) rfl (by simp)
             · show AV.own _ _ _ = AV.own _ _ _
               rw [List.map_append, List.length_append]
               rfl
             · show some _ = some _
               rw [List.map_append]
               rfl)
          | (refine go_next (i + 1) (by omega) (by omega) ?_
             rw [hs1 (by simp_all [amP])]
             refine ref_st (fun _ => nid 12 47) rfl ⟨rfl, rfl, rfl, ⟨?_, rfl⟩, next_i (by omega), trivial⟩ ⟨?_, trivial⟩ (by simp) rfl (by simp)
             · show AV.own _ _ _ = AV.own _ _ _
               rw [List.map_append, List.length_append]
               rfl
             · show some _ = some _
               rw [List.map_append]
               rfl)
          | trace_state

end Go.Proofs.Ytlkmbamenkjcmaa

