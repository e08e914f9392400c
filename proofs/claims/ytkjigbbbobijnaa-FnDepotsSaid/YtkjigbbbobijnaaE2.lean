/- Depots: the reference's test, places of vehicles, free places. -/
import Derived.Test.YtkjigbbbobijnaaE1
namespace Go.Proofs.Ytkjigbbbobijnaa
open Go Go.Am
set_option maxRecDepth 100000
set_option maxHeartbeats 8000000
attribute [local irreducible] amOps amC opCall opIndexAddr opPick retQ opMake opStore amDraw opAppend opLoad opNilCmp opIndex opSlice

theorem c38 (xs : List Int) (x : Int) (hl : xs.length ≤ 1048576) : CallOk Try.prog 38 [.imm (.list (xs.map intRow)), .imm (.int .i64 x)] { res := [.imm (.bool (xs.any (pInt x)))] } := by
  refine callOk_of tyOk Try.func38 rfl rfl (le_of_ble rfl) (le_of_ble rfl) (mutOk_imm rfl _) ?_
  repeat' first | refine go_seq ?_ | refine go_region ?_ | ((first | refine go_op rfl ?_ | refine go_nil ?_) <;> conv => whnf) | ((first | refine go_loadB ?_ | refine ⟨by kernel_rfl, ?_⟩ | refine go_ret ?_) <;> conv => whnf) | refine go_block ?_ | ((first | refine go_skip ?_ | refine go_exit ?_) <;> conv => whnf) | refine go_true rfl ?_ | refine go_false rfl ?_ | refine go_cond rfl (fun h => ?_) (fun h => ?_) | refine ⟨rfl, ?_⟩ | ((first | refine ⟨trivial, ?_⟩ | refine ⟨le_of_ble rfl, ?_⟩) <;> conv => whnf) | fail
  refine go_loop (α := Nat) (fun i => i ≤ xs.length ∧ (xs.take i).any (pInt x) = false) (fun i => xs.length - i) (fun i => st Try.f38.ntmps [(0, .imm (.list (xs.map intRow))), (1, .imm (.int .i64 x)), (5, .imm (.int .i64 (i : Nat)))] [] []) 0
    ⟨Nat.zero_le _, rfl⟩ (ref_st0 rfl ⟨rfl, rfl, rfl, trivial⟩ rfl) ?_
  rintro i ⟨hi, ha⟩
  cases hx : xs[i]? with
  | none =>
    have hge := le_of_at hx
    rw [List.take_of_length_le hge] at ha
    rw [ha]
    repeat' first | refine go_seq ?_ | refine go_region ?_ | ((first | refine go_op rfl ?_ | refine go_nil ?_) <;> conv => whnf) | ((first | refine go_loadB ?_ | refine ⟨by kernel_rfl, ?_⟩ | refine go_ret ?_) <;> conv => whnf) | refine go_block ?_ | ((first | refine go_skip ?_ | refine go_exit ?_) <;> conv => whnf) | refine go_true rfl ?_ | refine go_false rfl ?_ | refine go_cond rfl (fun h => ?_) (fun h => ?_) | refine ⟨rfl, ?_⟩ | ((first | refine ⟨trivial, ?_⟩ | refine ⟨le_of_ble rfl, ?_⟩) <;> conv => whnf) | fail
    all_goals first
      | exact ret_imm rfl rfl rfl rfl rfl rfl
      | (exfalso; simp at h; omega)
      | trace_state
  | some v =>
    have hlt := lt_of_at hx
    have hr := row_at intRow hx
    repeat' first | refine go_seq ?_ | refine go_region ?_ | ((first | refine go_op rfl ?_ | refine go_nil ?_ | refine go_idx rfl rfl rfl rfl (by omega) hr rfl ?_) <;> conv => whnf) | ((first | refine go_loadB ?_ | refine ⟨by kernel_rfl, ?_⟩ | refine go_ret ?_) <;> conv => whnf) | refine go_block ?_ | ((first | refine go_skip ?_ | refine go_exit ?_) <;> conv => whnf) | refine go_true rfl ?_ | refine go_false rfl ?_ | refine go_cond rfl (fun h => ?_) (fun h => ?_) | refine ⟨rfl, ?_⟩ | ((first | refine ⟨trivial, ?_⟩ | refine ⟨le_of_ble rfl, ?_⟩) <;> conv => whnf) | fail
    all_goals first
      | (refine ret_imm rfl rfl rfl rfl ?_ rfl
         have hvx : v = x := of_decide_eq_true h
         rw [any_pInt.2 (by rw [← hvx]; exact List.mem_of_getElem? hx)]
         done)
      | exact go_next (i + 1) ⟨by omega, any_next (p := (pInt x)) hx ha (by have := of_decide_eq_false h; simp [pInt]; omega)⟩ (by omega) (ref_st0 rfl ⟨rfl, rfl, next_i (by omega), trivial⟩ rfl)
      | (exfalso; simp at h; omega)
      | trace_state

theorem c24 (d : Depot) (hf : d.fit) : CallOk Try.prog 24 [.imm (.agg d.enc)] { res := [.imm (.bool (depOk d))] } := by
  refine callOk_of tyOk Try.func24 rfl rfl (le_of_ble rfl) (le_of_ble rfl) (mutOk_imm rfl _) ?_
  obtain ⟨f1, f2, f3⟩ := hf
  have el : (d.sizes.map intRow).length = d.sizes.length := List.length_map _
  have et : (d.tracks.map intsRow).length = d.tracks.length := List.length_map _
  have hW : CallOk Try.prog 37 [.imm (.int .i64 ((d.sizes.map intRow).length : Nat)), .imm (.int .i64 1), .imm (.int .i64 4)] { res := [.imm (.bool (inR d.sizes.length 1 4))] } := by rw [el]; exact c37 _ _ _
  cases h1 : inR d.sizes.length 1 4 with
  | false =>
    rw [h1] at hW
    rw [depOk_no1 h1]
    repeat' first | refine go_seq ?_ | refine go_region ?_ | refine go_miss rfl rfl rfl ?_ | refine go_undef rfl rfl rfl ?_ | refine go_draw drawsOk ?_ | ((first | refine go_op rfl ?_ | refine go_nil ?_ | refine go_hit rfl rfl rfl ?_ | refine go_splitT rfl rfl rfl (fun h => ?_) (fun h => ?_) | refine go_splitF rfl rfl rfl (fun h => ?_) (fun h => ?_) | refine go_dop rfl ?_ | refine go_dhit rfl rfl ?_ | refine go_dmiss rfl rfl ?_ | refine go_dundef rfl rfl ?_ | refine go_dend (by kernel_rfl) ?_ | refine go_pickT rfl ?_ | refine go_pickF rfl ?_ | refine go_pick rfl (fun h => ?_) (fun h => ?_) | refine go_call [] (hW) rfl rfl rfl rfl ?_) <;> conv => whnf) | ((first | refine go_dsplit2 rfl (fun h => ?_) (fun h => ?_) | refine go_loadB ?_ | refine ⟨by kernel_rfl, ?_⟩ | refine go_ret ?_) <;> conv => whnf) | refine go_block ?_ | ((first | refine go_skip ?_ | refine go_exit ?_) <;> conv => whnf) | refine go_true rfl ?_ | refine go_false rfl ?_ | refine go_cond rfl (fun h => ?_) (fun h => ?_) | refine ⟨rfl, ?_⟩ | ((first | refine ⟨trivial, ?_⟩ | refine ⟨le_of_ble rfl, ?_⟩) <;> conv => whnf) | fail
    all_goals first
      | exact ret_imm rfl rfl rfl rfl rfl rfl
      | (exfalso; simp at h; done)
      | trace_state
  | true =>
  rw [h1] at hW
  by_cases h2 : d.tracks.length = d.sizes.length
  case neg =>
    rw [depOk_no2 h2]
    repeat' first | refine go_seq ?_ | refine go_region ?_ | refine go_miss rfl rfl rfl ?_ | refine go_undef rfl rfl rfl ?_ | refine go_draw drawsOk ?_ | ((first | refine go_op rfl ?_ | refine go_nil ?_ | refine go_hit rfl rfl rfl ?_ | refine go_splitT rfl rfl rfl (fun h => ?_) (fun h => ?_) | refine go_splitF rfl rfl rfl (fun h => ?_) (fun h => ?_) | refine go_dop rfl ?_ | refine go_dhit rfl rfl ?_ | refine go_dmiss rfl rfl ?_ | refine go_dundef rfl rfl ?_ | refine go_dend (by kernel_rfl) ?_ | refine go_pickT rfl ?_ | refine go_pickF rfl ?_ | refine go_pick rfl (fun h => ?_) (fun h => ?_) | refine go_call [] (hW) rfl rfl rfl rfl ?_) <;> conv => whnf) | ((first | refine go_dsplit2 rfl (fun h => ?_) (fun h => ?_) | refine go_loadB ?_ | refine ⟨by kernel_rfl, ?_⟩ | refine go_ret ?_) <;> conv => whnf) | refine go_block ?_ | ((first | refine go_skip ?_ | refine go_exit ?_) <;> conv => whnf) | refine go_true rfl ?_ | refine go_false rfl ?_ | refine go_cond rfl (fun h => ?_) (fun h => ?_) | refine ⟨rfl, ?_⟩ | ((first | refine ⟨trivial, ?_⟩ | refine ⟨le_of_ble rfl, ?_⟩) <;> conv => whnf) | fail
    all_goals first
      | exact ret_imm rfl rfl rfl rfl rfl rfl
      | (exfalso; simp at h; done)
      | (exfalso; simp at h; omega)
      | trace_state
  rw [depOk_eq h1 h2]
  have h14 : 1 ≤ d.sizes.length ∧ d.sizes.length ≤ 4 := by simp only [inR, Bool.and_eq_true, decide_eq_true_eq] at h1; omega
  repeat' first | refine go_seq ?_ | refine go_region ?_ | refine go_miss rfl rfl rfl ?_ | refine go_undef rfl rfl rfl ?_ | refine go_draw drawsOk ?_ | ((first | refine go_op rfl ?_ | refine go_nil ?_ | refine go_hit rfl rfl rfl ?_ | refine go_splitT rfl rfl rfl (fun h => ?_) (fun h => ?_) | refine go_splitF rfl rfl rfl (fun h => ?_) (fun h => ?_) | refine go_dop rfl ?_ | refine go_dhit rfl rfl ?_ | refine go_dmiss rfl rfl ?_ | refine go_dundef rfl rfl ?_ | refine go_dend (by kernel_rfl) ?_ | refine go_pickT rfl ?_ | refine go_pickF rfl ?_ | refine go_pick rfl (fun h => ?_) (fun h => ?_) | refine go_call [] (hW) rfl rfl rfl rfl ?_) <;> conv => whnf) | ((first | refine go_dsplit2 rfl (fun h => ?_) (fun h => ?_) | refine go_loadB ?_ | refine ⟨by kernel_rfl, ?_⟩ | refine go_ret ?_) <;> conv => whnf) | refine go_block ?_ | ((first | refine go_skip ?_ | refine go_exit ?_) <;> conv => whnf) | refine go_true rfl ?_ | refine go_false rfl ?_ | refine go_cond rfl (fun h => ?_) (fun h => ?_) | refine ⟨rfl, ?_⟩ | ((first | refine ⟨trivial, ?_⟩ | refine ⟨le_of_ble rfl, ?_⟩) <;> conv => whnf) | fail
  all_goals try first
    | (exfalso; simp at h; done)
    | (exfalso; simp at h; omega)
  refine go_loop (α := Nat × List Int) (fun x => x.1 ≤ d.sizes.length ∧ x.2.length ≤ 1000 * x.1 ∧ scanD x.2 (d.sizes.drop x.1) (d.tracks.drop x.1) = scanD [] d.sizes d.tracks) (fun x => d.sizes.length - x.1)
    (fun x => st Try.f24.ntmps [(1, .box 1000 0), (3, .own 1001 0 (x.2.map intRow).length), (4, .imm (.int .i64 (x.1 : Nat)))]
      [(1000, .box 27 (d.enc.map .imm)), (1001, .arr 3 1 (x.2.map intRow))] []) (0, []) ⟨Nat.zero_le _, Nat.zero_le _, rfl⟩ ?_ ?_
  · exact ref_st (fun i => if i = 1000 then nid 1 1 else nid 3 21) rfl ⟨⟨rfl, rfl⟩, ⟨rfl, rfl⟩, rfl, trivial⟩ ⟨⟨rfl, wavs_imm _⟩, rfl, trivial⟩ (by simp [nid]) rfl (by simp)
  rintro ⟨i, seen⟩ ⟨hi, hsl, hsc⟩
  simp only at hi hsl hsc
  cases hx : d.sizes[i]? with
  | none =>
    have hge := le_of_at hx
    rw [List.drop_eq_nil_of_le hge] at hsc
    rw [← hsc]
    repeat' first | refine go_seq ?_ | refine go_region ?_ | refine go_miss rfl rfl rfl ?_ | refine go_undef rfl rfl rfl ?_ | refine go_draw drawsOk ?_ | ((first | refine go_op rfl ?_ | refine go_nil ?_ | refine go_hit rfl rfl rfl ?_ | refine go_splitT rfl rfl rfl (fun h => ?_) (fun h => ?_) | refine go_splitF rfl rfl rfl (fun h => ?_) (fun h => ?_) | refine go_dop rfl ?_ | refine go_dhit rfl rfl ?_ | refine go_dmiss rfl rfl ?_ | refine go_dundef rfl rfl ?_ | refine go_dend (by kernel_rfl) ?_ | refine go_pickT rfl ?_ | refine go_pickF rfl ?_ | refine go_pick rfl (fun h => ?_) (fun h => ?_)) <;> conv => whnf) | ((first | refine go_dsplit2 rfl (fun h => ?_) (fun h => ?_) | refine go_loadB ?_ | refine ⟨by kernel_rfl, ?_⟩ | refine go_ret ?_) <;> conv => whnf) | refine go_block ?_ | ((first | refine go_skip ?_ | refine go_exit ?_) <;> conv => whnf) | refine go_true rfl ?_ | refine go_false rfl ?_ | refine go_cond rfl (fun h => ?_) (fun h => ?_) | refine ⟨rfl, ?_⟩ | ((first | refine ⟨trivial, ?_⟩ | refine ⟨le_of_ble rfl, ?_⟩) <;> conv => whnf) | fail
    all_goals first
      | exact ret_imm rfl rfl rfl rfl rfl rfl
      | (exfalso; simp at h; omega)
      | trace_state
  | some s =>
    have hlt := lt_of_at hx
    have ht := trk_at (ts := d.tracks) (i := i) (by omega)
    have htf := f3 _ (List.mem_of_getElem? ht)
    generalize trk d.tracks i = tr at *
    have hr1 := row_at intRow hx
    have hr2 := ints_row ht
    rw [scanD_next hx ht] at hsc
    have hW2 := c37 s 0 8
    have etr : (tr.map intRow).length = tr.length := List.length_map _
    cases b1 : inR s 0 8 with
    | false =>
      rw [b1] at hW2 hsc
      rw [← hsc]
      repeat' first | refine go_seq ?_ | refine go_region ?_ | refine go_miss rfl rfl rfl ?_ | refine go_undef rfl rfl rfl ?_ | refine go_draw drawsOk ?_ | ((first | refine go_op rfl ?_ | refine go_nil ?_ | refine go_hit rfl rfl rfl ?_ | refine go_splitT rfl rfl rfl (fun h => ?_) (fun h => ?_) | refine go_splitF rfl rfl rfl (fun h => ?_) (fun h => ?_) | refine go_dop rfl ?_ | refine go_dhit rfl rfl ?_ | refine go_dmiss rfl rfl ?_ | refine go_dundef rfl rfl ?_ | refine go_dend (by kernel_rfl) ?_ | refine go_pickT rfl ?_ | refine go_pickF rfl ?_ | refine go_pick rfl (fun h => ?_) (fun h => ?_) | refine go_call [] (hW2) rfl rfl rfl rfl ?_ | refine go_idx rfl rfl rfl rfl (by omega) hr1 rfl ?_ | refine go_idx rfl rfl rfl rfl (by omega) hr2 rfl ?_) <;> conv => whnf) | ((first | refine go_dsplit2 rfl (fun h => ?_) (fun h => ?_) | refine go_loadB ?_ | refine ⟨by kernel_rfl, ?_⟩ | refine go_ret ?_) <;> conv => whnf) | refine go_block ?_ | ((first | refine go_skip ?_ | refine go_exit ?_) <;> conv => whnf) | refine go_true rfl ?_ | refine go_false rfl ?_ | refine go_cond rfl (fun h => ?_) (fun h => ?_) | refine ⟨rfl, ?_⟩ | ((first | refine ⟨trivial, ?_⟩ | refine ⟨le_of_ble rfl, ?_⟩) <;> conv => whnf) | fail
      all_goals first
        | exact ret_imm rfl rfl rfl rfl rfl rfl
        | (exfalso; simp at h; omega)
        | (exfalso; simp at h; done)
        | trace_state
    | true =>
    rw [b1] at hW2 hsc
    by_cases b2 : (tr.length : Int) ≤ s
    case neg =>
      have e : (true && decide ((tr.length : Int) ≤ s)) = false := by simp; omega
      rw [e, if_neg (by simp)] at hsc
      rw [← hsc]
      repeat' first | refine go_seq ?_ | refine go_region ?_ | refine go_miss rfl rfl rfl ?_ | refine go_undef rfl rfl rfl ?_ | refine go_draw drawsOk ?_ | ((first | refine go_op rfl ?_ | refine go_nil ?_ | refine go_hit rfl rfl rfl ?_ | refine go_splitT rfl rfl rfl (fun h => ?_) (fun h => ?_) | refine go_splitF rfl rfl rfl (fun h => ?_) (fun h => ?_) | refine go_dop rfl ?_ | refine go_dhit rfl rfl ?_ | refine go_dmiss rfl rfl ?_ | refine go_dundef rfl rfl ?_ | refine go_dend (by kernel_rfl) ?_ | refine go_pickT rfl ?_ | refine go_pickF rfl ?_ | refine go_pick rfl (fun h => ?_) (fun h => ?_) | refine go_call [] (hW2) rfl rfl rfl rfl ?_ | refine go_idx rfl rfl rfl rfl (by omega) hr1 rfl ?_ | refine go_idx rfl rfl rfl rfl (by omega) hr2 rfl ?_) <;> conv => whnf) | ((first | refine go_dsplit2 rfl (fun h => ?_) (fun h => ?_) | refine go_loadB ?_ | refine ⟨by kernel_rfl, ?_⟩ | refine go_ret ?_) <;> conv => whnf) | refine go_block ?_ | ((first | refine go_skip ?_ | refine go_exit ?_) <;> conv => whnf) | refine go_true rfl ?_ | refine go_false rfl ?_ | refine go_cond rfl (fun h => ?_) (fun h => ?_) | refine ⟨rfl, ?_⟩ | ((first | refine ⟨trivial, ?_⟩ | refine ⟨le_of_ble rfl, ?_⟩) <;> conv => whnf) | fail
      all_goals first
        | exact ret_imm rfl rfl rfl rfl rfl rfl
        | (exfalso; simp at h; omega)
        | (exfalso; simp only [decide_eq_false_iff_not, decide_eq_true_eq, etr] at h; omega)
        | trace_state
    have e : (true && decide ((tr.length : Int) ≤ s)) = true := by simp; omega
    rw [e, if_pos rfl] at hsc
    repeat' first | refine go_seq ?_ | refine go_region ?_ | refine go_miss rfl rfl rfl ?_ | refine go_undef rfl rfl rfl ?_ | refine go_draw drawsOk ?_ | ((first | refine go_op rfl ?_ | refine go_nil ?_ | refine go_hit rfl rfl rfl ?_ | refine go_splitT rfl rfl rfl (fun h => ?_) (fun h => ?_) | refine go_splitF rfl rfl rfl (fun h => ?_) (fun h => ?_) | refine go_dop rfl ?_ | refine go_dhit rfl rfl ?_ | refine go_dmiss rfl rfl ?_ | refine go_dundef rfl rfl ?_ | refine go_dend (by kernel_rfl) ?_ | refine go_pickT rfl ?_ | refine go_pickF rfl ?_ | refine go_pick rfl (fun h => ?_) (fun h => ?_) | refine go_call [] (hW2) rfl rfl rfl rfl ?_ | refine go_idx rfl rfl rfl rfl (by omega) hr1 rfl ?_ | refine go_idx rfl rfl rfl rfl (by omega) hr2 rfl ?_) <;> conv => whnf) | ((first | refine go_dsplit2 rfl (fun h => ?_) (fun h => ?_) | refine go_loadB ?_ | refine ⟨by kernel_rfl, ?_⟩ | refine go_ret ?_) <;> conv => whnf) | refine go_block ?_ | ((first | refine go_skip ?_ | refine go_exit ?_) <;> conv => whnf) | refine go_true rfl ?_ | refine go_false rfl ?_ | refine go_cond rfl (fun h => ?_) (fun h => ?_) | refine ⟨rfl, ?_⟩ | ((first | refine ⟨trivial, ?_⟩ | refine ⟨le_of_ble rfl, ?_⟩) <;> conv => whnf) | fail
    all_goals try first
      | (exfalso; simp at h; omega)
      | (exfalso; simp only [decide_eq_false_iff_not, decide_eq_true_eq, etr] at h; omega)
    refine go_loop (α := Nat × List Int) (fun x => x.1 ≤ tr.length ∧ x.2.length ≤ 1000 * i + x.1 ∧ scanT x.2 (tr.drop x.1) = scanT seen tr) (fun x => tr.length - x.1)
      (fun x => st Try.f24.ntmps [(1, .box 1000 0), (3, .own 1001 0 (x.2.map intRow).length), (4, .imm (.int .i64 (i : Nat))), (5, .imm (.int .i64 (x.1 : Nat)))]
        [(1000, .box 27 (d.enc.map .imm)), (1001, .arr 3 1 (x.2.map intRow))] []) (0, seen) ⟨Nat.zero_le _, by simp only; omega, rfl⟩ ?_ ?_
    · exact ref_st id rfl ⟨⟨rfl, rfl⟩, ⟨rfl, rfl⟩, rfl, rfl, trivial⟩ ⟨⟨rfl, wavs_imm _⟩, rfl, trivial⟩ (by simp) rfl (by simp)
    rintro ⟨k, sn⟩ ⟨hk, hkl, hst⟩
    simp only at hk hkl hst
    cases hv : tr[k]? with
    | none =>
      have hge := le_of_at hv
      rw [List.drop_eq_nil_of_le hge] at hst
      rw [← hst] at hsc
      repeat' first | refine go_seq ?_ | refine go_region ?_ | refine go_miss rfl rfl rfl ?_ | refine go_undef rfl rfl rfl ?_ | refine go_draw drawsOk ?_ | ((first | refine go_op rfl ?_ | refine go_nil ?_ | refine go_hit rfl rfl rfl ?_ | refine go_splitT rfl rfl rfl (fun h => ?_) (fun h => ?_) | refine go_splitF rfl rfl rfl (fun h => ?_) (fun h => ?_) | refine go_dop rfl ?_ | refine go_dhit rfl rfl ?_ | refine go_dmiss rfl rfl ?_ | refine go_dundef rfl rfl ?_ | refine go_dend (by kernel_rfl) ?_ | refine go_pickT rfl ?_ | refine go_pickF rfl ?_ | refine go_pick rfl (fun h => ?_) (fun h => ?_) | refine go_idx rfl rfl rfl rfl (by omega) hr2 rfl ?_) <;> conv => whnf) | ((first | refine go_dsplit2 rfl (fun h => ?_) (fun h => ?_) | refine go_loadB ?_ | refine ⟨by kernel_rfl, ?_⟩ | refine go_ret ?_) <;> conv => whnf) | refine go_block ?_ | ((first | refine go_skip ?_ | refine go_exit ?_) <;> conv => whnf) | refine go_true rfl ?_ | refine go_false rfl ?_ | refine go_cond rfl (fun h => ?_) (fun h => ?_) | refine ⟨rfl, ?_⟩ | ((first | refine ⟨trivial, ?_⟩ | refine ⟨le_of_ble rfl, ?_⟩) <;> conv => whnf) | fail
      all_goals first
        | (refine go_next (i + 1, sn) ⟨by simp only; omega, by simp only; omega, hsc⟩ (by simp only; omega) (ref_st id rfl ⟨⟨rfl, rfl⟩, ⟨rfl, rfl⟩, next_i (by omega), trivial⟩ ⟨⟨rfl, wavs_imm _⟩, rfl, trivial⟩ (by simp) rfl (by simp)); done)
        | (exfalso; simp at h; omega)
        | trace_state
    | some v =>
      have hklt := lt_of_at hv
      have hr3 := row_at intRow hv
      rw [scanT_next hv] at hst
      have hW3 := c37 v 1 99
      have hH : CallOk Try.prog 38 [.imm (.list (((sn.map intRow).drop 0).take (sn.map intRow).length)), .imm (.int .i64 v)] { res := [.imm (.bool (sn.any (pInt v)))] } := by rw [int_view]; exact c38 sn v (by omega)
      cases b3 : inR v 1 99 with
      | false =>
        rw [b3] at hW3
        have e3 : vOk sn v = false := by unfold vOk; rw [b3]; rfl
        rw [e3, if_neg (by simp)] at hst
        rw [← hst] at hsc
        rw [← hsc]
        repeat' first | refine go_seq ?_ | refine go_region ?_ | refine go_miss rfl rfl rfl ?_ | refine go_undef rfl rfl rfl ?_ | refine go_draw drawsOk ?_ | ((first | refine go_op rfl ?_ | refine go_nil ?_ | refine go_hit rfl rfl rfl ?_ | refine go_splitT rfl rfl rfl (fun h => ?_) (fun h => ?_) | refine go_splitF rfl rfl rfl (fun h => ?_) (fun h => ?_) | refine go_dop rfl ?_ | refine go_dhit rfl rfl ?_ | refine go_dmiss rfl rfl ?_ | refine go_dundef rfl rfl ?_ | refine go_dend (by kernel_rfl) ?_ | refine go_pickT rfl ?_ | refine go_pickF rfl ?_ | refine go_pick rfl (fun h => ?_) (fun h => ?_) | refine go_call [] (hW3) rfl rfl rfl rfl ?_ | refine go_call [] (hH) rfl rfl rfl rfl ?_ | refine go_idx rfl rfl rfl rfl (by omega) hr3 rfl ?_ | refine go_idx rfl rfl rfl rfl (by omega) hr2 rfl ?_) <;> conv => whnf) | ((first | refine go_dsplit2 rfl (fun h => ?_) (fun h => ?_) | refine go_loadB ?_ | refine ⟨by kernel_rfl, ?_⟩ | refine go_ret ?_) <;> conv => whnf) | refine go_block ?_ | ((first | refine go_skip ?_ | refine go_exit ?_) <;> conv => whnf) | refine go_true rfl ?_ | refine go_false rfl ?_ | refine go_cond rfl (fun h => ?_) (fun h => ?_) | refine ⟨rfl, ?_⟩ | ((first | refine ⟨trivial, ?_⟩ | refine ⟨le_of_ble rfl, ?_⟩) <;> conv => whnf) | fail
        all_goals first
          | exact ret_imm rfl rfl rfl rfl rfl rfl
          | (exfalso; simp at h; omega)
          | (exfalso; simp at h; done)
          | trace_state
      | true =>
      rw [b3] at hW3
      cases b4 : sn.any (pInt v) with
      | true =>
        rw [b4] at hH
        have e3 : vOk sn v = false := by unfold vOk; rw [b3, b4]; rfl
        rw [e3, if_neg (by simp)] at hst
        rw [← hst] at hsc
        rw [← hsc]
        repeat' first | refine go_seq ?_ | refine go_region ?_ | refine go_miss rfl rfl rfl ?_ | refine go_undef rfl rfl rfl ?_ | refine go_draw drawsOk ?_ | ((first | refine go_op rfl ?_ | refine go_nil ?_ | refine go_hit rfl rfl rfl ?_ | refine go_splitT rfl rfl rfl (fun h => ?_) (fun h => ?_) | refine go_splitF rfl rfl rfl (fun h => ?_) (fun h => ?_) | refine go_dop rfl ?_ | refine go_dhit rfl rfl ?_ | refine go_dmiss rfl rfl ?_ | refine go_dundef rfl rfl ?_ | refine go_dend (by kernel_rfl) ?_ | refine go_pickT rfl ?_ | refine go_pickF rfl ?_ | refine go_pick rfl (fun h => ?_) (fun h => ?_) | refine go_call [] (hW3) rfl rfl rfl rfl ?_ | refine go_call [] (hH) rfl rfl rfl rfl ?_ | refine go_idx rfl rfl rfl rfl (by omega) hr3 rfl ?_ | refine go_idx rfl rfl rfl rfl (by omega) hr2 rfl ?_) <;> conv => whnf) | ((first | refine go_dsplit2 rfl (fun h => ?_) (fun h => ?_) | refine go_loadB ?_ | refine ⟨by kernel_rfl, ?_⟩ | refine go_ret ?_) <;> conv => whnf) | refine go_block ?_ | ((first | refine go_skip ?_ | refine go_exit ?_) <;> conv => whnf) | refine go_true rfl ?_ | refine go_false rfl ?_ | refine go_cond rfl (fun h => ?_) (fun h => ?_) | refine ⟨rfl, ?_⟩ | ((first | refine ⟨trivial, ?_⟩ | refine ⟨le_of_ble rfl, ?_⟩) <;> conv => whnf) | fail
        all_goals first
          | exact ret_imm rfl rfl rfl rfl rfl rfl
          | (exfalso; simp at h; omega)
          | (exfalso; simp at h; done)
          | trace_state
      | false =>
        rw [b4] at hH
        have e3 : vOk sn v = true := by unfold vOk; rw [b3, b4]; rfl
        rw [e3, if_pos rfl] at hst
        have hone : ([v].map intRow).all (fun r => r.all D.one) = true := rfl
        have hbd : (sn.map intRow).length + 1 ≤ 1073741824 := by rw [List.length_map]; omega
        repeat' first | refine go_seq ?_ | refine go_region ?_ | refine go_miss rfl rfl rfl ?_ | refine go_undef rfl rfl rfl ?_ | refine go_draw drawsOk ?_ | ((first | refine go_op rfl ?_ | refine go_nil ?_ | refine go_hit rfl rfl rfl ?_ | refine go_splitT rfl rfl rfl (fun h => ?_) (fun h => ?_) | refine go_splitF rfl rfl rfl (fun h => ?_) (fun h => ?_) | refine go_dop rfl ?_ | refine go_dhit rfl rfl ?_ | refine go_dmiss rfl rfl ?_ | refine go_dundef rfl rfl ?_ | refine go_dend (by kernel_rfl) ?_ | refine go_pickT rfl ?_ | refine go_pickF rfl ?_ | refine go_pick rfl (fun h => ?_) (fun h => ?_) | refine go_call [] (hW3) rfl rfl rfl rfl ?_ | refine go_call [] (hH) rfl rfl rfl rfl ?_ | refine go_idx rfl rfl rfl rfl (by omega) hr3 rfl ?_ | refine go_idx rfl rfl rfl rfl (by omega) hr2 rfl ?_ | refine go_append (rows2 := [v].map intRow) rfl rfl rfl rfl rfl rfl rfl rfl rfl rfl rfl rfl hone rfl rfl rfl hbd ?_) <;> conv => whnf) | ((first | refine go_dsplit2 rfl (fun h => ?_) (fun h => ?_) | refine go_loadB ?_ | refine ⟨by kernel_rfl, ?_⟩ | refine go_ret ?_) <;> conv => whnf) | refine go_block ?_ | ((first | refine go_skip ?_ | refine go_exit ?_) <;> conv => whnf) | refine go_true rfl ?_ | refine go_false rfl ?_ | refine go_cond rfl (fun h => ?_) (fun h => ?_) | refine ⟨rfl, ?_⟩ | ((first | refine ⟨trivial, ?_⟩ | refine ⟨le_of_ble rfl, ?_⟩) <;> conv => whnf) | fail
        all_goals first
          | (refine go_next (k + 1, sn ++ [v]) ⟨by simp only; omega, by simp only [List.length_append, List.length_cons, List.length_nil]; omega, hst⟩ (by simp only; omega) (ref_st (fun i => if i = 1001 then nid 5 79 else i) rfl ⟨⟨rfl, rfl⟩, ⟨?_, rfl⟩, rfl, next_i (by omega), trivial⟩ ⟨⟨rfl, wavs_imm _⟩, ?_, trivial⟩ (by simp [nid]) rfl (by simp))
             · show AV.own _ _ _ = AV.own _ _ _
               rw [List.map_append, List.length_append]; rfl
             · show some _ = some _
               rw [List.map_append]; rfl)
          | (exfalso; simp at h; omega)
          | (exfalso; simp at h; done)
          | trace_state

/-- A place as the program and the reference tell it. -/
def plI (o : Option (Nat × Nat)) : Int := match o with | some x => (x.1 : Nat) | none => -1
def plK (z : Int) (o : Option (Nat × Nat)) : Int := match o with | some x => (x.2 : Nat) | none => z
theorem plcF_next {i : Nat} {ts : List (List Int)} {t : List Int} {v : Int} (h : ts[i]? = some t) : plcF i (ts.drop i) v = if 0 ≤ idxF (pInt v) t then some (i, (idxF (pInt v) t).toNat) else plcF (i + 1) (ts.drop (i + 1)) v := by
  rw [drop_at h]; rfl

theorem c36 (ts : List (List Int)) (hl : ts.length ≤ 1000) (hf : ∀ t ∈ ts, t.length ≤ 1000) (v : Int) : CallOk Try.prog 36 [.imm (.list (ts.map intsRow)), .imm (.int .i64 v)] { res := [.imm (.int .i64 (plI (plc ts v))), .imm (.int .i64 (plK 0 (plc ts v)))] } := by
  refine callOk_of tyOk Try.func36 rfl rfl (le_of_ble rfl) (le_of_ble rfl) (mutOk_imm rfl _) ?_
  repeat' first | refine go_seq ?_ | refine go_region ?_ | ((first | refine go_op rfl ?_ | refine go_nil ?_) <;> conv => whnf) | ((first | refine go_loadB ?_ | refine ⟨by kernel_rfl, ?_⟩ | refine go_ret ?_) <;> conv => whnf) | refine go_block ?_ | ((first | refine go_skip ?_ | refine go_exit ?_) <;> conv => whnf) | refine go_true rfl ?_ | refine go_false rfl ?_ | refine go_cond rfl (fun h => ?_) (fun h => ?_) | refine ⟨rfl, ?_⟩ | ((first | refine ⟨trivial, ?_⟩ | refine ⟨le_of_ble rfl, ?_⟩) <;> conv => whnf) | fail
  refine go_loop (α := Nat) (fun i => i ≤ ts.length ∧ plcF i (ts.drop i) v = plc ts v) (fun i => ts.length - i) (fun i => st Try.f36.ntmps [(1, .imm (.int .i64 v)), (9, .imm (.list (ts.map intsRow))), (10, .imm (.int .i64 (ts.map intsRow).length)), (11, .imm (.int .i64 (i : Nat)))] [] []) 0
    ⟨Nat.zero_le _, rfl⟩ (ref_st0 rfl ⟨rfl, rfl, rfl, rfl, trivial⟩ rfl) ?_
  rintro i ⟨hi, hp⟩
  cases hx : ts[i]? with
  | none =>
    have hge := le_of_at hx
    rw [List.drop_eq_nil_of_le hge] at hp
    rw [← hp]
    repeat' first | refine go_seq ?_ | refine go_region ?_ | ((first | refine go_op rfl ?_ | refine go_nil ?_) <;> conv => whnf) | ((first | refine go_loadB ?_ | refine ⟨by kernel_rfl, ?_⟩ | refine go_ret ?_) <;> conv => whnf) | refine go_block ?_ | ((first | refine go_skip ?_ | refine go_exit ?_) <;> conv => whnf) | refine go_true rfl ?_ | refine go_false rfl ?_ | refine go_cond rfl (fun h => ?_) (fun h => ?_) | refine ⟨rfl, ?_⟩ | ((first | refine ⟨trivial, ?_⟩ | refine ⟨le_of_ble rfl, ?_⟩) <;> conv => whnf) | fail
    all_goals first
      | exact ret_imm2 rfl rfl rfl rfl rfl rfl rfl rfl
      | (exfalso; simp at h; omega)
      | trace_state
  | some t =>
    have hlt := lt_of_at hx
    have hr := ints_row hx
    have hI := c41 t v (by have := hf t (List.mem_of_getElem? hx); omega)
    rw [plcF_next hx] at hp
    by_cases h0 : 0 ≤ idxF (pInt v) t
    · rw [if_pos h0] at hp
      rw [← hp]
      repeat' first | refine go_seq ?_ | refine go_region ?_ | ((first | refine go_op rfl ?_ | refine go_nil ?_ | refine go_call [] (hI) rfl rfl rfl rfl ?_ | refine go_idx rfl rfl rfl rfl (by omega) hr rfl ?_) <;> conv => whnf) | ((first | refine go_loadB ?_ | refine ⟨by kernel_rfl, ?_⟩ | refine go_ret ?_) <;> conv => whnf) | refine go_block ?_ | ((first | refine go_skip ?_ | refine go_exit ?_) <;> conv => whnf) | refine go_true rfl ?_ | refine go_false rfl ?_ | refine go_cond rfl (fun h => ?_) (fun h => ?_) | refine ⟨rfl, ?_⟩ | ((first | refine ⟨trivial, ?_⟩ | refine ⟨le_of_ble rfl, ?_⟩) <;> conv => whnf) | fail
      all_goals first
        | (refine ret_imm2 rfl rfl rfl rfl rfl rfl ?_ rfl
           show D.int _ _ = D.int _ _
           congr 1
           show _ = ((idxF (pInt v) t).toNat : Int)
           omega)
        | (refine ret_imm2 rfl rfl rfl rfl rfl rfl rfl ?_
           show D.int _ _ = D.int _ _
           congr 1
           show _ = ((idxF (pInt v) t).toNat : Int)
           omega)
        | (exfalso; simp at h; omega)
        | (exfalso; exact of_decide_eq_false h h0)
        | trace_state
    · rw [if_neg h0] at hp
      repeat' first | refine go_seq ?_ | refine go_region ?_ | ((first | refine go_op rfl ?_ | refine go_nil ?_ | refine go_call [] (hI) rfl rfl rfl rfl ?_ | refine go_idx rfl rfl rfl rfl (by omega) hr rfl ?_) <;> conv => whnf) | ((first | refine go_loadB ?_ | refine ⟨by kernel_rfl, ?_⟩ | refine go_ret ?_) <;> conv => whnf) | refine go_block ?_ | ((first | refine go_skip ?_ | refine go_exit ?_) <;> conv => whnf) | refine go_true rfl ?_ | refine go_false rfl ?_ | refine go_cond rfl (fun h => ?_) (fun h => ?_) | refine ⟨rfl, ?_⟩ | ((first | refine ⟨trivial, ?_⟩ | refine ⟨le_of_ble rfl, ?_⟩) <;> conv => whnf) | fail
      all_goals first
        | (exfalso; exact h0 (of_decide_eq_true h))
        | exact go_next (i + 1) ⟨by omega, hp⟩ (by omega) (ref_st0 rfl ⟨rfl, rfl, rfl, next_i (by omega), trivial⟩ rfl)
        | (exfalso; simp at h; omega)
        | trace_state

theorem c31 (d : Depot) (hf : d.fit) (v : Int) : CallOk Try.prog 31 [.imm (.agg d.enc), .imm (.int .i64 v)] { res := [.imm (.int .i64 (plI (plc d.tracks v))), .imm (.int .i64 (plK (-1) (plc d.tracks v)))] } := by
  refine callOk_of tyOk Try.func31 rfl rfl (le_of_ble rfl) (le_of_ble rfl) (mutOk_imm rfl _) ?_
  obtain ⟨_, f2, f3⟩ := hf
  repeat' first | refine go_seq ?_ | refine go_region ?_ | ((first | refine go_op rfl ?_ | refine go_nil ?_) <;> conv => whnf) | ((first | refine go_loadB ?_ | refine ⟨by kernel_rfl, ?_⟩ | refine go_ret ?_) <;> conv => whnf) | refine go_block ?_ | ((first | refine go_skip ?_ | refine go_exit ?_) <;> conv => whnf) | refine go_true rfl ?_ | refine go_false rfl ?_ | refine go_cond rfl (fun h => ?_) (fun h => ?_) | refine ⟨rfl, ?_⟩ | ((first | refine ⟨trivial, ?_⟩ | refine ⟨le_of_ble rfl, ?_⟩) <;> conv => whnf) | fail
  refine go_loop (α := Nat) (fun i => i ≤ d.tracks.length ∧ plcF i (d.tracks.drop i) v = plc d.tracks v) (fun i => d.tracks.length - i) (fun i => st Try.f31.ntmps [(1, .imm (.int .i64 v)), (2, .box 1000 0), (6, .imm (.int .i64 (i : Nat)))] [(1000, .box 27 (d.enc.map .imm))] []) 0
    ⟨Nat.zero_le _, rfl⟩ (ref_st (fun _ => nid 1 2) rfl ⟨rfl, ⟨rfl, rfl⟩, rfl, trivial⟩ ⟨⟨rfl, wavs_imm _⟩, trivial⟩ (by simp) rfl (by simp)) ?_
  rintro i ⟨hi, hp⟩
  cases hx : d.tracks[i]? with
  | none =>
    have hge := le_of_at hx
    rw [List.drop_eq_nil_of_le hge] at hp
    rw [← hp]
    repeat' first | refine go_seq ?_ | refine go_region ?_ | ((first | refine go_op rfl ?_ | refine go_nil ?_) <;> conv => whnf) | ((first | refine go_loadB ?_ | refine ⟨by kernel_rfl, ?_⟩ | refine go_ret ?_) <;> conv => whnf) | refine go_block ?_ | ((first | refine go_skip ?_ | refine go_exit ?_) <;> conv => whnf) | refine go_true rfl ?_ | refine go_false rfl ?_ | refine go_cond rfl (fun h => ?_) (fun h => ?_) | refine ⟨rfl, ?_⟩ | ((first | refine ⟨trivial, ?_⟩ | refine ⟨le_of_ble rfl, ?_⟩) <;> conv => whnf) | fail
    all_goals first
      | exact ret_imm2 rfl rfl rfl rfl rfl rfl rfl rfl
      | (exfalso; simp at h; omega)
      | trace_state
  | some t =>
    have hlt := lt_of_at hx
    have hr := ints_row hx
    have htl := f3 t (List.mem_of_getElem? hx)
    rw [plcF_next hx] at hp
    repeat' first | refine go_seq ?_ | refine go_region ?_ | ((first | refine go_op rfl ?_ | refine go_nil ?_ | refine go_idx rfl rfl rfl rfl (by omega) hr rfl ?_) <;> conv => whnf) | ((first | refine go_loadB ?_ | refine ⟨by kernel_rfl, ?_⟩ | refine go_ret ?_) <;> conv => whnf) | refine go_block ?_ | ((first | refine go_skip ?_ | refine go_exit ?_) <;> conv => whnf) | refine go_true rfl ?_ | refine go_false rfl ?_ | refine go_cond rfl (fun h => ?_) (fun h => ?_) | refine ⟨rfl, ?_⟩ | ((first | refine ⟨trivial, ?_⟩ | refine ⟨le_of_ble rfl, ?_⟩) <;> conv => whnf) | fail
    all_goals try (exfalso; simp at h; omega)
    refine go_loop (α := Nat) (fun k => k ≤ t.length ∧ (t.take k).any (pInt v) = false) (fun k => t.length - k) (fun k => st Try.f31.ntmps [(1, .imm (.int .i64 v)), (2, .box 1000 0), (6, .imm (.int .i64 (i : Nat))), (7, .imm (.int .i64 (k : Nat)))] [(1000, .box 27 (d.enc.map .imm))] []) 0
      ⟨Nat.zero_le _, rfl⟩ (ref_st id rfl ⟨rfl, ⟨rfl, rfl⟩, rfl, rfl, trivial⟩ ⟨⟨rfl, wavs_imm _⟩, trivial⟩ (by simp) rfl (by simp)) ?_
    rintro k ⟨hk, ha⟩
    cases hv : t[k]? with
    | none =>
      have hge := le_of_at hv
      rw [List.take_of_length_le hge] at ha
      rw [idxF_miss ha, if_neg (by omega)] at hp
      repeat' first | refine go_seq ?_ | refine go_region ?_ | ((first | refine go_op rfl ?_ | refine go_nil ?_ | refine go_idx rfl rfl rfl rfl (by omega) hr rfl ?_) <;> conv => whnf) | ((first | refine go_loadB ?_ | refine ⟨by kernel_rfl, ?_⟩ | refine go_ret ?_) <;> conv => whnf) | refine go_block ?_ | ((first | refine go_skip ?_ | refine go_exit ?_) <;> conv => whnf) | refine go_true rfl ?_ | refine go_false rfl ?_ | refine go_cond rfl (fun h => ?_) (fun h => ?_) | refine ⟨rfl, ?_⟩ | ((first | refine ⟨trivial, ?_⟩ | refine ⟨le_of_ble rfl, ?_⟩) <;> conv => whnf) | fail
      all_goals first
        | exact go_next (i + 1) ⟨by omega, hp⟩ (by omega) (ref_st id rfl ⟨rfl, ⟨rfl, rfl⟩, next_i (by omega), trivial⟩ ⟨⟨rfl, wavs_imm _⟩, trivial⟩ (by simp) rfl (by simp))
        | (exfalso; simp at h; omega)
        | trace_state
    | some x =>
      have hklt := lt_of_at hv
      have hr3 := row_at intRow hv
      by_cases hxv : x = v
      · have hidx : idxF (pInt v) t = (k : Nat) := idxF_hit hv (by simp [pInt, hxv]) ha
        rw [hidx, if_pos (by omega)] at hp
        rw [← hp]
        repeat' first | refine go_seq ?_ | refine go_region ?_ | ((first | refine go_op rfl ?_ | refine go_nil ?_ | refine go_idx rfl rfl rfl rfl (by omega) hr rfl ?_ | refine go_idx rfl rfl rfl rfl (by omega) hr3 rfl ?_) <;> conv => whnf) | ((first | refine go_loadB ?_ | refine ⟨by kernel_rfl, ?_⟩ | refine go_ret ?_) <;> conv => whnf) | refine go_block ?_ | ((first | refine go_skip ?_ | refine go_exit ?_) <;> conv => whnf) | refine go_true rfl ?_ | refine go_false rfl ?_ | refine go_cond rfl (fun h => ?_) (fun h => ?_) | refine ⟨rfl, ?_⟩ | ((first | refine ⟨trivial, ?_⟩ | refine ⟨le_of_ble rfl, ?_⟩) <;> conv => whnf) | fail
        all_goals first
          | exact ret_imm2 rfl rfl rfl rfl rfl rfl rfl rfl
          | (exfalso; exact of_decide_eq_false h hxv)
          | (exfalso; simp at h; omega)
          | trace_state
      · skip
        repeat' first | refine go_seq ?_ | refine go_region ?_ | ((first | refine go_op rfl ?_ | refine go_nil ?_ | refine go_idx rfl rfl rfl rfl (by omega) hr rfl ?_ | refine go_idx rfl rfl rfl rfl (by omega) hr3 rfl ?_) <;> conv => whnf) | ((first | refine go_loadB ?_ | refine ⟨by kernel_rfl, ?_⟩ | refine go_ret ?_) <;> conv => whnf) | refine go_block ?_ | ((first | refine go_skip ?_ | refine go_exit ?_) <;> conv => whnf) | refine go_true rfl ?_ | refine go_false rfl ?_ | refine go_cond rfl (fun h => ?_) (fun h => ?_) | refine ⟨rfl, ?_⟩ | ((first | refine ⟨trivial, ?_⟩ | refine ⟨le_of_ble rfl, ?_⟩) <;> conv => whnf) | fail
        all_goals first
          | exact go_next (k + 1) ⟨by omega, any_next (p := (pInt v)) hv ha (by simp [pInt]; omega)⟩ (by omega) (ref_st id rfl ⟨rfl, ⟨rfl, rfl⟩, rfl, next_i (by omega), trivial⟩ ⟨⟨rfl, wavs_imm _⟩, trivial⟩ (by simp) rfl (by simp))
          | (exfalso; exact hxv (of_decide_eq_true h))
          | (exfalso; simp at h; omega)
          | trace_state

/-- Free places so far. -/
theorem freeL_next {ss : List Int} {ts : List (List Int)} {i : Nat} {s : Int} {t : List Int} (hs : ss[i]? = some s) (ht : ts[i]? = some t) : freeL (ss.drop i) (ts.drop i) = (s - t.length) + freeL (ss.drop (i + 1)) (ts.drop (i + 1)) := by
  rw [drop_at hs, drop_at ht]; rfl
def frOf (d : Depot) : Int := if depOk d then freeL d.sizes d.tracks else 0
theorem c10 (d : Depot) (hf : d.fit) : CallOk Try.prog 10 [.imm (.agg d.enc)] { res := [.imm (.int .i64 (frOf d)), .imm (.bool (depOk d))] } := by
  refine callOk_of tyOk Try.func10 rfl rfl (le_of_ble rfl) (le_of_ble rfl) (mutOk_imm rfl _) ?_
  have hV := c12 d hf
  unfold frOf
  cases hok : depOk d with
  | false =>
    rw [hok] at hV
    repeat' first | refine go_seq ?_ | refine go_region ?_ | ((first | refine go_op rfl ?_ | refine go_nil ?_ | refine go_call [] (hV) rfl rfl rfl rfl ?_) <;> conv => whnf) | ((first | refine go_loadB ?_ | refine ⟨by kernel_rfl, ?_⟩ | refine go_ret ?_) <;> conv => whnf) | refine go_block ?_ | ((first | refine go_skip ?_ | refine go_exit ?_) <;> conv => whnf) | refine go_true rfl ?_ | refine go_false rfl ?_ | refine go_cond rfl (fun h => ?_) (fun h => ?_) | refine ⟨rfl, ?_⟩ | ((first | refine ⟨trivial, ?_⟩ | refine ⟨le_of_ble rfl, ?_⟩) <;> conv => whnf) | fail
    all_goals first
      | exact ret_imm2 rfl rfl rfl rfl rfl rfl rfl rfl
      | (exfalso; simp at h; done)
      | trace_state
  | true =>
    rw [hok] at hV
    obtain ⟨h1, h2, h3, _, _⟩ := depOk_iff.1 hok
    repeat' first | refine go_seq ?_ | refine go_region ?_ | ((first | refine go_op rfl ?_ | refine go_nil ?_ | refine go_call [] (hV) rfl rfl rfl rfl ?_) <;> conv => whnf) | ((first | refine go_loadB ?_ | refine ⟨by kernel_rfl, ?_⟩ | refine go_ret ?_) <;> conv => whnf) | refine go_block ?_ | ((first | refine go_skip ?_ | refine go_exit ?_) <;> conv => whnf) | refine go_true rfl ?_ | refine go_false rfl ?_ | refine go_cond rfl (fun h => ?_) (fun h => ?_) | refine ⟨rfl, ?_⟩ | ((first | refine ⟨trivial, ?_⟩ | refine ⟨le_of_ble rfl, ?_⟩) <;> conv => whnf) | fail
    all_goals try (exfalso; simp at h; done)
    refine go_loop (α := Nat × Int) (fun x => x.1 ≤ d.sizes.length ∧ (0 ≤ x.2 ∧ x.2 ≤ 8 * (x.1 : Int)) ∧ x.2 + freeL (d.sizes.drop x.1) (d.tracks.drop x.1) = freeL d.sizes d.tracks) (fun x => d.sizes.length - x.1)
      (fun x => st Try.f10.ntmps [(1, .box 1000 0), (4, .imm (.int .i64 x.2)), (11, .imm (.list (d.sizes.map intRow))), (12, .imm (.int .i64 (d.sizes.map intRow).length)), (13, .imm (.int .i64 (x.1 : Nat)))] [(1000, .box 27 (d.enc.map .imm))] []) (0, 0)
      ⟨Nat.zero_le _, ⟨Int.le_refl _, Int.le_refl _⟩, by simp⟩ (ref_st (fun _ => nid 1 1) rfl ⟨⟨rfl, rfl⟩, rfl, rfl, rfl, rfl, trivial⟩ ⟨⟨rfl, wavs_imm _⟩, trivial⟩ (by simp) rfl (by simp)) ?_
    rintro ⟨i, n⟩ ⟨hi, ⟨hn0, hn1⟩, hn⟩
    simp only at hi hn0 hn1 hn
    cases hx : d.sizes[i]? with
    | none =>
      have hge := le_of_at hx
      rw [List.drop_eq_nil_of_le hge] at hn
      have hn2 : n = freeL d.sizes d.tracks := by rw [← hn]; simp [freeL]
      repeat' first | refine go_seq ?_ | refine go_region ?_ | ((first | refine go_op rfl ?_ | refine go_nil ?_) <;> conv => whnf) | ((first | refine go_loadB ?_ | refine ⟨by kernel_rfl, ?_⟩ | refine go_ret ?_) <;> conv => whnf) | refine go_block ?_ | ((first | refine go_skip ?_ | refine go_exit ?_) <;> conv => whnf) | refine go_true rfl ?_ | refine go_false rfl ?_ | refine go_cond rfl (fun h => ?_) (fun h => ?_) | refine ⟨rfl, ?_⟩ | ((first | refine ⟨trivial, ?_⟩ | refine ⟨le_of_ble rfl, ?_⟩) <;> conv => whnf) | fail
      all_goals first
        | (refine ret_imm2 rfl rfl rfl rfl rfl ?_ rfl rfl; rw [hn2]; rfl)
        | (refine ret_imm2 rfl rfl rfl rfl rfl ?_ rfl rfl; simp [hn2]; done)
        | (exfalso; simp at h; omega)
        | trace_state
    | some s =>
      have hlt := lt_of_at hx
      have ht := trk_at (ts := d.tracks) (i := i) (by omega)
      have hsz := szOk_at h3 hx
      generalize trk d.tracks i = tr at *
      have hr1 := row_at intRow hx
      have hr2 := ints_row ht
      rw [freeL_next hx ht] at hn
      have etr : (tr.map intRow).length = tr.length := List.length_map _
      repeat' first | refine go_seq ?_ | refine go_region ?_ | ((first | refine go_op rfl ?_ | refine go_nil ?_ | refine go_idx rfl rfl rfl rfl (by omega) hr1 rfl ?_ | refine go_idx rfl rfl rfl rfl (by omega) hr2 rfl ?_) <;> conv => whnf) | ((first | refine go_loadB ?_ | refine ⟨by kernel_rfl, ?_⟩ | refine go_ret ?_) <;> conv => whnf) | refine go_block ?_ | ((first | refine go_skip ?_ | refine go_exit ?_) <;> conv => whnf) | refine go_true rfl ?_ | refine go_false rfl ?_ | refine go_cond rfl (fun h => ?_) (fun h => ?_) | refine ⟨rfl, ?_⟩ | ((first | refine ⟨trivial, ?_⟩ | refine ⟨le_of_ble rfl, ?_⟩) <;> conv => whnf) | fail
      all_goals first
        | (refine go_next (i + 1, n + (s - (tr.length : Int))) ⟨by simp only; omega, ⟨by simp only; omega, by simp only; omega⟩, by simp only; omega⟩ (by simp only; omega) (ref_st id rfl ⟨⟨rfl, rfl⟩, ?_, rfl, rfl, next_i (by omega), trivial⟩ ⟨⟨rfl, wavs_imm _⟩, trivial⟩ (by simp) rfl (by simp))
           show AV.imm _ = AV.imm _
           rw [etr, wrap_small (n := s - (tr.length : Int)) (by omega) (by omega), wrap_small (by omega) (by omega)]
           done)
        | (exfalso; simp at h; omega)
        | trace_state
end Go.Proofs.Ytkjigbbbobijnaa

