/- Picks among numbers, times that are drawn. -/
import Derived.Test.YtobnoplkpmdeiaaC2
namespace Go.Proofs.Ytobnoplkpmdeiaa
open Go Go.Am
set_option maxRecDepth 100000
set_option maxHeartbeats 4000000
attribute [local irreducible] amOps amC opCall opIndexAddr opPick retQ opMake opStore amDraw opAppend opLoad opNilCmp opIndex opSlice

theorem tmod_in {x n : Int} (hx : 0 ≤ x) (hn : 1 ≤ n) : 0 ≤ x.tmod n ∧ x.tmod n < n := by
  rw [Int.tmod_eq_emod_of_nonneg hx]
  exact ⟨Int.emod_nonneg _ (by omega), Int.emod_lt_of_pos _ (by omega)⟩

/-- A number from 0 to n - 1; 0 where there is none. -/
theorem pick_ok (xs : List Int) (hx : areB xs) (k : Nat) (hk : k ≤ 999000) (s : Int) (n : Int) : ∃ (v : Int) (k' : Nat) (s' : Int), (0 ≤ v ∧ (1 ≤ n → v < n)) ∧ (k ≤ k' ∧ k' ≤ k + 2) ∧
    CallOk Try.prog 27 [.box 46 (curD xs k s), .imm (.int .i64 n)] { res := [.imm (.int .i64 v)], muts := [.box 46 ((curD xs k' s').map .imm)], sep := false } := by
  by_cases h1 : n ≤ 1
  · refine ⟨0, k, s, ⟨by omega, fun _ => by omega⟩, ⟨by omega, by omega⟩, ?_⟩
    refine callOk_of tyOk Try.func27 rfl rfl (le_of_ble rfl) (le_of_ble rfl) (mutOk_box0 rfl) ?_
    repeat' first | refine go_seq ?_ | refine go_region ?_ | ((first | refine go_op rfl ?_ | refine go_nil ?_) <;> conv => whnf) | ((first | refine ⟨by kernel_rfl, ?_⟩ | refine go_ret ?_) <;> conv => whnf) | ((first | refine go_skip ?_) <;> conv => whnf) | refine go_true rfl ?_ | refine go_false rfl ?_ | refine go_cond rfl (fun h => ?_) (fun h => ?_) | refine ⟨rfl, ?_⟩ | ((first | refine ⟨trivial, ?_⟩ | refine ⟨le_of_ble rfl, ?_⟩) <;> conv => whnf) | fail
    all_goals first
      | exact ret_box1 rfl rfl rfl rfl rfl rfl
      | (exfalso; simp at h; omega)
      | trace_state
  · have hn0 : n ≠ 0 := by omega
    obtain ⟨v, s1, hv, hc⟩ := next_ok xs hx k (by omega) s
    by_cases h2 : 200 < n
    · obtain ⟨v2, s2, hv2, hc2⟩ := next_ok xs hx (k + 1) (by omega) s1
      have e1 : IntKind.i64.wrap (IntKind.i64.wrap (v * 256) + v2) = v * 256 + v2 := by rw [wrap_small (n := v * 256) (by omega) (by omega), wrap_small (by omega) (by omega)]
      have hm := tmod_in (x := v * 256 + v2) (n := n) (by omega) (by omega)
      refine ⟨(v * 256 + v2).tmod n, k + 1 + 1, s2, ⟨hm.1, fun _ => hm.2⟩, ⟨by omega, by omega⟩, ?_⟩
      refine callOk_of tyOk Try.func27 rfl rfl (le_of_ble rfl) (le_of_ble rfl) (mutOk_box0 rfl) ?_
      repeat' first | refine go_seq ?_ | refine go_region ?_ | ((first | refine go_op rfl ?_ | refine go_nil ?_ | refine go_call [2] (hc) rfl rfl rfl rfl ?_ | refine go_call [2] (hc2) rfl rfl rfl rfl ?_ | refine ⟨hn0, ?_⟩) <;> conv => whnf) | ((first | refine ⟨by kernel_rfl, ?_⟩ | refine go_ret ?_) <;> conv => whnf) | ((first | refine go_skip ?_) <;> conv => whnf) | refine go_true rfl ?_ | refine go_false rfl ?_ | refine go_cond rfl (fun h => ?_) (fun h => ?_) | refine ⟨rfl, ?_⟩ | ((first | refine ⟨trivial, ?_⟩ | refine ⟨le_of_ble rfl, ?_⟩) <;> conv => whnf) | fail
      all_goals first
        | (refine ret_box1 rfl rfl rfl rfl ?_ rfl
           show D.int .i64 ((IntKind.i64.wrap (IntKind.i64.wrap (v * 256) + v2)).tmod n) = _
           rw [e1]
           done)
        | (exfalso; simp at h; omega)
        | trace_state
    · have hm := tmod_in (x := v) (n := n) (by omega) (by omega)
      refine ⟨v.tmod n, k + 1, s1, ⟨hm.1, fun _ => hm.2⟩, ⟨by omega, by omega⟩, ?_⟩
      refine callOk_of tyOk Try.func27 rfl rfl (le_of_ble rfl) (le_of_ble rfl) (mutOk_box0 rfl) ?_
      repeat' first | refine go_seq ?_ | refine go_region ?_ | ((first | refine go_op rfl ?_ | refine go_nil ?_ | refine go_call [2] (hc) rfl rfl rfl rfl ?_ | refine ⟨hn0, ?_⟩) <;> conv => whnf) | ((first | refine ⟨by kernel_rfl, ?_⟩ | refine go_ret ?_) <;> conv => whnf) | ((first | refine go_skip ?_) <;> conv => whnf) | refine go_true rfl ?_ | refine go_false rfl ?_ | refine go_cond rfl (fun h => ?_) (fun h => ?_) | refine ⟨rfl, ?_⟩ | ((first | refine ⟨trivial, ?_⟩ | refine ⟨le_of_ble rfl, ?_⟩) <;> conv => whnf) | fail
      all_goals first
        | exact ret_box1 rfl rfl rfl rfl rfl rfl
        | (exfalso; simp at h; omega)
        | trace_state

theorem one_ok (xs : List Int) (hx : areB xs) (k : Nat) (hk : k ≤ 999000) (s : Int) (n : Int) : ∃ (b : Bool) (k' : Nat) (s' : Int), (k ≤ k' ∧ k' ≤ k + 2) ∧
    CallOk Try.prog 28 [.box 46 (curD xs k s), .imm (.int .i64 n)] { res := [.imm (.bool b)], muts := [.box 46 ((curD xs k' s').map .imm)], sep := false } := by
  obtain ⟨v, k', s', hv, hk', hc⟩ := pick_ok xs hx k hk s n
  refine ⟨decide (v = 0), k', s', hk', ?_⟩
  refine callOk_of tyOk Try.func28 rfl rfl (le_of_ble rfl) (le_of_ble rfl) (mutOk_box0 rfl) ?_
  repeat' first | refine go_seq ?_ | refine go_region ?_ | ((first | refine go_op rfl ?_ | refine go_nil ?_ | refine go_call [2] (hc) rfl rfl rfl rfl ?_) <;> conv => whnf) | ((first | refine ⟨by kernel_rfl, ?_⟩ | refine go_ret ?_) <;> conv => whnf) | ((first | refine go_skip ?_) <;> conv => whnf) | refine ⟨rfl, ?_⟩ | ((first | refine ⟨trivial, ?_⟩ | refine ⟨le_of_ble rfl, ?_⟩) <;> conv => whnf) | fail
  all_goals exact ret_box1 rfl rfl rfl rfl rfl rfl

theorem among_ok (xs : List Int) (hx : areB xs) (k : Nat) (hk : k ≤ 999000) (s : Int) (l : List Int) (hl : 1 ≤ l.length) (hl2 : l.length ≤ 1000) : ∃ (v : Int) (k' : Nat) (s' : Int), v ∈ l ∧ (k ≤ k' ∧ k' ≤ k + 2) ∧
    CallOk Try.prog 49 [.box 46 (curD xs k s), .imm (.list (l.map intRow))] { res := [.imm (.int .i64 v)], muts := [.box 46 ((curD xs k' s').map .imm)], sep := false } := by
  have hll : ((l.map intRow).length : Int) = l.length := by rw [List.length_map]
  obtain ⟨i, k', s', hi, hk', hc⟩ := pick_ok xs hx k hk s ((l.map intRow).length : Int)
  have hi2 := hi.2 (by omega)
  obtain ⟨j, rfl⟩ := Int.eq_ofNat_of_zero_le hi.1
  have hlt : j < l.length := by omega
  have hg : l[j]? = some l[j] := List.getElem?_eq_getElem hlt
  have hr := row_at intRow hg
  refine ⟨l[j], k', s', List.getElem_mem hlt, hk', ?_⟩
  refine callOk_of tyOk Try.func49 rfl rfl (le_of_ble rfl) (le_of_ble rfl) (mutOk_box0 rfl) ?_
  repeat' first | refine go_seq ?_ | refine go_region ?_ | ((first | refine go_op rfl ?_ | refine go_nil ?_ | refine go_call [2] (hc) rfl rfl rfl rfl ?_ | refine go_idx rfl rfl rfl rfl (by omega) hr rfl ?_) <;> conv => whnf) | ((first | refine go_loadB ?_ | refine ⟨by kernel_rfl, ?_⟩ | refine go_ret ?_) <;> conv => whnf) | ((first | refine go_skip ?_) <;> conv => whnf) | refine ⟨rfl, ?_⟩ | ((first | refine ⟨trivial, ?_⟩ | refine ⟨le_of_ble rfl, ?_⟩) <;> conv => whnf) | fail
  all_goals first
    | exact ret_box1 rfl rfl rfl rfl rfl rfl
    | trace_state

theorem time_ok (xs : List Int) (hx : areB xs) (k : Nat) (hk : k ≤ 900000) (s : Int) : ∃ (v : Int) (k' : Nat) (s' : Int), (-1 ≤ v ∧ v ≤ 1800) ∧ (k ≤ k' ∧ k' ≤ k + 4) ∧
    CallOk Try.prog 30 [.box 46 (curD xs k s)] { res := [.imm (.int .i64 v)], muts := [.box 46 ((curD xs k' s').map .imm)], sep := false } := by
  obtain ⟨b, k1, s1, hk1, hc1⟩ := one_ok xs hx k (by omega) s 16
  cases b with
  | true =>
    obtain ⟨v, k2, s2, hv, hk2, hc2⟩ := among_ok xs hx k1 (by omega) s1 [0, 1799, 1800, -1, 1440, 1439] (by decide) (by decide)
    have hv2 : -1 ≤ v ∧ v ≤ 1800 := by
      simp only [List.mem_cons, List.not_mem_nil, or_false] at hv
      omega
    refine ⟨v, k2, s2, hv2, by omega, ?_⟩
    refine callOk_of tyOk Try.func30 rfl rfl (le_of_ble rfl) (le_of_ble rfl) (mutOk_box0 rfl) ?_
    repeat' first | refine go_seq ?_ | refine go_region ?_ | ((first | refine go_op rfl ?_ | refine go_nil ?_ | refine go_call [2] (hc1) rfl rfl rfl rfl ?_ | refine go_call [2, 1] (hc2) rfl rfl rfl rfl ?_) <;> conv => whnf) | ((first | refine ⟨by kernel_rfl, ?_⟩ | refine go_ret ?_) <;> conv => whnf) | ((first | refine go_skip ?_) <;> conv => whnf) | refine go_true rfl ?_ | refine go_false rfl ?_ | refine go_cond rfl (fun h => ?_) (fun h => ?_) | refine ⟨rfl, ?_⟩ | ((first | refine ⟨trivial, ?_⟩ | refine ⟨le_of_ble rfl, ?_⟩) <;> conv => whnf) | fail
    all_goals first
      | exact ret_box1 rfl rfl rfl rfl rfl rfl
      | trace_state
  | false =>
    obtain ⟨v, k2, s2, hv, hk2, hc2⟩ := pick_ok xs hx k1 (by omega) s1 240
    have hv2 := hv.2 (by omega)
    have e1 : IntKind.i64.wrap (360 + v) = 360 + v := wrap_small (by omega) (by omega)
    refine ⟨360 + v, k2, s2, by omega, by omega, ?_⟩
    refine callOk_of tyOk Try.func30 rfl rfl (le_of_ble rfl) (le_of_ble rfl) (mutOk_box0 rfl) ?_
    repeat' first | refine go_seq ?_ | refine go_region ?_ | ((first | refine go_op rfl ?_ | refine go_nil ?_ | refine go_call [2] (hc1) rfl rfl rfl rfl ?_ | refine go_call [2] (hc2) rfl rfl rfl rfl ?_) <;> conv => whnf) | ((first | refine ⟨by kernel_rfl, ?_⟩ | refine go_ret ?_) <;> conv => whnf) | ((first | refine go_skip ?_) <;> conv => whnf) | refine go_true rfl ?_ | refine go_false rfl ?_ | refine go_cond rfl (fun h => ?_) (fun h => ?_) | refine ⟨rfl, ?_⟩ | ((first | refine ⟨trivial, ?_⟩ | refine ⟨le_of_ble rfl, ?_⟩) <;> conv => whnf) | fail
    all_goals first
      | (refine ret_box1 rfl rfl rfl rfl ?_ rfl
         show D.int .i64 (IntKind.i64.wrap (360 + v)) = _
         rw [e1]
         done)
      | trace_state

/-- A byte of a text. -/
theorem one_byte {l : List UInt8} {i : Nat} (h : i < l.length) : ∃ b, (l.drop i).take 1 = [b] := by
  refine ⟨l[i], ?_⟩
  rw [List.drop_eq_getElem_cons h]
  rfl
theorem spoilt_ok (xs : List Int) (hx : areB xs) (k : Nat) (hk : k ≤ 900000) (s : Int) (t w : List UInt8) (ht : 1 ≤ t.length) (ht2 : t.length ≤ 1000) (hw : 1 ≤ w.length) (hw2 : w.length ≤ 1000) : ∃ (v : List UInt8) (k' : Nat) (s' : Int), v.length ≤ 1001 ∧ (k ≤ k' ∧ k' ≤ k + 6) ∧
    CallOk Try.prog 29 [.box 46 (curD xs k s), .imm (.str (ofL t)), .imm (.str (ofL w))] { res := [.imm (.str (ofL v))], muts := [.box 46 ((curD xs k' s').map .imm)], sep := false } := by
  have hne : (ofL t == ByteArray.empty) = false := by
    have h1 : ByteArray.empty = ofL [] := rfl
    rw [h1, beqL]
    exact decide_eq_false (fun e => by rw [e] at ht; simp at ht)
  obtain ⟨i, k1, s1, hi, hk1, hc1⟩ := pick_ok xs hx k (by omega) s ((ofL t).size : Int)
  obtain ⟨j, k2, s2, hj, hk2, hc2⟩ := pick_ok xs hx k1 (by omega) s1 ((ofL w).size : Int)
  obtain ⟨c, k3, s3, hc, hk3, hc3⟩ := pick_ok xs hx k2 (by omega) s2 3
  have hst : ((ofL t).size : Int) = t.length := by rw [ofL_size]
  have hsw : ((ofL w).size : Int) = w.length := by rw [ofL_size]
  have hi2 := hi.2 (by omega)
  have hj2 := hj.2 (by omega)
  obtain ⟨i, rfl⟩ := Int.eq_ofNat_of_zero_le hi.1
  obtain ⟨j, rfl⟩ := Int.eq_ofNat_of_zero_le hj.1
  obtain ⟨b, hb⟩ := one_byte (l := w) (i := j) (by omega)
  have hwd : (w.drop j).length = w.length - j := List.length_drop
  have hi1 : IntKind.i64.wrap ((i : Int) + 1) = ((i + 1 : Nat) : Int) := by rw [wrap_small (by omega) (by omega)]; omega
  have hb' : ((w.drop j).drop 0).take (1 - 0) = [b] := hb
  have hL : (w.drop j).take (w.length - j) = w.drop j := by rw [List.take_of_length_le (by omega)]
  have hT0 : (t.drop 0).take (i - 0) = t.take i := rfl
  have hT1 : (t.drop i).take (t.length - i) = t.drop i := by rw [List.take_of_length_le (by rw [List.length_drop]; omega)]
  have hT2 : (t.drop (i + 1)).take (t.length - (i + 1)) = t.drop (i + 1) := by rw [List.take_of_length_le (by rw [List.length_drop]; omega)]
  have hd1 : (t.take i).length = i := by rw [List.length_take]; omega
  have hd2 : (t.drop i).length = t.length - i := List.length_drop
  have hd3 : (t.drop (i + 1)).length = t.length - (i + 1) := List.length_drop
  by_cases h0 : c = 0
  · subst h0
    refine ⟨t.take i ++ [b] ++ t.drop i, k3, s3, by simp only [List.length_append, hd1, hd2, List.length_cons, List.length_nil]; omega, by omega, ?_⟩
    refine callOk_of tyOk Try.func29 rfl rfl (le_of_ble rfl) (le_of_ble rfl) (mutOk_box0 rfl) ?_
    repeat' first | refine go_seq ?_ | refine go_region ?_ | refine go_draw drawsOk ?_ | ((first | refine go_op rfl ?_ | refine go_nil ?_ | refine go_dop rfl ?_ | refine go_dend (by kernel_rfl) ?_ | refine go_call [2] (hc1) rfl rfl rfl rfl ?_ | refine go_call [2] (hc2) rfl rfl rfl rfl ?_ | refine go_call [2] (hc3) rfl rfl rfl rfl ?_ | refine go_sliceR (l := w) j w.length _ rfl rfl rfl (by show some _ = some _; rw [hsw]) (by omega) (by omega) hL ?_ | refine go_sliceR (l := w.drop j) 0 1 _ rfl rfl rfl rfl (by omega) (by omega) hb' ?_ | refine go_sliceR (l := t) 0 i _ rfl rfl rfl rfl (by omega) (by omega) hT0 ?_ | refine go_sliceR (l := t) i t.length _ rfl rfl rfl (by show some _ = some _; rw [hst]) (by omega) (by omega) hT1 ?_ | refine ⟨by simp only [ByteArray.size_append, ofL_size, hd1, hd2, List.length_cons, List.length_nil]; omega, ?_⟩) <;> conv => whnf) | ((first | refine ⟨by kernel_rfl, ?_⟩ | refine go_ret ?_) <;> conv => whnf) | refine go_block ?_ | ((first | refine go_skip ?_ | refine go_exit ?_) <;> conv => whnf) | refine go_true rfl ?_ | refine go_false rfl ?_ | refine go_cond rfl (fun h => ?_) (fun h => ?_) | refine ⟨rfl, ?_⟩ | ((first | refine ⟨trivial, ?_⟩ | refine ⟨le_of_ble rfl, ?_⟩) <;> conv => whnf) | fail
    all_goals first
      | (refine ret_box1 rfl rfl rfl rfl ?_ rfl
         show D.str (ofL (t.take i) ++ ofL [b] ++ ofL (t.drop i)) = _
         rw [ofL_app, ofL_app]
         done)
      | (exfalso; simp at h; done)
      | (exfalso; rw [hne] at h; cases h; done)
      | (exfalso; have h' : (ofL t == ByteArray.empty) = true := h; rw [hne] at h'; cases h'; done)
      | trace_state
  · by_cases h1 : c = 1
    · subst h1
      refine ⟨t.take i ++ [b] ++ t.drop (i + 1), k3, s3, by simp only [List.length_append, hd1, hd3, List.length_cons, List.length_nil]; omega, by omega, ?_⟩
      refine callOk_of tyOk Try.func29 rfl rfl (le_of_ble rfl) (le_of_ble rfl) (mutOk_box0 rfl) ?_
      repeat' first | refine go_seq ?_ | refine go_region ?_ | refine go_draw drawsOk ?_ | ((first | refine go_op rfl ?_ | refine go_nil ?_ | refine go_dop rfl ?_ | refine go_dend (by kernel_rfl) ?_ | refine go_call [2] (hc1) rfl rfl rfl rfl ?_ | refine go_call [2] (hc2) rfl rfl rfl rfl ?_ | refine go_call [2] (hc3) rfl rfl rfl rfl ?_ | refine go_sliceR (l := w) j w.length _ rfl rfl rfl (by show some _ = some _; rw [hsw]) (by omega) (by omega) hL ?_ | refine go_sliceR (l := w.drop j) 0 1 _ rfl rfl rfl rfl (by omega) (by omega) hb' ?_ | refine go_sliceR (l := t) 0 i _ rfl rfl rfl rfl (by omega) (by omega) hT0 ?_ | refine go_sliceR (l := t) (i + 1) t.length _ rfl rfl (by show some _ = some _; rw [hi1]) (by show some _ = some _; rw [hst]) (by omega) (by omega) hT2 ?_ | refine ⟨by simp only [ByteArray.size_append, ofL_size, hd1, hd3, List.length_cons, List.length_nil]; omega, ?_⟩) <;> conv => whnf) | ((first | refine ⟨by kernel_rfl, ?_⟩ | refine go_ret ?_) <;> conv => whnf) | refine go_block ?_ | ((first | refine go_skip ?_ | refine go_exit ?_) <;> conv => whnf) | refine go_true rfl ?_ | refine go_false rfl ?_ | refine go_cond rfl (fun h => ?_) (fun h => ?_) | refine ⟨rfl, ?_⟩ | ((first | refine ⟨trivial, ?_⟩ | refine ⟨le_of_ble rfl, ?_⟩) <;> conv => whnf) | fail
      all_goals first
        | (refine ret_box1 rfl rfl rfl rfl ?_ rfl
           show D.str (ofL (t.take i) ++ ofL [b] ++ ofL (t.drop (i + 1))) = _
           rw [ofL_app, ofL_app]
           done)
        | (exfalso; simp at h; done)
        | (exfalso; have h' : (ofL t == ByteArray.empty) = true := h; rw [hne] at h'; cases h'; done)
        | trace_state
    · have d0 : decide (c = 0) = false := decide_eq_false h0
      have d1 : decide (c = 1) = false := decide_eq_false h1
      refine ⟨t.take i ++ t.drop (i + 1), k3, s3, by simp only [List.length_append, hd1, hd3]; omega, by omega, ?_⟩
      refine callOk_of tyOk Try.func29 rfl rfl (le_of_ble rfl) (le_of_ble rfl) (mutOk_box0 rfl) ?_
      repeat' first | refine go_seq ?_ | refine go_region ?_ | refine go_draw drawsOk ?_ | ((first | refine go_op rfl ?_ | refine go_nil ?_ | refine go_dop rfl ?_ | refine go_dend (by kernel_rfl) ?_ | refine go_call [2] (hc1) rfl rfl rfl rfl ?_ | refine go_call [2] (hc2) rfl rfl rfl rfl ?_ | refine go_call [2] (hc3) rfl rfl rfl rfl ?_ | refine go_sliceR (l := w) j w.length _ rfl rfl rfl (by show some _ = some _; rw [hsw]) (by omega) (by omega) hL ?_ | refine go_sliceR (l := w.drop j) 0 1 _ rfl rfl rfl rfl (by omega) (by omega) hb' ?_ | refine go_sliceR (l := t) 0 i _ rfl rfl rfl rfl (by omega) (by omega) hT0 ?_ | refine go_sliceR (l := t) (i + 1) t.length _ rfl rfl (by show some _ = some _; rw [hi1]) (by show some _ = some _; rw [hst]) (by omega) (by omega) hT2 ?_ | refine ⟨by simp only [ByteArray.size_append, ofL_size, hd1, hd3, List.length_cons, List.length_nil]; omega, ?_⟩) <;> conv => whnf) | ((first | refine ⟨by kernel_rfl, ?_⟩ | refine go_ret ?_) <;> conv => whnf) | refine go_block ?_ | ((first | refine go_skip ?_ | refine go_exit ?_) <;> conv => whnf) | refine go_true rfl ?_ | refine go_false rfl ?_ | refine go_cond rfl (fun h => ?_) (fun h => ?_) | refine ⟨rfl, ?_⟩ | ((first | refine ⟨trivial, ?_⟩ | refine ⟨le_of_ble rfl, ?_⟩) <;> conv => whnf) | fail
      all_goals first
        | (refine ret_box1 rfl rfl rfl rfl ?_ rfl
           show D.str (ofL (t.take i) ++ ofL (t.drop (i + 1))) = _
           rw [ofL_app]
           done)
        | (exfalso; rw [d0] at h; cases h; done)
        | (exfalso; rw [d1] at h; cases h; done)
        | (exfalso; have h' : (ofL t == ByteArray.empty) = true := h; rw [hne] at h'; cases h'; done)
        | trace_state
end Go.Proofs.Ytobnoplkpmdeiaa

