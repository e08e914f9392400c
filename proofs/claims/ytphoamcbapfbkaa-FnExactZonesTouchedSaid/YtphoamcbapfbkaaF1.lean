/- The walks of the laws' own helpers over prices and legs. MADE BY PROGRAM (nest.py). -/
import Derived.Test.YtphoamcbapfbkaaF0
namespace Go.Proofs.Ytphoamcbapfbkaa
open Go Go.Am
set_option maxRecDepth 100000
set_option maxHeartbeats 4000000
attribute [local irreducible] amOps amC opCall opIndexAddr opPick retQ opMake opStore amDraw opAppend opLoad opNilCmp opIndex opSlice

structure Prices where
  zones : List Int
  day : Int
  week : Int

def Prices.enc (v : Prices) : List D := [.list (v.zones.map intRow), .int .i64 v.day, .int .i64 v.week]
def Prices.ok (v : Prices) : Prop := v.zones.length ≤ 9223372036854775807 ∧ (∀ x ∈ v.zones, i64 x) ∧ i64 v.day ∧ i64 v.week
def Prices.fit (v : Prices) : Prop := v.zones.length ≤ 1048576

def szPrices (n : Int) (v : Prices) : Int := szIntS n v.zones
theorem szPrices_sz : Sz szPrices := (szIntS_sz.on (fun v : Prices => v.zones))

theorem c17 (v : Prices) (hok : v.ok) (n : Int) (h0 : 0 ≤ n) (h1 : n ≤ 1048576) : CallOk Try.prog 17 [.imm (.agg v.enc), .imm (.int .i64 n)] { res := [.imm (.int .i64 (szPrices n v))] } := by
  refine callOk_of tyOk Try.func17 rfl rfl (le_of_ble rfl) (le_of_ble rfl) (mutOk_imm rfl _) ?_
  obtain ⟨k_zones, q_zones, _, _⟩ := hok
  have hres : szPrices n v = szIntS n v.zones := rfl
  have hc0 := c52 v.zones k_zones n (by omega) (by omega)
  have hlo0 := szIntS_sz.lo n v.zones
  have hle0 := szIntS_sz.le n v.zones (by omega)
  generalize hm0 : szIntS n v.zones = m1 at *
  by_cases hb0 : m1 < 0
  · have hn : m1 = -1 := by omega
    have hr : szPrices n v = -1 := by rw [hres, hn]
    repeat' first | refine go_seq ?_ | refine go_region ?_ | ((first | refine go_op rfl ?_ | refine go_nil ?_ | refine go_call [] (hc0) rfl rfl rfl rfl ?_) <;> conv => whnf) | ((first | refine go_loadB ?_ | refine ⟨by kernel_rfl, ?_⟩ | refine go_ret ?_) <;> conv => whnf) | ((first | refine go_skip ?_) <;> conv => whnf) | refine go_true rfl ?_ | refine go_false rfl ?_ | refine go_cond rfl (fun h => ?_) (fun h => ?_) | refine ⟨rfl, ?_⟩ | ((first | refine ⟨trivial, ?_⟩ | refine ⟨le_of_ble rfl, ?_⟩) <;> conv => whnf) | fail
    all_goals first
      | (refine ret_imm rfl rfl rfl rfl ?_ rfl; rw [hr]; done)
      | (refine ret_imm rfl rfl rfl rfl ?_ rfl; rw [hr, hn]; done)
      | (exfalso; have h' := of_decide_eq_false h; omega)
      | (exfalso; have h' := of_decide_eq_true h; omega)
      | (exfalso; rename_i hq; have h' := of_decide_eq_true hq; omega)
      | (exfalso; rename_i hq; have h' := of_decide_eq_false hq; omega)
      | (exfalso; rename_i hq _; have h' := of_decide_eq_true hq; omega)
      | (exfalso; rename_i hq _; have h' := of_decide_eq_false hq; omega)
      | trace_state
  have hr : szPrices n v = m1 := hres
  repeat' first | refine go_seq ?_ | refine go_region ?_ | ((first | refine go_op rfl ?_ | refine go_nil ?_ | refine go_call [] (hc0) rfl rfl rfl rfl ?_) <;> conv => whnf) | ((first | refine go_loadB ?_ | refine ⟨by kernel_rfl, ?_⟩ | refine go_ret ?_) <;> conv => whnf) | ((first | refine go_skip ?_) <;> conv => whnf) | refine go_true rfl ?_ | refine go_false rfl ?_ | refine go_cond rfl (fun h => ?_) (fun h => ?_) | refine ⟨rfl, ?_⟩ | ((first | refine ⟨trivial, ?_⟩ | refine ⟨le_of_ble rfl, ?_⟩) <;> conv => whnf) | fail
  all_goals first
    | (refine ret_imm rfl rfl rfl rfl ?_ rfl; rw [hr]; done)
    | (exfalso; have h' := of_decide_eq_false h; omega)
    | (exfalso; have h' := of_decide_eq_true h; omega)
    | (exfalso; rename_i hq; have h' := of_decide_eq_true hq; omega)
    | (exfalso; rename_i hq; have h' := of_decide_eq_false hq; omega)
    | (exfalso; rename_i hq _; have h' := of_decide_eq_true hq; omega)
    | (exfalso; rename_i hq _; have h' := of_decide_eq_false hq; omega)
    | trace_state

theorem szPrices_fit {n : Int} {v : Prices} (h1 : n ≤ 1048576) (h : 0 ≤ szPrices n v) : v.fit := by
  obtain ⟨a0, b0, _⟩ := less_pos (k := v.zones.length) h
  show v.zones.length ≤ 1048576
  omega

theorem c20 (v : Prices) (hf : v.fit) : CallOk Try.prog 20 [.imm (.agg v.enc)] { res := [.imm (.agg v.enc)], sep := false } := by
  refine callOk_of tyOk Try.func20 rfl rfl (le_of_ble rfl) (le_of_ble rfl) (mutOk_imm rfl _) ?_
  have k_zones := hf
  repeat' first | refine go_seq ?_ | refine go_region ?_ | ((first | refine go_op rfl ?_ | refine go_nil ?_ | refine go_storeBox rfl rfl rfl rfl rfl rfl ?_ | refine go_call [] (c10 v.zones k_zones) rfl rfl rfl rfl ?_) <;> conv => whnf) | ((first | refine go_loadB ?_ | refine ⟨by kernel_rfl, ?_⟩ | refine go_ret ?_) <;> conv => whnf) | ((first | refine go_skip ?_) <;> conv => whnf) | refine ⟨rfl, ?_⟩ | ((first | refine ⟨trivial, ?_⟩ | refine ⟨le_of_ble rfl, ?_⟩) <;> conv => whnf) | fail
  all_goals exact ret_immN rfl rfl rfl rfl rfl

theorem c23s (v : Prices) (hf : v.fit) : CallOk Try.prog 23 [.imm (.agg v.enc), .imm (.agg v.enc)] { res := [.imm (.bool true)] } := by
  refine callOk_of tyOk Try.func23 rfl rfl (le_of_ble rfl) (le_of_ble rfl) (mutOk_imm rfl _) ?_
  have k_zones := hf
  repeat' first | refine go_seq ?_ | refine go_region ?_ | ((first | refine go_op rfl ?_ | refine go_nil ?_ | refine go_call [] (c12s v.zones k_zones) rfl rfl rfl rfl ?_) <;> conv => whnf) | ((first | refine go_loadB ?_ | refine ⟨by kernel_rfl, ?_⟩ | refine go_ret ?_) <;> conv => whnf) | ((first | refine go_skip ?_) <;> conv => whnf) | refine go_true rfl ?_ | refine go_false rfl ?_ | refine go_cond rfl (fun h => ?_) (fun h => ?_) | refine ⟨rfl, ?_⟩ | ((first | refine ⟨trivial, ?_⟩ | refine ⟨le_of_ble rfl, ?_⟩) <;> conv => whnf) | fail
  all_goals first
    | exact ret_imm rfl rfl rfl rfl rfl rfl
    | (exfalso; simp at h; done)
    | (exfalso; simp [str_self] at h; done)

def szIntSS (n : Int) (xs : List (List Int)) : Int := szList szIntS n xs
theorem szIntSS_sz : Sz szIntSS := szList_sz szIntS_sz

theorem c18 (xs : List (List Int)) (hok : ∀ v ∈ xs, (fun l : List Int => l.length ≤ 9223372036854775807) v) (hl : xs.length ≤ 9223372036854775807) (n : Int) (h0 : 0 ≤ n) (h1 : n ≤ 1048576) : CallOk Try.prog 18 [.imm (.list (xs.map intsRow)), .imm (.int .i64 n)] { res := [.imm (.int .i64 (szIntSS n xs))] } := by
  refine callOk_of tyOk Try.func18 rfl rfl (le_of_ble rfl) (le_of_ble rfl) (mutOk_imm rfl _) ?_
  have hlm : (xs.map intsRow).length = xs.length := List.length_map _
  have hw : IntKind.i64.wrap (n - ((xs.map intsRow).length : Int)) = n - xs.length := by rw [hlm]; exact wrap_small (by omega) (by omega)
  have hres : szIntSS n xs = szAll szIntS (less n xs.length) xs := rfl
  by_cases hb : n - (xs.length : Int) < 0
  · have hr : szIntSS n xs = -1 := by rw [hres, less_eq h0, if_pos hb]; exact szAll_neg szIntS_sz xs
    repeat' first | refine go_seq ?_ | refine go_region ?_ | ((first | refine go_op rfl ?_ | refine go_nil ?_) <;> conv => whnf) | ((first | refine go_loadB ?_ | refine ⟨by kernel_rfl, ?_⟩ | refine go_ret ?_) <;> conv => whnf) | refine go_block ?_ | ((first | refine go_skip ?_ | refine go_exit ?_) <;> conv => whnf) | refine go_true rfl ?_ | refine go_false rfl ?_ | refine go_cond rfl (fun h => ?_) (fun h => ?_) | refine ⟨rfl, ?_⟩ | ((first | refine ⟨trivial, ?_⟩ | refine ⟨le_of_ble rfl, ?_⟩) <;> conv => whnf) | fail
    all_goals first
      | (refine ret_imm rfl rfl rfl rfl ?_ rfl; rw [hr]; done)
      | (exfalso; have h' := of_decide_eq_false h; rw [hw] at h'; omega)
  · have hl0 : less n xs.length = n - xs.length := by rw [less_eq h0, if_neg hb]
    repeat' first | refine go_seq ?_ | refine go_region ?_ | ((first | refine go_op rfl ?_ | refine go_nil ?_) <;> conv => whnf) | ((first | refine go_loadB ?_ | refine ⟨by kernel_rfl, ?_⟩ | refine go_ret ?_) <;> conv => whnf) | refine go_block ?_ | ((first | refine go_skip ?_ | refine go_exit ?_) <;> conv => whnf) | refine go_true rfl ?_ | refine go_false rfl ?_ | refine go_cond rfl (fun h => ?_) (fun h => ?_) | refine ⟨rfl, ?_⟩ | ((first | refine ⟨trivial, ?_⟩ | refine ⟨le_of_ble rfl, ?_⟩) <;> conv => whnf) | fail
    · exfalso; have h' := of_decide_eq_true h; rw [hw] at h'; omega
    refine go_loop (α := Nat) (fun i => i ≤ xs.length ∧ 0 ≤ szAll szIntS (less n xs.length) (xs.take i)) (fun i => xs.length - i)
      (fun i => st Try.f18.ntmps [(0, .imm (.list (xs.map intsRow))), (1, .imm (.int .i64 (szAll szIntS (less n xs.length) (xs.take i)))), (5, .imm (.int .i64 (i : Nat)))] [] []) 0 ⟨Nat.zero_le _, by show 0 ≤ less n xs.length; omega⟩ (ref_st0 rfl ⟨rfl, ?_, rfl, trivial⟩ rfl) ?_
    · show AV.imm (D.int _ _) = _
      rw [hw, List.take_zero, ← hl0]; rfl
    rintro i ⟨hi, ha⟩
    have hup := szAll_le szIntS_sz (xs.take i) (less n xs.length) (less_sz.lo _ _)
    cases hx : xs[i]? with
    | none =>
      have hge := le_of_at hx
      repeat' first | refine go_seq ?_ | refine go_region ?_ | ((first | refine go_op rfl ?_ | refine go_nil ?_) <;> conv => whnf) | ((first | refine go_loadB ?_ | refine ⟨by kernel_rfl, ?_⟩ | refine go_ret ?_) <;> conv => whnf) | refine go_block ?_ | ((first | refine go_skip ?_ | refine go_exit ?_) <;> conv => whnf) | refine go_true rfl ?_ | refine go_false rfl ?_ | refine go_cond rfl (fun h => ?_) (fun h => ?_) | refine ⟨rfl, ?_⟩ | ((first | refine ⟨trivial, ?_⟩ | refine ⟨le_of_ble rfl, ?_⟩) <;> conv => whnf) | fail
      all_goals first
        | (exfalso; have h' := of_decide_eq_true h; omega)
        | exact ret_imm rfl rfl rfl rfl (by rw [hres, szAll_end hge]) rfl
    | some v =>
      have hlt := lt_of_at hx
      have hr := row_at intsRow hx
      have hv := hok v (List.mem_of_getElem? hx)
      have hnx := szAll_take (f := szIntS) (n := less n xs.length) hx
      have hlo := szIntS_sz.lo (szAll szIntS (less n xs.length) (xs.take i)) v
      generalize hm : szAll szIntS (less n xs.length) (xs.take i) = m at *
      have hc := c52 v hv m (by omega) (by omega)
      repeat' first | refine go_seq ?_ | refine go_region ?_ | ((first | refine go_op rfl ?_ | refine go_nil ?_ | refine go_call [] (hc) rfl rfl rfl rfl ?_ | refine go_idx rfl rfl rfl rfl (by omega) hr rfl ?_) <;> conv => whnf) | ((first | refine go_loadB ?_ | refine ⟨by kernel_rfl, ?_⟩ | refine go_ret ?_) <;> conv => whnf) | refine go_block ?_ | ((first | refine go_skip ?_ | refine go_exit ?_) <;> conv => whnf) | refine go_true rfl ?_ | refine go_false rfl ?_ | refine go_cond rfl (fun h => ?_) (fun h => ?_) | refine ⟨rfl, ?_⟩ | ((first | refine ⟨trivial, ?_⟩ | refine ⟨le_of_ble rfl, ?_⟩) <;> conv => whnf) | fail
      all_goals first
        | (exfalso; have h' := of_decide_eq_false h; omega)
        | (have h' := of_decide_eq_true h
           exact ret_imm rfl rfl rfl rfl (by rw [hres, szAll_stop szIntS_sz (i := i + 1) (by rw [hnx]; omega)]) rfl)
        | (have h' := of_decide_eq_false h
           exact go_next (i + 1) ⟨by omega, by rw [hnx]; omega⟩ (by omega) (ref_st0 rfl ⟨rfl, by show AV.imm (D.int _ _) = _; rw [hnx], next_i (by omega), trivial⟩ rfl))

theorem c21 (xs : List (List Int)) (hall : ∀ v ∈ xs, (fun l : List Int => l.length ≤ 1048576) v) (hl : xs.length ≤ 1048576) : CallOk Try.prog 21 [.imm (.list (xs.map intsRow))] { res := [.imm (.list (xs.map intsRow))], sep := false } := by
  refine callOk_of tyOk Try.func21 rfl rfl (le_of_ble rfl) (le_of_ble rfl) (mutOk_imm rfl _) ?_
  repeat' first | refine go_seq ?_ | refine go_region ?_ | ((first | refine go_op rfl ?_ | refine go_nil ?_ | refine go_storeBox rfl rfl rfl rfl rfl rfl ?_ | refine go_makeN rfl rfl rfl rfl rfl rfl rfl rfl rfl (by omega) (by simp; omega) ?_) <;> conv => whnf) | ((first | refine go_loadB ?_ | refine ⟨by kernel_rfl, ?_⟩ | refine go_ret ?_) <;> conv => whnf) | refine go_block ?_ | ((first | refine go_skip ?_ | refine go_exit ?_) <;> conv => whnf) | refine go_true rfl ?_ | refine go_false rfl ?_ | refine go_cond rfl (fun h => ?_) (fun h => ?_) | refine ⟨rfl, ?_⟩ | ((first | refine ⟨trivial, ?_⟩ | refine ⟨le_of_ble rfl, ?_⟩) <;> conv => whnf) | fail
  refine go_loop (α := Nat) (fun i => i ≤ xs.length) (fun i => xs.length - i)
    (fun i => st Try.f21.ntmps [(0, .imm (.list (xs.map intsRow))), (3, .own 1000 0 (xs.map intsRow).length), (4, .imm (.int .i64 (i : Nat)))] [(1000, .arr 26 1 (fill intsRow ty26.zero xs i))] []) 0 (Nat.zero_le _) ?_ ?_
  · refine ref_st (fun _ => nid 2 7) rfl ⟨rfl, ⟨rfl, rfl⟩, rfl, trivial⟩ ⟨?_, trivial⟩ (by simp) rfl (by simp)
    show some _ = some _
    rw [← fill_0, List.length_map]
    rfl
  · intro i hi
    cases hx : xs[i]? with
    | none =>
      have hge := le_of_at hx
      repeat' first | refine go_seq ?_ | refine go_region ?_ | ((first | refine go_op rfl ?_ | refine go_nil ?_ | refine go_storeBox rfl rfl rfl rfl rfl rfl ?_) <;> conv => whnf) | ((first | refine go_loadB ?_ | refine ⟨by kernel_rfl, ?_⟩ | refine go_ret ?_) <;> conv => whnf) | refine go_block ?_ | ((first | refine go_skip ?_ | refine go_exit ?_) <;> conv => whnf) | refine go_true rfl ?_ | refine go_false rfl ?_ | refine go_cond rfl (fun h => ?_) (fun h => ?_) | refine ⟨rfl, ?_⟩ | ((first | refine ⟨trivial, ?_⟩ | refine ⟨le_of_ble rfl, ?_⟩) <;> conv => whnf) | fail
      · exfalso; simp at *; omega
      · exact ret_ownN rfl rfl rfl rfl rfl (by rw [fill_end _ _ _ hge]; simp [List.take_of_length_le])
    | some v =>
      have hlt := lt_of_at hx
      have hr := row_at intsRow hx
      repeat' first | refine go_seq ?_ | refine go_region ?_ | ((first | refine go_op rfl ?_ | refine go_nil ?_ | refine go_storeBox rfl rfl rfl rfl rfl rfl ?_ | refine go_call [] (c10 v (hall v (List.mem_of_getElem? hx))) rfl rfl rfl rfl ?_ | refine go_idx rfl rfl rfl rfl (by omega) (by assumption) rfl ?_ | refine go_idxOwn rfl rfl rfl rfl rfl rfl (by simp; omega) ?_ | refine go_storeRow rfl rfl rfl rfl (fill_at _ _ hx) rfl rfl (fill_set _ _ hx) ?_) <;> conv => whnf) | ((first | refine go_loadB ?_ | refine ⟨by kernel_rfl, ?_⟩ | refine go_ret ?_) <;> conv => whnf) | refine go_block ?_ | ((first | refine go_skip ?_ | refine go_exit ?_) <;> conv => whnf) | refine go_true rfl ?_ | refine go_false rfl ?_ | refine go_cond rfl (fun h => ?_) (fun h => ?_) | refine ⟨rfl, ?_⟩ | ((first | refine ⟨trivial, ?_⟩ | refine ⟨le_of_ble rfl, ?_⟩) <;> conv => whnf) | fail
      · exact go_next (i + 1) (by omega) (by omega) (ref_st id rfl ⟨rfl, ⟨rfl, rfl⟩, next_i (by omega), trivial⟩ ⟨rfl, trivial⟩ (by simp) rfl (by simp))
      · exfalso; simp at *; omega

theorem c24s (xs : List (List Int)) (hall : ∀ v ∈ xs, (fun l : List Int => l.length ≤ 1048576) v) (hl : xs.length ≤ 1048576) : CallOk Try.prog 24 [.imm (.list (xs.map intsRow)), .imm (.list (xs.map intsRow))] { res := [.imm (.bool true)] } := by
  refine callOk_of tyOk Try.func24 rfl rfl (le_of_ble rfl) (le_of_ble rfl) (mutOk_imm rfl _) ?_
  repeat' first | refine go_seq ?_ | refine go_region ?_ | refine go_draw drawsOk ?_ | ((first | refine go_op rfl ?_ | refine go_nil ?_ | refine go_dop rfl ?_ | refine go_dend (by kernel_rfl) ?_) <;> conv => whnf) | ((first | refine go_loadB ?_ | refine ⟨by kernel_rfl, ?_⟩ | refine go_ret ?_) <;> conv => whnf) | refine go_block ?_ | ((first | refine go_skip ?_ | refine go_exit ?_) <;> conv => whnf) | refine go_true rfl ?_ | refine go_false rfl ?_ | refine go_cond rfl (fun h => ?_) (fun h => ?_) | refine ⟨rfl, ?_⟩ | ((first | refine ⟨trivial, ?_⟩ | refine ⟨le_of_ble rfl, ?_⟩) <;> conv => whnf) | fail
  · exfalso; simp at h
  refine go_loop (α := Nat) (fun i => i ≤ xs.length) (fun i => xs.length - i) (fun i => st Try.f24.ntmps [(0, .imm (.list (xs.map intsRow))), (1, .imm (.list (xs.map intsRow))), (5, .imm (.int .i64 (i : Nat)))] [] []) 0
    (Nat.zero_le _) (ref_st0 rfl ⟨rfl, rfl, rfl, trivial⟩ rfl) ?_
  intro i hi
  cases hx : xs[i]? with
  | none =>
    have hge := le_of_at hx
    repeat' first | refine go_seq ?_ | refine go_region ?_ | refine go_draw drawsOk ?_ | ((first | refine go_op rfl ?_ | refine go_nil ?_ | refine go_dop rfl ?_ | refine go_dend (by kernel_rfl) ?_) <;> conv => whnf) | ((first | refine go_loadB ?_ | refine ⟨by kernel_rfl, ?_⟩ | refine go_ret ?_) <;> conv => whnf) | refine go_block ?_ | ((first | refine go_skip ?_ | refine go_exit ?_) <;> conv => whnf) | refine go_true rfl ?_ | refine go_false rfl ?_ | refine go_cond rfl (fun h => ?_) (fun h => ?_) | refine ⟨rfl, ?_⟩ | ((first | refine ⟨trivial, ?_⟩ | refine ⟨le_of_ble rfl, ?_⟩) <;> conv => whnf) | fail
    all_goals first
      | (exfalso; simp at h; omega)
      | exact ret_imm rfl rfl rfl rfl rfl rfl
  | some v =>
    have hlt := lt_of_at hx
    have hr := row_at intsRow hx
    repeat' first | refine go_seq ?_ | refine go_region ?_ | refine go_draw drawsOk ?_ | ((first | refine go_op rfl ?_ | refine go_nil ?_ | refine go_dop rfl ?_ | refine go_dend (by kernel_rfl) ?_ | refine go_call [] (c12s v (hall v (List.mem_of_getElem? hx))) rfl rfl rfl rfl ?_ | refine go_idx rfl rfl rfl rfl (by omega) hr rfl ?_) <;> conv => whnf) | ((first | refine go_loadB ?_ | refine ⟨by kernel_rfl, ?_⟩ | refine go_ret ?_) <;> conv => whnf) | refine go_block ?_ | ((first | refine go_skip ?_ | refine go_exit ?_) <;> conv => whnf) | refine go_true rfl ?_ | refine go_false rfl ?_ | refine go_cond rfl (fun h => ?_) (fun h => ?_) | refine ⟨rfl, ?_⟩ | ((first | refine ⟨trivial, ?_⟩ | refine ⟨le_of_ble rfl, ?_⟩) <;> conv => whnf) | fail
    all_goals first
      | (exact go_next (i + 1) (by omega) (by omega) (ref_st0 rfl ⟨rfl, rfl, next_i (by omega), trivial⟩ rfl))
      | (exfalso; simp at h; done)
      | (exfalso; simp [str_self] at h; done)
      | (exfalso; simp at h; omega)

end Go.Proofs.Ytphoamcbapfbkaa

