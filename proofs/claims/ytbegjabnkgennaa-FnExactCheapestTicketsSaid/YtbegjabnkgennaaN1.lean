/- The walks of the laws' own helpers over prices and rides: their size, their copy, their comparison. MADE BY PROGRAM (nest.py). -/
import Derived.Test.YtbegjabnkgennaaB1
namespace Go.Proofs.Ytbegjabnkgennaa
open Go Go.Am
set_option maxRecDepth 100000
set_option maxHeartbeats 4000000
attribute [local irreducible] amOps amC opCall opIndexAddr opPick retQ opMake opStore amDraw opAppend opLoad opNilCmp opIndex opSlice

def intsRow (l : List Int) : List D := [.list (l.map intRow)]

def szIntS (n : Int) (xs : List Int) : Int := less n xs.length
theorem szIntS_sz : Sz szIntS := less_sz.on List.length

theorem c17 (xs : List Int) (hl : xs.length ≤ 9223372036854775807) (n : Int) (h0 : 0 ≤ n) (h1 : n ≤ 1048576) : CallOk Try.prog 17 [.imm (.list (xs.map intRow)), .imm (.int .i64 n)] { res := [.imm (.int .i64 (szIntS n xs))] } := by
  refine callOk_of tyOk Try.func17 rfl rfl (le_of_ble rfl) (le_of_ble rfl) (mutOk_imm rfl _) ?_
  have hlm : (xs.map intRow).length = xs.length := List.length_map _
  have hw : IntKind.i64.wrap (n - ((xs.map intRow).length : Int)) = n - xs.length := by rw [hlm]; exact wrap_small (by omega) (by omega)
  have hres : szIntS n xs = if n - (xs.length : Int) < 0 then -1 else n - xs.length := less_eq h0
  repeat' first | refine go_seq ?_ | refine go_region ?_ | ((first | refine go_op rfl ?_ | refine go_nil ?_) <;> conv => whnf) | ((first | refine ⟨by kernel_rfl, ?_⟩ | refine go_ret ?_) <;> conv => whnf) | ((first | refine go_skip ?_) <;> conv => whnf) | refine go_true rfl ?_ | refine go_false rfl ?_ | refine go_cond rfl (fun h => ?_) (fun h => ?_) | refine ⟨rfl, ?_⟩ | ((first | refine ⟨trivial, ?_⟩ | refine ⟨le_of_ble rfl, ?_⟩) <;> conv => whnf) | fail
  all_goals first
    | (have h' := of_decide_eq_true h
       rw [hw] at h'
       exact ret_imm rfl rfl rfl rfl (by rw [hres, if_pos h']) rfl)
    | (have h' := of_decide_eq_false h
       rw [hw] at h'
       exact ret_imm rfl rfl rfl rfl (by rw [hres, if_neg h', hw]) rfl)

theorem c24 (xs : List Int) (hl : xs.length ≤ 1048576) : CallOk Try.prog 24 [.imm (.list (xs.map intRow))] { res := [.imm (.list (xs.map intRow))] } := by
  refine callOk_of tyOk Try.func24 rfl rfl (le_of_ble rfl) (le_of_ble rfl) (mutOk_imm rfl _) ?_
  repeat' first | refine go_seq ?_ | refine go_region ?_ | ((first | refine go_op rfl ?_ | refine go_nil ?_ | refine go_storeBox rfl rfl rfl rfl rfl rfl ?_ | refine go_makeN rfl rfl rfl rfl rfl rfl rfl rfl rfl (by omega) (by simp; omega) ?_) <;> conv => whnf) | ((first | refine go_loadB ?_ | refine ⟨by kernel_rfl, ?_⟩ | refine go_ret ?_) <;> conv => whnf) | refine go_block ?_ | ((first | refine go_skip ?_ | refine go_exit ?_) <;> conv => whnf) | refine go_true rfl ?_ | refine go_false rfl ?_ | refine go_cond rfl (fun h => ?_) (fun h => ?_) | refine ⟨rfl, ?_⟩ | ((first | refine ⟨trivial, ?_⟩ | refine ⟨le_of_ble rfl, ?_⟩) <;> conv => whnf) | fail
  refine go_loop (α := Nat) (fun i => i ≤ xs.length) (fun i => xs.length - i)
    (fun i => st Try.f24.ntmps [(0, .imm (.list (xs.map intRow))), (3, .own 1000 0 (xs.map intRow).length), (4, .imm (.int .i64 (i : Nat)))] [(1000, .arr 3 1 (fill intRow ty3.zero xs i))] []) 0 (Nat.zero_le _) ?_ ?_
  · refine ref_st (fun _ => nid 2 7) rfl ⟨rfl, ⟨rfl, rfl⟩, rfl, trivial⟩ ⟨?_, trivial⟩ (by simp) rfl (by simp)
    show some _ = some _
    rw [← fill_0, List.length_map]
    rfl
  · intro i hi
    cases hx : xs[i]? with
    | none =>
      have hge := le_of_at hx
      repeat' first | refine go_seq ?_ | refine go_region ?_ | ((first | refine go_op rfl ?_ | refine go_nil ?_ | refine go_storeBox rfl rfl rfl rfl rfl rfl ?_) <;> conv => whnf) | ((first | refine go_loadB ?_ | refine ⟨by kernel_rfl, ?_⟩ | refine go_ret ?_) <;> conv => whnf) | refine go_block ?_ | ((first | refine go_skip ?_ | refine go_exit ?_) <;> conv => whnf) | refine go_true rfl ?_ | refine go_false rfl ?_ | refine go_cond rfl (fun h => ?_) (fun h => ?_) | refine ⟨rfl, ?_⟩ | ((first | refine ⟨trivial, ?_⟩ | refine ⟨le_of_ble rfl, ?_⟩) <;> conv => whnf) | fail
      · exfalso; simp at *; omega
      · refine ret_own rfl rfl rfl rfl rfl ?_ (int_gr xs)
        rw [fill_end _ _ _ hge]
        simp [List.take_of_length_le]
    | some v =>
      have hlt := lt_of_at hx
      have hr := row_at intRow hx
      repeat' first | refine go_seq ?_ | refine go_region ?_ | ((first | refine go_op rfl ?_ | refine go_nil ?_ | refine go_storeBox rfl rfl rfl rfl rfl rfl ?_ | refine go_idx rfl rfl rfl rfl (by omega) (by assumption) rfl ?_ | refine go_idxOwn rfl rfl rfl rfl rfl rfl (by simp; omega) ?_ | refine go_storeRow rfl rfl rfl rfl (fill_at _ _ hx) rfl rfl (fill_set _ _ hx) ?_) <;> conv => whnf) | ((first | refine go_loadB ?_ | refine ⟨by kernel_rfl, ?_⟩ | refine go_ret ?_) <;> conv => whnf) | refine go_block ?_ | ((first | refine go_skip ?_ | refine go_exit ?_) <;> conv => whnf) | refine go_true rfl ?_ | refine go_false rfl ?_ | refine go_cond rfl (fun h => ?_) (fun h => ?_) | refine ⟨rfl, ?_⟩ | ((first | refine ⟨trivial, ?_⟩ | refine ⟨le_of_ble rfl, ?_⟩) <;> conv => whnf) | fail
      · exact go_next (i + 1) (by omega) (by omega) (ref_st id rfl ⟨rfl, ⟨rfl, rfl⟩, next_i (by omega), trivial⟩ ⟨rfl, trivial⟩ (by simp) rfl (by simp))
      · exfalso; simp at *; omega

theorem c24a (xs : List Int) (hl : xs.length ≤ 1048576) : CallOk Try.prog 24 [.imm (.list (xs.map intRow))] { res := [.arr 3 1 (xs.map intRow)] } := by
  refine callOk_of tyOk Try.func24 rfl rfl (le_of_ble rfl) (le_of_ble rfl) (mutOk_imm rfl _) ?_
  repeat' first | refine go_seq ?_ | refine go_region ?_ | ((first | refine go_op rfl ?_ | refine go_nil ?_ | refine go_storeBox rfl rfl rfl rfl rfl rfl ?_ | refine go_makeN rfl rfl rfl rfl rfl rfl rfl rfl rfl (by omega) (by simp; omega) ?_) <;> conv => whnf) | ((first | refine go_loadB ?_ | refine ⟨by kernel_rfl, ?_⟩ | refine go_ret ?_) <;> conv => whnf) | refine go_block ?_ | ((first | refine go_skip ?_ | refine go_exit ?_) <;> conv => whnf) | refine go_true rfl ?_ | refine go_false rfl ?_ | refine go_cond rfl (fun h => ?_) (fun h => ?_) | refine ⟨rfl, ?_⟩ | ((first | refine ⟨trivial, ?_⟩ | refine ⟨le_of_ble rfl, ?_⟩) <;> conv => whnf) | fail
  refine go_loop (α := Nat) (fun i => i ≤ xs.length) (fun i => xs.length - i)
    (fun i => st Try.f24.ntmps [(0, .imm (.list (xs.map intRow))), (3, .own 1000 0 (xs.map intRow).length), (4, .imm (.int .i64 (i : Nat)))] [(1000, .arr 3 1 (fill intRow ty3.zero xs i))] []) 0 (Nat.zero_le _) ?_ ?_
  · refine ref_st (fun _ => nid 2 7) rfl ⟨rfl, ⟨rfl, rfl⟩, rfl, trivial⟩ ⟨?_, trivial⟩ (by simp) rfl (by simp)
    show some _ = some _
    rw [← fill_0, List.length_map]
    rfl
  · intro i hi
    cases hx : xs[i]? with
    | none =>
      have hge := le_of_at hx
      repeat' first | refine go_seq ?_ | refine go_region ?_ | ((first | refine go_op rfl ?_ | refine go_nil ?_ | refine go_storeBox rfl rfl rfl rfl rfl rfl ?_) <;> conv => whnf) | ((first | refine go_loadB ?_ | refine ⟨by kernel_rfl, ?_⟩ | refine go_ret ?_) <;> conv => whnf) | refine go_block ?_ | ((first | refine go_skip ?_ | refine go_exit ?_) <;> conv => whnf) | refine go_true rfl ?_ | refine go_false rfl ?_ | refine go_cond rfl (fun h => ?_) (fun h => ?_) | refine ⟨rfl, ?_⟩ | ((first | refine ⟨trivial, ?_⟩ | refine ⟨le_of_ble rfl, ?_⟩) <;> conv => whnf) | fail
      · exfalso; simp at *; omega
      · refine ret_arr rfl rfl rfl rfl rfl ?_ (int_gr xs)
        rw [fill_end _ _ _ hge]
        simp [List.take_of_length_le]
    | some v =>
      have hlt := lt_of_at hx
      have hr := row_at intRow hx
      repeat' first | refine go_seq ?_ | refine go_region ?_ | ((first | refine go_op rfl ?_ | refine go_nil ?_ | refine go_storeBox rfl rfl rfl rfl rfl rfl ?_ | refine go_idx rfl rfl rfl rfl (by omega) (by assumption) rfl ?_ | refine go_idxOwn rfl rfl rfl rfl rfl rfl (by simp; omega) ?_ | refine go_storeRow rfl rfl rfl rfl (fill_at _ _ hx) rfl rfl (fill_set _ _ hx) ?_) <;> conv => whnf) | ((first | refine go_loadB ?_ | refine ⟨by kernel_rfl, ?_⟩ | refine go_ret ?_) <;> conv => whnf) | refine go_block ?_ | ((first | refine go_skip ?_ | refine go_exit ?_) <;> conv => whnf) | refine go_true rfl ?_ | refine go_false rfl ?_ | refine go_cond rfl (fun h => ?_) (fun h => ?_) | refine ⟨rfl, ?_⟩ | ((first | refine ⟨trivial, ?_⟩ | refine ⟨le_of_ble rfl, ?_⟩) <;> conv => whnf) | fail
      · exact go_next (i + 1) (by omega) (by omega) (ref_st id rfl ⟨rfl, ⟨rfl, rfl⟩, next_i (by omega), trivial⟩ ⟨rfl, trivial⟩ (by simp) rfl (by simp))
      · exfalso; simp at *; omega

theorem c10s (xs : List Int) (hl : xs.length ≤ 1048576) : CallOk Try.prog 10 [.imm (.list (xs.map intRow)), .imm (.list (xs.map intRow))] { res := [.imm (.bool true)] } := by
  refine callOk_of tyOk Try.func10 rfl rfl (le_of_ble rfl) (le_of_ble rfl) (mutOk_imm rfl _) ?_
  repeat' first | refine go_seq ?_ | refine go_region ?_ | refine go_draw drawsOk ?_ | ((first | refine go_op rfl ?_ | refine go_nil ?_ | refine go_dop rfl ?_ | refine go_dend (by kernel_rfl) ?_) <;> conv => whnf) | ((first | refine go_loadB ?_ | refine ⟨by kernel_rfl, ?_⟩ | refine go_ret ?_) <;> conv => whnf) | refine go_block ?_ | ((first | refine go_skip ?_ | refine go_exit ?_) <;> conv => whnf) | refine go_true rfl ?_ | refine go_false rfl ?_ | refine go_cond rfl (fun h => ?_) (fun h => ?_) | refine ⟨rfl, ?_⟩ | ((first | refine ⟨trivial, ?_⟩ | refine ⟨le_of_ble rfl, ?_⟩) <;> conv => whnf) | fail
  · exfalso; simp at h
  refine go_loop (α := Nat) (fun i => i ≤ xs.length) (fun i => xs.length - i) (fun i => st Try.f10.ntmps [(0, .imm (.list (xs.map intRow))), (1, .imm (.list (xs.map intRow))), (5, .imm (.int .i64 (i : Nat)))] [] []) 0
    (Nat.zero_le _) (ref_st0 rfl ⟨rfl, rfl, rfl, trivial⟩ rfl) ?_
  intro i hi
  cases hx : xs[i]? with
  | none =>
    have hge := le_of_at hx
    repeat' first | refine go_seq ?_ | refine go_region ?_ | refine go_draw drawsOk ?_ | ((first | refine go_op rfl ?_ | refine go_nil ?_ | refine go_dop rfl ?_ | refine go_dend (by kernel_rfl) ?_) <;> conv => whnf) | ((first | refine go_loadB ?_ | refine ⟨by kernel_rfl, ?_⟩ | refine go_ret ?_) <;> conv => whnf) | refine go_block ?_ | ((first | refine go_skip ?_ | refine go_exit ?_) <;> conv => whnf) | refine go_true rfl ?_ | refine go_false rfl ?_ | refine go_cond rfl (fun h => ?_) (fun h => ?_) | refine ⟨rfl, ?_⟩ | ((first | refine ⟨trivial, ?_⟩ | refine ⟨le_of_ble rfl, ?_⟩) <;> conv => whnf) | fail
    all_goals first
      | (exfalso; simp at h; omega)
      | exact ret_imm rfl rfl rfl rfl rfl rfl
  | some v =>
    have hlt := lt_of_at hx
    have hr := row_at intRow hx
    repeat' first | refine go_seq ?_ | refine go_region ?_ | refine go_draw drawsOk ?_ | ((first | refine go_op rfl ?_ | refine go_nil ?_ | refine go_dop rfl ?_ | refine go_dend (by kernel_rfl) ?_ | refine go_idx rfl rfl rfl rfl (by omega) hr rfl ?_) <;> conv => whnf) | ((first | refine go_loadB ?_ | refine ⟨by kernel_rfl, ?_⟩ | refine go_ret ?_) <;> conv => whnf) | refine go_block ?_ | ((first | refine go_skip ?_ | refine go_exit ?_) <;> conv => whnf) | refine go_true rfl ?_ | refine go_false rfl ?_ | refine go_cond rfl (fun h => ?_) (fun h => ?_) | refine ⟨rfl, ?_⟩ | ((first | refine ⟨trivial, ?_⟩ | refine ⟨le_of_ble rfl, ?_⟩) <;> conv => whnf) | fail
    all_goals first
      | (exact go_next (i + 1) (by omega) (by omega) (ref_st0 rfl ⟨rfl, rfl, next_i (by omega), trivial⟩ rfl))
      | (exfalso; simp at h; done)
      | (exfalso; simp [str_self] at h; done)
      | (exfalso; simp at h; omega)

structure Prices where
  zones : List Int
  day : Int
  week : Int

def Prices.enc (v : Prices) : List D := [.list (v.zones.map intRow), .int .i64 v.day, .int .i64 v.week]
def Prices.ok (v : Prices) : Prop := v.zones.length ≤ 9223372036854775807 ∧ (∀ x ∈ v.zones, i64 x) ∧ i64 v.day ∧ i64 v.week
def Prices.fit (v : Prices) : Prop := v.zones.length ≤ 1048576

def szPrices (n : Int) (v : Prices) : Int := szIntS n v.zones
theorem szPrices_sz : Sz szPrices := (szIntS_sz.on (fun v : Prices => v.zones))

theorem c4 (v : Prices) (hok : v.ok) (n : Int) (h0 : 0 ≤ n) (h1 : n ≤ 1048576) : CallOk Try.prog 4 [.imm (.agg v.enc), .imm (.int .i64 n)] { res := [.imm (.int .i64 (szPrices n v))] } := by
  refine callOk_of tyOk Try.func4 rfl rfl (le_of_ble rfl) (le_of_ble rfl) (mutOk_imm rfl _) ?_
  obtain ⟨k_zones, q_zones, _, _⟩ := hok
  have hres : szPrices n v = szIntS n v.zones := rfl
  have hc0 := c17 v.zones k_zones n (by omega) (by omega)
  have hlo0 := szIntS_sz.lo n v.zones
  have hle0 := szIntS_sz.le n v.zones (by omega)
  generalize hm0 : szIntS n v.zones = m1 at *
  by_cases hb0 : m1 < 0
  · have hn : m1 = -1 := by omega
    have hr : szPrices n v = -1 := by rw [hres, hn]
    repeat' first | refine go_seq ?_ | refine go_region ?_ | ((first | refine go_op rfl ?_ | refine go_nil ?_ | refine go_call [] (hc0) rfl rfl rfl rfl ?_) <;> conv => whnf) | ((first | refine go_loadB ?_ | refine ⟨by kernel_rfl, ?_⟩ | refine go_ret ?_) <;> conv => whnf) | ((first | refine go_skip ?_) <;> conv => whnf) | refine go_true rfl ?_ | refine go_false rfl ?_ | refine go_cond rfl (fun h => ?_) (fun h => ?_) | refine ⟨rfl, ?_⟩ | ((first | refine ⟨trivial, ?_⟩ | refine ⟨le_of_ble rfl, ?_⟩) <;> conv => whnf) | fail
    all_goals first
      | (refine ret_imm rfl rfl rfl rfl ?_ rfl; rw [hr]; done)
      | (refine ret_imm rfl rfl rfl rfl ?_ rfl; rw [hr, hn]; done)
      | (exfalso; have h' := of_decide_eq_false h; omega)
      | (exfalso; have h' := of_decide_eq_true h; omega)
      | (exfalso; rename_i hq; have h' := of_decide_eq_true hq; omega)
      | (exfalso; rename_i hq; have h' := of_decide_eq_false hq; omega)
      | (exfalso; rename_i hq _; have h' := of_decide_eq_true hq; omega)
      | (exfalso; rename_i hq _; have h' := of_decide_eq_false hq; omega)
      | trace_state
  have hr : szPrices n v = m1 := hres
  repeat' first | refine go_seq ?_ | refine go_region ?_ | ((first | refine go_op rfl ?_ | refine go_nil ?_ | refine go_call [] (hc0) rfl rfl rfl rfl ?_) <;> conv => whnf) | ((first | refine go_loadB ?_ | refine ⟨by kernel_rfl, ?_⟩ | refine go_ret ?_) <;> conv => whnf) | ((first | refine go_skip ?_) <;> conv => whnf) | refine go_true rfl ?_ | refine go_false rfl ?_ | refine go_cond rfl (fun h => ?_) (fun h => ?_) | refine ⟨rfl, ?_⟩ | ((first | refine ⟨trivial, ?_⟩ | refine ⟨le_of_ble rfl, ?_⟩) <;> conv => whnf) | fail
  all_goals first
    | (refine ret_imm rfl rfl rfl rfl ?_ rfl; rw [hr]; done)
    | (exfalso; have h' := of_decide_eq_false h; omega)
    | (exfalso; have h' := of_decide_eq_true h; omega)
    | (exfalso; rename_i hq; have h' := of_decide_eq_true hq; omega)
    | (exfalso; rename_i hq; have h' := of_decide_eq_false hq; omega)
    | (exfalso; rename_i hq _; have h' := of_decide_eq_true hq; omega)
    | (exfalso; rename_i hq _; have h' := of_decide_eq_false hq; omega)
    | trace_state

theorem szPrices_fit {n : Int} {v : Prices} (h1 : n ≤ 1048576) (h : 0 ≤ szPrices n v) : v.fit := by
  obtain ⟨a0, b0, _⟩ := less_pos (k := v.zones.length) h
  show v.zones.length ≤ 1048576
  omega

theorem c7 (v : Prices) (hf : v.fit) : CallOk Try.prog 7 [.imm (.agg v.enc)] { res := [.imm (.agg v.enc)], sep := false } := by
  refine callOk_of tyOk Try.func7 rfl rfl (le_of_ble rfl) (le_of_ble rfl) (mutOk_imm rfl _) ?_
  have k_zones := hf
  repeat' first | refine go_seq ?_ | refine go_region ?_ | ((first | refine go_op rfl ?_ | refine go_nil ?_ | refine go_storeBox rfl rfl rfl rfl rfl rfl ?_ | refine go_call [] (c24 v.zones k_zones) rfl rfl rfl rfl ?_) <;> conv => whnf) | ((first | refine go_loadB ?_ | refine ⟨by kernel_rfl, ?_⟩ | refine go_ret ?_) <;> conv => whnf) | ((first | refine go_skip ?_) <;> conv => whnf) | refine ⟨rfl, ?_⟩ | ((first | refine ⟨trivial, ?_⟩ | refine ⟨le_of_ble rfl, ?_⟩) <;> conv => whnf) | fail
  all_goals exact ret_immN rfl rfl rfl rfl rfl

theorem c11s (v : Prices) (hf : v.fit) : CallOk Try.prog 11 [.imm (.agg v.enc), .imm (.agg v.enc)] { res := [.imm (.bool true)] } := by
  refine callOk_of tyOk Try.func11 rfl rfl (le_of_ble rfl) (le_of_ble rfl) (mutOk_imm rfl _) ?_
  have k_zones := hf
  repeat' first | refine go_seq ?_ | refine go_region ?_ | ((first | refine go_op rfl ?_ | refine go_nil ?_ | refine go_call [] (c10s v.zones k_zones) rfl rfl rfl rfl ?_) <;> conv => whnf) | ((first | refine go_loadB ?_ | refine ⟨by kernel_rfl, ?_⟩ | refine go_ret ?_) <;> conv => whnf) | ((first | refine go_skip ?_) <;> conv => whnf) | refine go_true rfl ?_ | refine go_false rfl ?_ | refine go_cond rfl (fun h => ?_) (fun h => ?_) | refine ⟨rfl, ?_⟩ | ((first | refine ⟨trivial, ?_⟩ | refine ⟨le_of_ble rfl, ?_⟩) <;> conv => whnf) | fail
  all_goals first
    | exact ret_imm rfl rfl rfl rfl rfl rfl
    | (exfalso; simp at h; done)
    | (exfalso; simp [str_self] at h; done)

structure Ride where
  day : Int
  time : Int
  fare : Int

def Ride.enc (v : Ride) : List D := [.int .i64 v.day, .int .i64 v.time, .int .i64 v.fare]
def Ride.ok (v : Ride) : Prop := i64 v.day ∧ i64 v.time ∧ i64 v.fare
def Ride.fit (v : Ride) : Prop := True

theorem ride_gr (xs : List Ride) : ∀ x ∈ xs.map Ride.enc, x.all D.gr = true := by
  intro x hx
  obtain ⟨_, _, rfl⟩ := List.mem_map.1 hx
  rfl
theorem ride_one (xs : List Ride) : (xs.map Ride.enc).all (fun r => r.all D.one) = true := by
  simp only [List.all_map, List.all_eq_true]
  intro _ _
  rfl
theorem ride_view (xs : List Ride) : ((xs.map Ride.enc).drop 0).take (xs.map Ride.enc).length = xs.map Ride.enc := by rw [List.drop_zero, List.take_length]

theorem c25 (v : Ride) : CallOk Try.prog 25 [.imm (.agg v.enc)] { res := [.imm (.agg v.enc)] } := by
  refine callOk_of tyOk Try.func25 rfl rfl (le_of_ble rfl) (le_of_ble rfl) (mutOk_imm rfl _) ?_
  repeat' first | refine go_seq ?_ | refine go_region ?_ | ((first | refine go_op rfl ?_ | refine go_nil ?_ | refine go_storeBox rfl rfl rfl rfl rfl rfl ?_) <;> conv => whnf) | ((first | refine go_loadB ?_ | refine ⟨by kernel_rfl, ?_⟩ | refine go_ret ?_) <;> conv => whnf) | ((first | refine go_skip ?_) <;> conv => whnf) | refine ⟨rfl, ?_⟩ | ((first | refine ⟨trivial, ?_⟩ | refine ⟨le_of_ble rfl, ?_⟩) <;> conv => whnf) | fail
  all_goals exact ret_imm rfl rfl rfl rfl rfl rfl

theorem c32s (v : Ride) : CallOk Try.prog 32 [.imm (.agg v.enc), .imm (.agg v.enc)] { res := [.imm (.bool true)] } := by
  refine callOk_of tyOk Try.func32 rfl rfl (le_of_ble rfl) (le_of_ble rfl) (mutOk_imm rfl _) ?_
  repeat' first | refine go_seq ?_ | refine go_region ?_ | ((first | refine go_op rfl ?_ | refine go_nil ?_) <;> conv => whnf) | ((first | refine go_loadB ?_ | refine ⟨by kernel_rfl, ?_⟩ | refine go_ret ?_) <;> conv => whnf) | ((first | refine go_skip ?_) <;> conv => whnf) | refine go_true rfl ?_ | refine go_false rfl ?_ | refine go_cond rfl (fun h => ?_) (fun h => ?_) | refine ⟨rfl, ?_⟩ | ((first | refine ⟨trivial, ?_⟩ | refine ⟨le_of_ble rfl, ?_⟩) <;> conv => whnf) | fail
  all_goals first
    | exact ret_imm rfl rfl rfl rfl rfl rfl
    | (exfalso; simp at h; done)
    | (exfalso; simp [str_self] at h; done)

def szRideS (n : Int) (xs : List Ride) : Int := less n xs.length
theorem szRideS_sz : Sz szRideS := less_sz.on List.length

theorem c5 (xs : List Ride) (hl : xs.length ≤ 9223372036854775807) (n : Int) (h0 : 0 ≤ n) (h1 : n ≤ 1048576) : CallOk Try.prog 5 [.imm (.list (xs.map Ride.enc)), .imm (.int .i64 n)] { res := [.imm (.int .i64 (szRideS n xs))] } := by
  refine callOk_of tyOk Try.func5 rfl rfl (le_of_ble rfl) (le_of_ble rfl) (mutOk_imm rfl _) ?_
  have hlm : (xs.map Ride.enc).length = xs.length := List.length_map _
  have hw : IntKind.i64.wrap (n - ((xs.map Ride.enc).length : Int)) = n - xs.length := by rw [hlm]; exact wrap_small (by omega) (by omega)
  have hres : szRideS n xs = if n - (xs.length : Int) < 0 then -1 else n - xs.length := less_eq h0
  repeat' first | refine go_seq ?_ | refine go_region ?_ | ((first | refine go_op rfl ?_ | refine go_nil ?_) <;> conv => whnf) | ((first | refine ⟨by kernel_rfl, ?_⟩ | refine go_ret ?_) <;> conv => whnf) | ((first | refine go_skip ?_) <;> conv => whnf) | refine go_true rfl ?_ | refine go_false rfl ?_ | refine go_cond rfl (fun h => ?_) (fun h => ?_) | refine ⟨rfl, ?_⟩ | ((first | refine ⟨trivial, ?_⟩ | refine ⟨le_of_ble rfl, ?_⟩) <;> conv => whnf) | fail
  all_goals first
    | (have h' := of_decide_eq_true h
       rw [hw] at h'
       exact ret_imm rfl rfl rfl rfl (by rw [hres, if_pos h']) rfl)
    | (have h' := of_decide_eq_false h
       rw [hw] at h'
       exact ret_imm rfl rfl rfl rfl (by rw [hres, if_neg h', hw]) rfl)

theorem c8 (xs : List Ride) (hl : xs.length ≤ 1048576) : CallOk Try.prog 8 [.imm (.list (xs.map Ride.enc))] { res := [.imm (.list (xs.map Ride.enc))] } := by
  refine callOk_of tyOk Try.func8 rfl rfl (le_of_ble rfl) (le_of_ble rfl) (mutOk_imm rfl _) ?_
  repeat' first | refine go_seq ?_ | refine go_region ?_ | ((first | refine go_op rfl ?_ | refine go_nil ?_ | refine go_storeBox rfl rfl rfl rfl rfl rfl ?_ | refine go_makeN rfl rfl rfl rfl rfl rfl rfl rfl rfl (by omega) (by simp; omega) ?_) <;> conv => whnf) | ((first | refine go_loadB ?_ | refine ⟨by kernel_rfl, ?_⟩ | refine go_ret ?_) <;> conv => whnf) | refine go_block ?_ | ((first | refine go_skip ?_ | refine go_exit ?_) <;> conv => whnf) | refine go_true rfl ?_ | refine go_false rfl ?_ | refine go_cond rfl (fun h => ?_) (fun h => ?_) | refine ⟨rfl, ?_⟩ | ((first | refine ⟨trivial, ?_⟩ | refine ⟨le_of_ble rfl, ?_⟩) <;> conv => whnf) | fail
  refine go_loop (α := Nat) (fun i => i ≤ xs.length) (fun i => xs.length - i)
    (fun i => st Try.f8.ntmps [(0, .imm (.list (xs.map Ride.enc))), (3, .own 1000 0 (xs.map Ride.enc).length), (4, .imm (.int .i64 (i : Nat)))] [(1000, .arr 49 3 (fill Ride.enc ty49.zero xs i))] []) 0 (Nat.zero_le _) ?_ ?_
  · refine ref_st (fun _ => nid 2 7) rfl ⟨rfl, ⟨rfl, rfl⟩, rfl, trivial⟩ ⟨?_, trivial⟩ (by simp) rfl (by simp)
    show some _ = some _
    rw [← fill_0, List.length_map]
    rfl
  · intro i hi
    cases hx : xs[i]? with
    | none =>
      have hge := le_of_at hx
      repeat' first | refine go_seq ?_ | refine go_region ?_ | ((first | refine go_op rfl ?_ | refine go_nil ?_ | refine go_storeBox rfl rfl rfl rfl rfl rfl ?_) <;> conv => whnf) | ((first | refine go_loadB ?_ | refine ⟨by kernel_rfl, ?_⟩ | refine go_ret ?_) <;> conv => whnf) | refine go_block ?_ | ((first | refine go_skip ?_ | refine go_exit ?_) <;> conv => whnf) | refine go_true rfl ?_ | refine go_false rfl ?_ | refine go_cond rfl (fun h => ?_) (fun h => ?_) | refine ⟨rfl, ?_⟩ | ((first | refine ⟨trivial, ?_⟩ | refine ⟨le_of_ble rfl, ?_⟩) <;> conv => whnf) | fail
      · exfalso; simp at *; omega
      · refine ret_own rfl rfl rfl rfl rfl ?_ (ride_gr xs)
        rw [fill_end _ _ _ hge]
        simp [List.take_of_length_le]
    | some v =>
      have hlt := lt_of_at hx
      have hr := row_at Ride.enc hx
      repeat' first | refine go_seq ?_ | refine go_region ?_ | ((first | refine go_op rfl ?_ | refine go_nil ?_ | refine go_storeBox rfl rfl rfl rfl rfl rfl ?_ | refine go_call [] (c25 v) rfl rfl rfl rfl ?_ | refine go_idx rfl rfl rfl rfl (by omega) (by assumption) rfl ?_ | refine go_idxOwn rfl rfl rfl rfl rfl rfl (by simp; omega) ?_ | refine go_storeRow rfl rfl rfl rfl (fill_at _ _ hx) rfl rfl (fill_set _ _ hx) ?_) <;> conv => whnf) | ((first | refine go_loadB ?_ | refine ⟨by kernel_rfl, ?_⟩ | refine go_ret ?_) <;> conv => whnf) | refine go_block ?_ | ((first | refine go_skip ?_ | refine go_exit ?_) <;> conv => whnf) | refine go_true rfl ?_ | refine go_false rfl ?_ | refine go_cond rfl (fun h => ?_) (fun h => ?_) | refine ⟨rfl, ?_⟩ | ((first | refine ⟨trivial, ?_⟩ | refine ⟨le_of_ble rfl, ?_⟩) <;> conv => whnf) | fail
      · exact go_next (i + 1) (by omega) (by omega) (ref_st id rfl ⟨rfl, ⟨rfl, rfl⟩, next_i (by omega), trivial⟩ ⟨rfl, trivial⟩ (by simp) rfl (by simp))
      · exfalso; simp at *; omega

theorem c8a (xs : List Ride) (hl : xs.length ≤ 1048576) : CallOk Try.prog 8 [.imm (.list (xs.map Ride.enc))] { res := [.arr 49 3 (xs.map Ride.enc)] } := by
  refine callOk_of tyOk Try.func8 rfl rfl (le_of_ble rfl) (le_of_ble rfl) (mutOk_imm rfl _) ?_
  repeat' first | refine go_seq ?_ | refine go_region ?_ | ((first | refine go_op rfl ?_ | refine go_nil ?_ | refine go_storeBox rfl rfl rfl rfl rfl rfl ?_ | refine go_makeN rfl rfl rfl rfl rfl rfl rfl rfl rfl (by omega) (by simp; omega) ?_) <;> conv => whnf) | ((first | refine go_loadB ?_ | refine ⟨by kernel_rfl, ?_⟩ | refine go_ret ?_) <;> conv => whnf) | refine go_block ?_ | ((first | refine go_skip ?_ | refine go_exit ?_) <;> conv => whnf) | refine go_true rfl ?_ | refine go_false rfl ?_ | refine go_cond rfl (fun h => ?_) (fun h => ?_) | refine ⟨rfl, ?_⟩ | ((first | refine ⟨trivial, ?_⟩ | refine ⟨le_of_ble rfl, ?_⟩) <;> conv => whnf) | fail
  refine go_loop (α := Nat) (fun i => i ≤ xs.length) (fun i => xs.length - i)
    (fun i => st Try.f8.ntmps [(0, .imm (.list (xs.map Ride.enc))), (3, .own 1000 0 (xs.map Ride.enc).length), (4, .imm (.int .i64 (i : Nat)))] [(1000, .arr 49 3 (fill Ride.enc ty49.zero xs i))] []) 0 (Nat.zero_le _) ?_ ?_
  · refine ref_st (fun _ => nid 2 7) rfl ⟨rfl, ⟨rfl, rfl⟩, rfl, trivial⟩ ⟨?_, trivial⟩ (by simp) rfl (by simp)
    show some _ = some _
    rw [← fill_0, List.length_map]
    rfl
  · intro i hi
    cases hx : xs[i]? with
    | none =>
      have hge := le_of_at hx
      repeat' first | refine go_seq ?_ | refine go_region ?_ | ((first | refine go_op rfl ?_ | refine go_nil ?_ | refine go_storeBox rfl rfl rfl rfl rfl rfl ?_) <;> conv => whnf) | ((first | refine go_loadB ?_ | refine ⟨by kernel_rfl, ?_⟩ | refine go_ret ?_) <;> conv => whnf) | refine go_block ?_ | ((first | refine go_skip ?_ | refine go_exit ?_) <;> conv => whnf) | refine go_true rfl ?_ | refine go_false rfl ?_ | refine go_cond rfl (fun h => ?_) (fun h => ?_) | refine ⟨rfl, ?_⟩ | ((first | refine ⟨trivial, ?_⟩ | refine ⟨le_of_ble rfl, ?_⟩) <;> conv => whnf) | fail
      · exfalso; simp at *; omega
      · refine ret_arr rfl rfl rfl rfl rfl ?_ (ride_gr xs)
        rw [fill_end _ _ _ hge]
        simp [List.take_of_length_le]
    | some v =>
      have hlt := lt_of_at hx
      have hr := row_at Ride.enc hx
      repeat' first | refine go_seq ?_ | refine go_region ?_ | ((first | refine go_op rfl ?_ | refine go_nil ?_ | refine go_storeBox rfl rfl rfl rfl rfl rfl ?_ | refine go_call [] (c25 v) rfl rfl rfl rfl ?_ | refine go_idx rfl rfl rfl rfl (by omega) (by assumption) rfl ?_ | refine go_idxOwn rfl rfl rfl rfl rfl rfl (by simp; omega) ?_ | refine go_storeRow rfl rfl rfl rfl (fill_at _ _ hx) rfl rfl (fill_set _ _ hx) ?_) <;> conv => whnf) | ((first | refine go_loadB ?_ | refine ⟨by kernel_rfl, ?_⟩ | refine go_ret ?_) <;> conv => whnf) | refine go_block ?_ | ((first | refine go_skip ?_ | refine go_exit ?_) <;> conv => whnf) | refine go_true rfl ?_ | refine go_false rfl ?_ | refine go_cond rfl (fun h => ?_) (fun h => ?_) | refine ⟨rfl, ?_⟩ | ((first | refine ⟨trivial, ?_⟩ | refine ⟨le_of_ble rfl, ?_⟩) <;> conv => whnf) | fail
      · exact go_next (i + 1) (by omega) (by omega) (ref_st id rfl ⟨rfl, ⟨rfl, rfl⟩, next_i (by omega), trivial⟩ ⟨rfl, trivial⟩ (by simp) rfl (by simp))
      · exfalso; simp at *; omega

theorem c12s (xs : List Ride) (hl : xs.length ≤ 1048576) : CallOk Try.prog 12 [.imm (.list (xs.map Ride.enc)), .imm (.list (xs.map Ride.enc))] { res := [.imm (.bool true)] } := by
  refine callOk_of tyOk Try.func12 rfl rfl (le_of_ble rfl) (le_of_ble rfl) (mutOk_imm rfl _) ?_
  repeat' first | refine go_seq ?_ | refine go_region ?_ | refine go_draw drawsOk ?_ | ((first | refine go_op rfl ?_ | refine go_nil ?_ | refine go_dop rfl ?_ | refine go_dend (by kernel_rfl) ?_) <;> conv => whnf) | ((first | refine go_loadB ?_ | refine ⟨by kernel_rfl, ?_⟩ | refine go_ret ?_) <;> conv => whnf) | refine go_block ?_ | ((first | refine go_skip ?_ | refine go_exit ?_) <;> conv => whnf) | refine go_true rfl ?_ | refine go_false rfl ?_ | refine go_cond rfl (fun h => ?_) (fun h => ?_) | refine ⟨rfl, ?_⟩ | ((first | refine ⟨trivial, ?_⟩ | refine ⟨le_of_ble rfl, ?_⟩) <;> conv => whnf) | fail
  · exfalso; simp at h
  refine go_loop (α := Nat) (fun i => i ≤ xs.length) (fun i => xs.length - i) (fun i => st Try.f12.ntmps [(0, .imm (.list (xs.map Ride.enc))), (1, .imm (.list (xs.map Ride.enc))), (5, .imm (.int .i64 (i : Nat)))] [] []) 0
    (Nat.zero_le _) (ref_st0 rfl ⟨rfl, rfl, rfl, trivial⟩ rfl) ?_
  intro i hi
  cases hx : xs[i]? with
  | none =>
    have hge := le_of_at hx
    repeat' first | refine go_seq ?_ | refine go_region ?_ | refine go_draw drawsOk ?_ | ((first | refine go_op rfl ?_ | refine go_nil ?_ | refine go_dop rfl ?_ | refine go_dend (by kernel_rfl) ?_) <;> conv => whnf) | ((first | refine go_loadB ?_ | refine ⟨by kernel_rfl, ?_⟩ | refine go_ret ?_) <;> conv => whnf) | refine go_block ?_ | ((first | refine go_skip ?_ | refine go_exit ?_) <;> conv => whnf) | refine go_true rfl ?_ | refine go_false rfl ?_ | refine go_cond rfl (fun h => ?_) (fun h => ?_) | refine ⟨rfl, ?_⟩ | ((first | refine ⟨trivial, ?_⟩ | refine ⟨le_of_ble rfl, ?_⟩) <;> conv => whnf) | fail
    all_goals first
      | (exfalso; simp at h; omega)
      | exact ret_imm rfl rfl rfl rfl rfl rfl
  | some v =>
    have hlt := lt_of_at hx
    have hr := row_at Ride.enc hx
    repeat' first | refine go_seq ?_ | refine go_region ?_ | refine go_draw drawsOk ?_ | ((first | refine go_op rfl ?_ | refine go_nil ?_ | refine go_dop rfl ?_ | refine go_dend (by kernel_rfl) ?_ | refine go_call [] (c32s v) rfl rfl rfl rfl ?_ | refine go_idx rfl rfl rfl rfl (by omega) hr rfl ?_) <;> conv => whnf) | ((first | refine go_loadB ?_ | refine ⟨by kernel_rfl, ?_⟩ | refine go_ret ?_) <;> conv => whnf) | refine go_block ?_ | ((first | refine go_skip ?_ | refine go_exit ?_) <;> conv => whnf) | refine go_true rfl ?_ | refine go_false rfl ?_ | refine go_cond rfl (fun h => ?_) (fun h => ?_) | refine ⟨rfl, ?_⟩ | ((first | refine ⟨trivial, ?_⟩ | refine ⟨le_of_ble rfl, ?_⟩) <;> conv => whnf) | fail
    all_goals first
      | (exact go_next (i + 1) (by omega) (by omega) (ref_st0 rfl ⟨rfl, rfl, next_i (by omega), trivial⟩ rfl))
      | (exfalso; simp at h; done)
      | (exfalso; simp [str_self] at h; done)
      | (exfalso; simp at h; omega)

end Go.Proofs.Ytbegjabnkgennaa

