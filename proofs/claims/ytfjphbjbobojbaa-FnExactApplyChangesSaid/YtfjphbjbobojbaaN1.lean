/- The walks of the laws' own helpers over networks: their size, their copy, their comparison. MADE BY PROGRAM (nest.py). -/
import Derived.Test.YtfjphbjbobojbaaB1
namespace Go.Proofs.Ytfjphbjbobojbaa
open Go Go.Am
set_option maxRecDepth 100000
set_option maxHeartbeats 4000000
attribute [local irreducible] amOps amC opCall opIndexAddr opPick retQ opMake opStore amDraw opAppend opLoad opNilCmp opIndex opSlice

def strRow (s : ByteArray) : List D := [.str s]
theorem str_gr (xs : List ByteArray) : ∀ r ∈ xs.map strRow, r.all D.gr = true := by
  intro r hr
  obtain ⟨v, _, rfl⟩ := List.mem_map.1 hr
  rfl
def szStr (n : Int) (s : ByteArray) : Int := less n s.size
theorem szStr_sz : Sz szStr := less_sz.on ByteArray.size

def szIntS (n : Int) (xs : List Int) : Int := less n xs.length
theorem szIntS_sz : Sz szIntS := less_sz.on List.length

theorem c85 (xs : List Int) (hl : xs.length ≤ 9223372036854775807) (n : Int) (h0 : 0 ≤ n) (h1 : n ≤ 1048576) : CallOk Try.prog 85 [.imm (.list (xs.map intRow)), .imm (.int .i64 n)] { res := [.imm (.int .i64 (szIntS n xs))] } := by
  refine callOk_of tyOk Try.func85 rfl rfl (le_of_ble rfl) (le_of_ble rfl) (mutOk_imm rfl _) ?_
  have hlm : (xs.map intRow).length = xs.length := List.length_map _
  have hw : IntKind.i64.wrap (n - ((xs.map intRow).length : Int)) = n - xs.length := by rw [hlm]; exact wrap_small (by omega) (by omega)
  have hres : szIntS n xs = if n - (xs.length : Int) < 0 then -1 else n - xs.length := less_eq h0
  repeat' first | refine go_seq ?_ | refine go_region ?_ | ((first | refine go_op rfl ?_ | refine go_nil ?_) <;> conv => whnf) | ((first | refine ⟨by kernel_rfl, ?_⟩ | refine go_ret ?_) <;> conv => whnf) | ((first | refine go_skip ?_) <;> conv => whnf) | refine go_true rfl ?_ | refine go_false rfl ?_ | refine go_cond rfl (fun h => ?_) (fun h => ?_) | refine ⟨rfl, ?_⟩ | ((first | refine ⟨trivial, ?_⟩ | refine ⟨le_of_ble rfl, ?_⟩) <;> conv => whnf) | fail
  all_goals first
    | (have h' := of_decide_eq_true h
       rw [hw] at h'
       exact ret_imm rfl rfl rfl rfl (by rw [hres, if_pos h']) rfl)
    | (have h' := of_decide_eq_false h
       rw [hw] at h'
       exact ret_imm rfl rfl rfl rfl (by rw [hres, if_neg h', hw]) rfl)

theorem c100s (xs : List Int) (hl : xs.length ≤ 1048576) : CallOk Try.prog 100 [.imm (.list (xs.map intRow)), .imm (.list (xs.map intRow))] { res := [.imm (.bool true)] } := by
  refine callOk_of tyOk Try.func100 rfl rfl (le_of_ble rfl) (le_of_ble rfl) (mutOk_imm rfl _) ?_
  repeat' first | refine go_seq ?_ | refine go_region ?_ | refine go_draw drawsOk ?_ | ((first | refine go_op rfl ?_ | refine go_nil ?_ | refine go_dop rfl ?_ | refine go_dend (by kernel_rfl) ?_) <;> conv => whnf) | ((first | refine go_loadB ?_ | refine ⟨by kernel_rfl, ?_⟩ | refine go_ret ?_) <;> conv => whnf) | refine go_block ?_ | ((first | refine go_skip ?_ | refine go_exit ?_) <;> conv => whnf) | refine go_true rfl ?_ | refine go_false rfl ?_ | refine go_cond rfl (fun h => ?_) (fun h => ?_) | refine ⟨rfl, ?_⟩ | ((first | refine ⟨trivial, ?_⟩ | refine ⟨le_of_ble rfl, ?_⟩) <;> conv => whnf) | fail
  · exfalso; simp at h
  refine go_loop (α := Nat) (fun i => i ≤ xs.length) (fun i => xs.length - i) (fun i => st Try.f100.ntmps [(0, .imm (.list (xs.map intRow))), (1, .imm (.list (xs.map intRow))), (5, .imm (.int .i64 (i : Nat)))] [] []) 0
    (Nat.zero_le _) (ref_st0 rfl ⟨rfl, rfl, rfl, trivial⟩ rfl) ?_
  intro i hi
  cases hx : xs[i]? with
  | none =>
    have hge := le_of_at hx
    repeat' first | refine go_seq ?_ | refine go_region ?_ | refine go_draw drawsOk ?_ | ((first | refine go_op rfl ?_ | refine go_nil ?_ | refine go_dop rfl ?_ | refine go_dend (by kernel_rfl) ?_) <;> conv => whnf) | ((first | refine go_loadB ?_ | refine ⟨by kernel_rfl, ?_⟩ | refine go_ret ?_) <;> conv => whnf) | refine go_block ?_ | ((first | refine go_skip ?_ | refine go_exit ?_) <;> conv => whnf) | refine go_true rfl ?_ | refine go_false rfl ?_ | refine go_cond rfl (fun h => ?_) (fun h => ?_) | refine ⟨rfl, ?_⟩ | ((first | refine ⟨trivial, ?_⟩ | refine ⟨le_of_ble rfl, ?_⟩) <;> conv => whnf) | fail
    all_goals first
      | (exfalso; simp at h; omega)
      | exact ret_imm rfl rfl rfl rfl rfl rfl
  | some v =>
    have hlt := lt_of_at hx
    have hr := row_at intRow hx
    repeat' first | refine go_seq ?_ | refine go_region ?_ | refine go_draw drawsOk ?_ | ((first | refine go_op rfl ?_ | refine go_nil ?_ | refine go_dop rfl ?_ | refine go_dend (by kernel_rfl) ?_ | refine go_idx rfl rfl rfl rfl (by omega) hr rfl ?_) <;> conv => whnf) | ((first | refine go_loadB ?_ | refine ⟨by kernel_rfl, ?_⟩ | refine go_ret ?_) <;> conv => whnf) | refine go_block ?_ | ((first | refine go_skip ?_ | refine go_exit ?_) <;> conv => whnf) | refine go_true rfl ?_ | refine go_false rfl ?_ | refine go_cond rfl (fun h => ?_) (fun h => ?_) | refine ⟨rfl, ?_⟩ | ((first | refine ⟨trivial, ?_⟩ | refine ⟨le_of_ble rfl, ?_⟩) <;> conv => whnf) | fail
    all_goals first
      | (exact go_next (i + 1) (by omega) (by omega) (ref_st0 rfl ⟨rfl, rfl, next_i (by omega), trivial⟩ rfl))
      | (exfalso; simp at h; done)
      | (exfalso; simp [str_self] at h; done)
      | (exfalso; simp at h; omega)

def szStringS (n : Int) (xs : List ByteArray) : Int := szList szStr n xs
theorem szStringS_sz : Sz szStringS := szList_sz szStr_sz

theorem c31 (xs : List ByteArray) (hok : ∀ v ∈ xs, (fun s : ByteArray => s.size ≤ maxLen) v) (hl : xs.length ≤ 9223372036854775807) (n : Int) (h0 : 0 ≤ n) (h1 : n ≤ 1048576) : CallOk Try.prog 31 [.imm (.list (xs.map strRow)), .imm (.int .i64 n)] { res := [.imm (.int .i64 (szStringS n xs))] } := by
  refine callOk_of tyOk Try.func31 rfl rfl (le_of_ble rfl) (le_of_ble rfl) (mutOk_imm rfl _) ?_
  have hlm : (xs.map strRow).length = xs.length := List.length_map _
  have hw : IntKind.i64.wrap (n - ((xs.map strRow).length : Int)) = n - xs.length := by rw [hlm]; exact wrap_small (by omega) (by omega)
  have hres : szStringS n xs = szAll szStr (less n xs.length) xs := rfl
  by_cases hb : n - (xs.length : Int) < 0
  · have hr : szStringS n xs = -1 := by rw [hres, less_eq h0, if_pos hb]; exact szAll_neg szStr_sz xs
    repeat' first | refine go_seq ?_ | refine go_region ?_ | ((first | refine go_op rfl ?_ | refine go_nil ?_) <;> conv => whnf) | ((first | refine go_loadB ?_ | refine ⟨by kernel_rfl, ?_⟩ | refine go_ret ?_) <;> conv => whnf) | refine go_block ?_ | ((first | refine go_skip ?_ | refine go_exit ?_) <;> conv => whnf) | refine go_true rfl ?_ | refine go_false rfl ?_ | refine go_cond rfl (fun h => ?_) (fun h => ?_) | refine ⟨rfl, ?_⟩ | ((first | refine ⟨trivial, ?_⟩ | refine ⟨le_of_ble rfl, ?_⟩) <;> conv => whnf) | fail
    all_goals first
      | (refine ret_imm rfl rfl rfl rfl ?_ rfl; rw [hr]; done)
      | (exfalso; have h' := of_decide_eq_false h; rw [hw] at h'; omega)
  · have hl0 : less n xs.length = n - xs.length := by rw [less_eq h0, if_neg hb]
    repeat' first | refine go_seq ?_ | refine go_region ?_ | ((first | refine go_op rfl ?_ | refine go_nil ?_) <;> conv => whnf) | ((first | refine go_loadB ?_ | refine ⟨by kernel_rfl, ?_⟩ | refine go_ret ?_) <;> conv => whnf) | refine go_block ?_ | ((first | refine go_skip ?_ | refine go_exit ?_) <;> conv => whnf) | refine go_true rfl ?_ | refine go_false rfl ?_ | refine go_cond rfl (fun h => ?_) (fun h => ?_) | refine ⟨rfl, ?_⟩ | ((first | refine ⟨trivial, ?_⟩ | refine ⟨le_of_ble rfl, ?_⟩) <;> conv => whnf) | fail
    · exfalso; have h' := of_decide_eq_true h; rw [hw] at h'; omega
    refine go_loop (α := Nat) (fun i => i ≤ xs.length ∧ 0 ≤ szAll szStr (less n xs.length) (xs.take i)) (fun i => xs.length - i)
      (fun i => st Try.f31.ntmps [(0, .imm (.list (xs.map strRow))), (1, .imm (.int .i64 (szAll szStr (less n xs.length) (xs.take i)))), (5, .imm (.int .i64 (i : Nat)))] [] []) 0 ⟨Nat.zero_le _, by show 0 ≤ less n xs.length; omega⟩ (ref_st0 rfl ⟨rfl, ?_, rfl, trivial⟩ rfl) ?_
    · show AV.imm (D.int _ _) = _
      rw [hw, List.take_zero, ← hl0]; rfl
    rintro i ⟨hi, ha⟩
    have hup := szAll_le szStr_sz (xs.take i) (less n xs.length) (less_sz.lo _ _)
    cases hx : xs[i]? with
    | none =>
      have hge := le_of_at hx
      repeat' first | refine go_seq ?_ | refine go_region ?_ | ((first | refine go_op rfl ?_ | refine go_nil ?_) <;> conv => whnf) | ((first | refine go_loadB ?_ | refine ⟨by kernel_rfl, ?_⟩ | refine go_ret ?_) <;> conv => whnf) | refine go_block ?_ | ((first | refine go_skip ?_ | refine go_exit ?_) <;> conv => whnf) | refine go_true rfl ?_ | refine go_false rfl ?_ | refine go_cond rfl (fun h => ?_) (fun h => ?_) | refine ⟨rfl, ?_⟩ | ((first | refine ⟨trivial, ?_⟩ | refine ⟨le_of_ble rfl, ?_⟩) <;> conv => whnf) | fail
      all_goals first
        | (exfalso; have h' := of_decide_eq_true h; omega)
        | exact ret_imm rfl rfl rfl rfl (by rw [hres, szAll_end hge]) rfl
    | some v =>
      have hlt := lt_of_at hx
      have hr := row_at strRow hx
      have hv := hok v (List.mem_of_getElem? hx)
      have hnx := szAll_take (f := szStr) (n := less n xs.length) hx
      have hlo := szStr_sz.lo (szAll szStr (less n xs.length) (xs.take i)) v
      generalize hm : szAll szStr (less n xs.length) (xs.take i) = m at *
      have hvl : v.size ≤ 9223372036854775807 := Nat.le_trans hv (by unfold maxLen; omega)
      have hw2 : IntKind.i64.wrap (m - (v.size : Int)) = m - v.size := wrap_small (by omega) (by omega)
      have hg : szStr m v = if m - (v.size : Int) < 0 then -1 else m - v.size := less_eq ha
      repeat' first | refine go_seq ?_ | refine go_region ?_ | ((first | refine go_op rfl ?_ | refine go_nil ?_ | refine go_idx rfl rfl rfl rfl (by omega) hr rfl ?_) <;> conv => whnf) | ((first | refine go_loadB ?_ | refine ⟨by kernel_rfl, ?_⟩ | refine go_ret ?_) <;> conv => whnf) | refine go_block ?_ | ((first | refine go_skip ?_ | refine go_exit ?_) <;> conv => whnf) | refine go_true rfl ?_ | refine go_false rfl ?_ | refine go_cond rfl (fun h => ?_) (fun h => ?_) | refine ⟨rfl, ?_⟩ | ((first | refine ⟨trivial, ?_⟩ | refine ⟨le_of_ble rfl, ?_⟩) <;> conv => whnf) | fail
      all_goals first
        | (exfalso; have h' := of_decide_eq_false h; omega)
        | (have h' := of_decide_eq_true h
           rw [hw2] at h'
           exact ret_imm rfl rfl rfl rfl (by rw [hres, szAll_stop szStr_sz (i := i + 1) (by rw [hnx, hg, if_pos h'])]) rfl)
        | (have h' := of_decide_eq_false h
           rw [hw2] at h'
           exact go_next (i + 1) ⟨by omega, by rw [hnx, hg, if_neg h']; omega⟩ (by omega) (ref_st0 rfl ⟨rfl, by show AV.imm (D.int _ _) = _; rw [hnx, hg, if_neg h', hw2], next_i (by omega), trivial⟩ rfl))

theorem c52s (xs : List ByteArray) (hl : xs.length ≤ 1048576) : CallOk Try.prog 52 [.imm (.list (xs.map strRow)), .imm (.list (xs.map strRow))] { res := [.imm (.bool true)] } := by
  refine callOk_of tyOk Try.func52 rfl rfl (le_of_ble rfl) (le_of_ble rfl) (mutOk_imm rfl _) ?_
  repeat' first | refine go_seq ?_ | refine go_region ?_ | refine go_draw drawsOk ?_ | ((first | refine go_op rfl ?_ | refine go_nil ?_ | refine go_dop rfl ?_ | refine go_dend (by kernel_rfl) ?_) <;> conv => whnf) | ((first | refine go_loadB ?_ | refine ⟨by kernel_rfl, ?_⟩ | refine go_ret ?_) <;> conv => whnf) | refine go_block ?_ | ((first | refine go_skip ?_ | refine go_exit ?_) <;> conv => whnf) | refine go_true rfl ?_ | refine go_false rfl ?_ | refine go_cond rfl (fun h => ?_) (fun h => ?_) | refine ⟨rfl, ?_⟩ | ((first | refine ⟨trivial, ?_⟩ | refine ⟨le_of_ble rfl, ?_⟩) <;> conv => whnf) | fail
  · exfalso; simp at h
  refine go_loop (α := Nat) (fun i => i ≤ xs.length) (fun i => xs.length - i) (fun i => st Try.f52.ntmps [(0, .imm (.list (xs.map strRow))), (1, .imm (.list (xs.map strRow))), (5, .imm (.int .i64 (i : Nat)))] [] []) 0
    (Nat.zero_le _) (ref_st0 rfl ⟨rfl, rfl, rfl, trivial⟩ rfl) ?_
  intro i hi
  cases hx : xs[i]? with
  | none =>
    have hge := le_of_at hx
    repeat' first | refine go_seq ?_ | refine go_region ?_ | refine go_draw drawsOk ?_ | ((first | refine go_op rfl ?_ | refine go_nil ?_ | refine go_dop rfl ?_ | refine go_dend (by kernel_rfl) ?_) <;> conv => whnf) | ((first | refine go_loadB ?_ | refine ⟨by kernel_rfl, ?_⟩ | refine go_ret ?_) <;> conv => whnf) | refine go_block ?_ | ((first | refine go_skip ?_ | refine go_exit ?_) <;> conv => whnf) | refine go_true rfl ?_ | refine go_false rfl ?_ | refine go_cond rfl (fun h => ?_) (fun h => ?_) | refine ⟨rfl, ?_⟩ | ((first | refine ⟨trivial, ?_⟩ | refine ⟨le_of_ble rfl, ?_⟩) <;> conv => whnf) | fail
    all_goals first
      | (exfalso; simp at h; omega)
      | exact ret_imm rfl rfl rfl rfl rfl rfl
  | some v =>
    have hlt := lt_of_at hx
    have hr := row_at strRow hx
    repeat' first | refine go_seq ?_ | refine go_region ?_ | refine go_draw drawsOk ?_ | ((first | refine go_op rfl ?_ | refine go_nil ?_ | refine go_dop rfl ?_ | refine go_dend (by kernel_rfl) ?_ | refine go_idx rfl rfl rfl rfl (by omega) hr rfl ?_) <;> conv => whnf) | ((first | refine go_loadB ?_ | refine ⟨by kernel_rfl, ?_⟩ | refine go_ret ?_) <;> conv => whnf) | refine go_block ?_ | ((first | refine go_skip ?_ | refine go_exit ?_) <;> conv => whnf) | refine go_true rfl ?_ | refine go_false rfl ?_ | refine go_cond rfl (fun h => ?_) (fun h => ?_) | refine ⟨rfl, ?_⟩ | ((first | refine ⟨trivial, ?_⟩ | refine ⟨le_of_ble rfl, ?_⟩) <;> conv => whnf) | fail
    all_goals first
      | (exact go_next (i + 1) (by omega) (by omega) (ref_st0 rfl ⟨rfl, rfl, next_i (by omega), trivial⟩ rfl))
      | (exfalso; simp at h; done)
      | (exfalso; simp [str_self] at h; done)
      | (exfalso; simp at h; omega)

structure Line where
  name : ByteArray
  stops : List Int
  runs : List Int

def Line.enc (v : Line) : List D := [.str v.name, .list (v.stops.map intRow), .list (v.runs.map intRow)]
def Line.ok (v : Line) : Prop := v.name.size ≤ maxLen ∧ v.stops.length ≤ 9223372036854775807 ∧ (∀ x ∈ v.stops, i64 x) ∧ v.runs.length ≤ 9223372036854775807 ∧ (∀ x ∈ v.runs, i64 x)
def Line.fit (v : Line) : Prop := v.name.size ≤ 1048576 ∧ v.stops.length ≤ 1048576 ∧ v.runs.length ≤ 1048576

def szLine (n : Int) (v : Line) : Int := szIntS (szIntS (less n v.name.size) v.stops) v.runs
theorem szLine_sz : Sz szLine := (Sz.comp (f := fun n (v : Line) => szIntS (less (n) v.name.size) v.stops) (g := fun n (v : Line) => szIntS (n) v.runs) (Sz.comp (f := fun n (v : Line) => less (n) v.name.size) (g := fun n (v : Line) => szIntS (n) v.stops) (less_sz.on (fun v : Line => v.name.size)) (szIntS_sz.on (fun v : Line => v.stops))) (szIntS_sz.on (fun v : Line => v.runs)))

theorem c59 (v : Line) (hok : v.ok) (n : Int) (h0 : 0 ≤ n) (h1 : n ≤ 1048576) : CallOk Try.prog 59 [.imm (.agg v.enc), .imm (.int .i64 n)] { res := [.imm (.int .i64 (szLine n v))] } := by
  refine callOk_of tyOk Try.func59 rfl rfl (le_of_ble rfl) (le_of_ble rfl) (mutOk_imm rfl _) ?_
  obtain ⟨k_name, k_stops, q_stops, k_runs, q_runs⟩ := hok
  have hres : szLine n v = szIntS (szIntS (less n v.name.size) v.stops) v.runs := rfl
  have hz0 : v.name.size ≤ 9223372036854775807 := Nat.le_trans k_name (by unfold maxLen; omega)
  have hw0 : IntKind.i64.wrap (n - (v.name.size : Int)) = n - v.name.size := wrap_small (by omega) (by omega)
  have hg0 : less n v.name.size = if n - (v.name.size : Int) < 0 then -1 else n - v.name.size := less_eq (by omega)
  have hlo0 := less_sz.lo n v.name.size
  have hle0 := less_sz.le n v.name.size (by omega)
  generalize hm0 : less n v.name.size = m1 at *
  by_cases hb0 : m1 < 0
  · have hn : m1 = -1 := by omega
    have hr : szLine n v = -1 := by rw [hres, hn, szIntS_sz.neg (-1) _ (by omega), szIntS_sz.neg (-1) _ (by omega)]
    repeat' first | refine go_seq ?_ | refine go_region ?_ | ((first | refine go_op rfl ?_ | refine go_nil ?_) <;> conv => whnf) | ((first | refine go_loadB ?_ | refine ⟨by kernel_rfl, ?_⟩ | refine go_ret ?_) <;> conv => whnf) | ((first | refine go_skip ?_) <;> conv => whnf) | refine go_true rfl ?_ | refine go_false rfl ?_ | refine go_cond rfl (fun h => ?_) (fun h => ?_) | refine ⟨rfl, ?_⟩ | ((first | refine ⟨trivial, ?_⟩ | refine ⟨le_of_ble rfl, ?_⟩) <;> conv => whnf) | fail
    all_goals first
      | (refine ret_imm rfl rfl rfl rfl ?_ rfl; rw [hr]; done)
      | (refine ret_imm rfl rfl rfl rfl ?_ rfl; rw [hr, hn]; done)
      | (exfalso; have h' := of_decide_eq_false h; omega)
      | (exfalso; have h' := of_decide_eq_true h; omega)
      | (exfalso; rename_i hq; have h' := of_decide_eq_true hq; omega)
      | (exfalso; rename_i hq; have h' := of_decide_eq_false hq; omega)
      | (exfalso; rename_i hq _; have h' := of_decide_eq_true hq; omega)
      | (exfalso; rename_i hq _; have h' := of_decide_eq_false hq; omega)
      | (exfalso; have h' := of_decide_eq_false h; rw [hw0] at h'; split at hg0 <;> omega)
      | (exfalso; have h' := of_decide_eq_true h; rw [hw0] at h'; split at hg0 <;> omega)
      | (exfalso; rename_i hq; have h' := of_decide_eq_true hq; rw [hw0] at h'; split at hg0 <;> omega)
      | (exfalso; rename_i hq; have h' := of_decide_eq_false hq; rw [hw0] at h'; split at hg0 <;> omega)
      | trace_state
  have hm0w : IntKind.i64.wrap (n - (v.name.size : Int)) = m1 := by rw [hw0]; split at hg0 <;> omega
  have hc1 := c85 v.stops k_stops m1 (by omega) (by omega)
  have hlo1 := szIntS_sz.lo m1 v.stops
  have hle1 := szIntS_sz.le m1 v.stops (by omega)
  generalize hm1 : szIntS m1 v.stops = m2 at *
  rw [← hm0w] at hc1
  by_cases hb1 : m2 < 0
  · have hn : m2 = -1 := by omega
    have hr : szLine n v = -1 := by rw [hres, hn, szIntS_sz.neg (-1) _ (by omega)]
    repeat' first | refine go_seq ?_ | refine go_region ?_ | ((first | refine go_op rfl ?_ | refine go_nil ?_ | refine go_call [] (hc1) rfl rfl rfl rfl ?_) <;> conv => whnf) | ((first | refine go_loadB ?_ | refine ⟨by kernel_rfl, ?_⟩ | refine go_ret ?_) <;> conv => whnf) | ((first | refine go_skip ?_) <;> conv => whnf) | refine go_true rfl ?_ | refine go_false rfl ?_ | refine go_cond rfl (fun h => ?_) (fun h => ?_) | refine ⟨rfl, ?_⟩ | ((first | refine ⟨trivial, ?_⟩ | refine ⟨le_of_ble rfl, ?_⟩) <;> conv => whnf) | fail
    all_goals first
      | (refine ret_imm rfl rfl rfl rfl ?_ rfl; rw [hr]; done)
      | (refine ret_imm rfl rfl rfl rfl ?_ rfl; rw [hr, hn]; done)
      | (exfalso; have h' := of_decide_eq_false h; omega)
      | (exfalso; have h' := of_decide_eq_true h; omega)
      | (exfalso; rename_i hq; have h' := of_decide_eq_true hq; omega)
      | (exfalso; rename_i hq; have h' := of_decide_eq_false hq; omega)
      | (exfalso; rename_i hq _; have h' := of_decide_eq_true hq; omega)
      | (exfalso; rename_i hq _; have h' := of_decide_eq_false hq; omega)
      | (exfalso; have h' := of_decide_eq_false h; rw [hw0] at h'; split at hg0 <;> omega)
      | (exfalso; have h' := of_decide_eq_true h; rw [hw0] at h'; split at hg0 <;> omega)
      | (exfalso; rename_i hq; have h' := of_decide_eq_true hq; rw [hw0] at h'; split at hg0 <;> omega)
      | (exfalso; rename_i hq; have h' := of_decide_eq_false hq; rw [hw0] at h'; split at hg0 <;> omega)
      | trace_state
  have hc2 := c85 v.runs k_runs m2 (by omega) (by omega)
  have hlo2 := szIntS_sz.lo m2 v.runs
  have hle2 := szIntS_sz.le m2 v.runs (by omega)
  generalize hm2 : szIntS m2 v.runs = m3 at *
  by_cases hb2 : m3 < 0
  · have hn : m3 = -1 := by omega
    have hr : szLine n v = -1 := by rw [hres, hn]
    repeat' first | refine go_seq ?_ | refine go_region ?_ | ((first | refine go_op rfl ?_ | refine go_nil ?_ | refine go_call [] (hc1) rfl rfl rfl rfl ?_ | refine go_call [] (hc2) rfl rfl rfl rfl ?_) <;> conv => whnf) | ((first | refine go_loadB ?_ | refine ⟨by kernel_rfl, ?_⟩ | refine go_ret ?_) <;> conv => whnf) | ((first | refine go_skip ?_) <;> conv => whnf) | refine go_true rfl ?_ | refine go_false rfl ?_ | refine go_cond rfl (fun h => ?_) (fun h => ?_) | refine ⟨rfl, ?_⟩ | ((first | refine ⟨trivial, ?_⟩ | refine ⟨le_of_ble rfl, ?_⟩) <;> conv => whnf) | fail
    all_goals first
      | (refine ret_imm rfl rfl rfl rfl ?_ rfl; rw [hr]; done)
      | (refine ret_imm rfl rfl rfl rfl ?_ rfl; rw [hr, hn]; done)
      | (exfalso; have h' := of_decide_eq_false h; omega)
      | (exfalso; have h' := of_decide_eq_true h; omega)
      | (exfalso; rename_i hq; have h' := of_decide_eq_true hq; omega)
      | (exfalso; rename_i hq; have h' := of_decide_eq_false hq; omega)
      | (exfalso; rename_i hq _; have h' := of_decide_eq_true hq; omega)
      | (exfalso; rename_i hq _; have h' := of_decide_eq_false hq; omega)
      | (exfalso; have h' := of_decide_eq_false h; rw [hw0] at h'; split at hg0 <;> omega)
      | (exfalso; have h' := of_decide_eq_true h; rw [hw0] at h'; split at hg0 <;> omega)
      | (exfalso; rename_i hq; have h' := of_decide_eq_true hq; rw [hw0] at h'; split at hg0 <;> omega)
      | (exfalso; rename_i hq; have h' := of_decide_eq_false hq; rw [hw0] at h'; split at hg0 <;> omega)
      | trace_state
  have hr : szLine n v = m3 := hres
  repeat' first | refine go_seq ?_ | refine go_region ?_ | ((first | refine go_op rfl ?_ | refine go_nil ?_ | refine go_call [] (hc1) rfl rfl rfl rfl ?_ | refine go_call [] (hc2) rfl rfl rfl rfl ?_) <;> conv => whnf) | ((first | refine go_loadB ?_ | refine ⟨by kernel_rfl, ?_⟩ | refine go_ret ?_) <;> conv => whnf) | ((first | refine go_skip ?_) <;> conv => whnf) | refine go_true rfl ?_ | refine go_false rfl ?_ | refine go_cond rfl (fun h => ?_) (fun h => ?_) | refine ⟨rfl, ?_⟩ | ((first | refine ⟨trivial, ?_⟩ | refine ⟨le_of_ble rfl, ?_⟩) <;> conv => whnf) | fail
  all_goals first
    | (refine ret_imm rfl rfl rfl rfl ?_ rfl; rw [hr]; done)
    | (exfalso; have h' := of_decide_eq_true h; rw [hm0w] at h'; omega)
    | (exfalso; have h' := of_decide_eq_false h; rw [hm0w] at h'; omega)
    | (exfalso; rename_i hq; have h' := of_decide_eq_true hq; rw [hm0w] at h'; omega)
    | (exfalso; rename_i hq; have h' := of_decide_eq_false hq; rw [hm0w] at h'; omega)
    | (exfalso; have h' := of_decide_eq_false h; omega)
    | (exfalso; have h' := of_decide_eq_true h; omega)
    | (exfalso; rename_i hq; have h' := of_decide_eq_true hq; omega)
    | (exfalso; rename_i hq; have h' := of_decide_eq_false hq; omega)
    | (exfalso; rename_i hq _; have h' := of_decide_eq_true hq; omega)
    | (exfalso; rename_i hq _; have h' := of_decide_eq_false hq; omega)
    | trace_state

theorem szLine_fit {n : Int} {v : Line} (h1 : n ≤ 1048576) (h : 0 ≤ szLine n v) : v.fit := by
  have p2 : 0 ≤ szIntS (less (n) v.name.size) v.stops := szIntS_sz.pos (v := v.runs) h
  obtain ⟨a2, b2, _⟩ := less_pos (k := v.runs.length) h
  have p1 : 0 ≤ less (n) v.name.size := szIntS_sz.pos (v := v.stops) p2
  obtain ⟨a1, b1, _⟩ := less_pos (k := v.stops.length) p2
  obtain ⟨a0, b0, _⟩ := less_pos p1
  have h0 : 0 ≤ n := less_sz.pos (v := v.name.size) p1
  have u1 := less_sz.le (n) (v.name.size) h0
  have u2 := szIntS_sz.le (less (n) v.name.size) (v.stops) p1
  exact ⟨by omega, by omega, by omega⟩

theorem c81s (v : Line) (hf : v.fit) : CallOk Try.prog 81 [.imm (.agg v.enc), .imm (.agg v.enc)] { res := [.imm (.bool true)] } := by
  refine callOk_of tyOk Try.func81 rfl rfl (le_of_ble rfl) (le_of_ble rfl) (mutOk_imm rfl _) ?_
  obtain ⟨_, k_stops, k_runs⟩ := hf
  repeat' first | refine go_seq ?_ | refine go_region ?_ | ((first | refine go_op rfl ?_ | refine go_nil ?_ | refine go_call [] (c100s v.stops k_stops) rfl rfl rfl rfl ?_ | refine go_call [] (c100s v.runs k_runs) rfl rfl rfl rfl ?_) <;> conv => whnf) | ((first | refine go_loadB ?_ | refine ⟨by kernel_rfl, ?_⟩ | refine go_ret ?_) <;> conv => whnf) | ((first | refine go_skip ?_) <;> conv => whnf) | refine go_true rfl ?_ | refine go_false rfl ?_ | refine go_cond rfl (fun h => ?_) (fun h => ?_) | refine ⟨rfl, ?_⟩ | ((first | refine ⟨trivial, ?_⟩ | refine ⟨le_of_ble rfl, ?_⟩) <;> conv => whnf) | fail
  all_goals first
    | exact ret_imm rfl rfl rfl rfl rfl rfl
    | (exfalso; simp at h; done)
    | (exfalso; simp [str_self] at h; done)

def szLineS (n : Int) (xs : List Line) : Int := szList szLine n xs
theorem szLineS_sz : Sz szLineS := szList_sz szLine_sz

theorem c32 (xs : List Line) (hok : ∀ v ∈ xs, (Line.ok) v) (hl : xs.length ≤ 9223372036854775807) (n : Int) (h0 : 0 ≤ n) (h1 : n ≤ 1048576) : CallOk Try.prog 32 [.imm (.list (xs.map Line.enc)), .imm (.int .i64 n)] { res := [.imm (.int .i64 (szLineS n xs))] } := by
  refine callOk_of tyOk Try.func32 rfl rfl (le_of_ble rfl) (le_of_ble rfl) (mutOk_imm rfl _) ?_
  have hlm : (xs.map Line.enc).length = xs.length := List.length_map _
  have hw : IntKind.i64.wrap (n - ((xs.map Line.enc).length : Int)) = n - xs.length := by rw [hlm]; exact wrap_small (by omega) (by omega)
  have hres : szLineS n xs = szAll szLine (less n xs.length) xs := rfl
  by_cases hb : n - (xs.length : Int) < 0
  · have hr : szLineS n xs = -1 := by rw [hres, less_eq h0, if_pos hb]; exact szAll_neg szLine_sz xs
    repeat' first | refine go_seq ?_ | refine go_region ?_ | ((first | refine go_op rfl ?_ | refine go_nil ?_) <;> conv => whnf) | ((first | refine go_loadB ?_ | refine ⟨by kernel_rfl, ?_⟩ | refine go_ret ?_) <;> conv => whnf) | refine go_block ?_ | ((first | refine go_skip ?_ | refine go_exit ?_) <;> conv => whnf) | refine go_true rfl ?_ | refine go_false rfl ?_ | refine go_cond rfl (fun h => ?_) (fun h => ?_) | refine ⟨rfl, ?_⟩ | ((first | refine ⟨trivial, ?_⟩ | refine ⟨le_of_ble rfl, ?_⟩) <;> conv => whnf) | fail
    all_goals first
      | (refine ret_imm rfl rfl rfl rfl ?_ rfl; rw [hr]; done)
      | (exfalso; have h' := of_decide_eq_false h; rw [hw] at h'; omega)
  · have hl0 : less n xs.length = n - xs.length := by rw [less_eq h0, if_neg hb]
    repeat' first | refine go_seq ?_ | refine go_region ?_ | ((first | refine go_op rfl ?_ | refine go_nil ?_) <;> conv => whnf) | ((first | refine go_loadB ?_ | refine ⟨by kernel_rfl, ?_⟩ | refine go_ret ?_) <;> conv => whnf) | refine go_block ?_ | ((first | refine go_skip ?_ | refine go_exit ?_) <;> conv => whnf) | refine go_true rfl ?_ | refine go_false rfl ?_ | refine go_cond rfl (fun h => ?_) (fun h => ?_) | refine ⟨rfl, ?_⟩ | ((first | refine ⟨trivial, ?_⟩ | refine ⟨le_of_ble rfl, ?_⟩) <;> conv => whnf) | fail
    · exfalso; have h' := of_decide_eq_true h; rw [hw] at h'; omega
    refine go_loop (α := Nat) (fun i => i ≤ xs.length ∧ 0 ≤ szAll szLine (less n xs.length) (xs.take i)) (fun i => xs.length - i)
      (fun i => st Try.f32.ntmps [(0, .imm (.list (xs.map Line.enc))), (1, .imm (.int .i64 (szAll szLine (less n xs.length) (xs.take i)))), (5, .imm (.int .i64 (i : Nat)))] [] []) 0 ⟨Nat.zero_le _, by show 0 ≤ less n xs.length; omega⟩ (ref_st0 rfl ⟨rfl, ?_, rfl, trivial⟩ rfl) ?_
    · show AV.imm (D.int _ _) = _
      rw [hw, List.take_zero, ← hl0]; rfl
    rintro i ⟨hi, ha⟩
    have hup := szAll_le szLine_sz (xs.take i) (less n xs.length) (less_sz.lo _ _)
    cases hx : xs[i]? with
    | none =>
      have hge := le_of_at hx
      repeat' first | refine go_seq ?_ | refine go_region ?_ | ((first | refine go_op rfl ?_ | refine go_nil ?_) <;> conv => whnf) | ((first | refine go_loadB ?_ | refine ⟨by kernel_rfl, ?_⟩ | refine go_ret ?_) <;> conv => whnf) | refine go_block ?_ | ((first | refine go_skip ?_ | refine go_exit ?_) <;> conv => whnf) | refine go_true rfl ?_ | refine go_false rfl ?_ | refine go_cond rfl (fun h => ?_) (fun h => ?_) | refine ⟨rfl, ?_⟩ | ((first | refine ⟨trivial, ?_⟩ | refine ⟨le_of_ble rfl, ?_⟩) <;> conv => whnf) | fail
      all_goals first
        | (exfalso; have h' := of_decide_eq_true h; omega)
        | exact ret_imm rfl rfl rfl rfl (by rw [hres, szAll_end hge]) rfl
    | some v =>
      have hlt := lt_of_at hx
      have hr := row_at Line.enc hx
      have hv := hok v (List.mem_of_getElem? hx)
      have hnx := szAll_take (f := szLine) (n := less n xs.length) hx
      have hlo := szLine_sz.lo (szAll szLine (less n xs.length) (xs.take i)) v
      generalize hm : szAll szLine (less n xs.length) (xs.take i) = m at *
      have hc := c59 v hv m (by omega) (by omega)
      repeat' first | refine go_seq ?_ | refine go_region ?_ | ((first | refine go_op rfl ?_ | refine go_nil ?_ | refine go_call [] (hc) rfl rfl rfl rfl ?_ | refine go_idx rfl rfl rfl rfl (by omega) hr rfl ?_) <;> conv => whnf) | ((first | refine go_loadB ?_ | refine ⟨by kernel_rfl, ?_⟩ | refine go_ret ?_) <;> conv => whnf) | refine go_block ?_ | ((first | refine go_skip ?_ | refine go_exit ?_) <;> conv => whnf) | refine go_true rfl ?_ | refine go_false rfl ?_ | refine go_cond rfl (fun h => ?_) (fun h => ?_) | refine ⟨rfl, ?_⟩ | ((first | refine ⟨trivial, ?_⟩ | refine ⟨le_of_ble rfl, ?_⟩) <;> conv => whnf) | fail
      all_goals first
        | (exfalso; have h' := of_decide_eq_false h; omega)
        | (have h' := of_decide_eq_true h
           exact ret_imm rfl rfl rfl rfl (by rw [hres, szAll_stop szLine_sz (i := i + 1) (by rw [hnx]; omega)]) rfl)
        | (have h' := of_decide_eq_false h
           exact go_next (i + 1) ⟨by omega, by rw [hnx]; omega⟩ (by omega) (ref_st0 rfl ⟨rfl, by show AV.imm (D.int _ _) = _; rw [hnx], next_i (by omega), trivial⟩ rfl))

theorem c53s (xs : List Line) (hall : ∀ v ∈ xs, (Line.fit) v) (hl : xs.length ≤ 1048576) : CallOk Try.prog 53 [.imm (.list (xs.map Line.enc)), .imm (.list (xs.map Line.enc))] { res := [.imm (.bool true)] } := by
  refine callOk_of tyOk Try.func53 rfl rfl (le_of_ble rfl) (le_of_ble rfl) (mutOk_imm rfl _) ?_
  repeat' first | refine go_seq ?_ | refine go_region ?_ | refine go_draw drawsOk ?_ | ((first | refine go_op rfl ?_ | refine go_nil ?_ | refine go_dop rfl ?_ | refine go_dend (by kernel_rfl) ?_) <;> conv => whnf) | ((first | refine go_loadB ?_ | refine ⟨by kernel_rfl, ?_⟩ | refine go_ret ?_) <;> conv => whnf) | refine go_block ?_ | ((first | refine go_skip ?_ | refine go_exit ?_) <;> conv => whnf) | refine go_true rfl ?_ | refine go_false rfl ?_ | refine go_cond rfl (fun h => ?_) (fun h => ?_) | refine ⟨rfl, ?_⟩ | ((first | refine ⟨trivial, ?_⟩ | refine ⟨le_of_ble rfl, ?_⟩) <;> conv => whnf) | fail
  · exfalso; simp at h
  refine go_loop (α := Nat) (fun i => i ≤ xs.length) (fun i => xs.length - i) (fun i => st Try.f53.ntmps [(0, .imm (.list (xs.map Line.enc))), (1, .imm (.list (xs.map Line.enc))), (5, .imm (.int .i64 (i : Nat)))] [] []) 0
    (Nat.zero_le _) (ref_st0 rfl ⟨rfl, rfl, rfl, trivial⟩ rfl) ?_
  intro i hi
  cases hx : xs[i]? with
  | none =>
    have hge := le_of_at hx
    repeat' first | refine go_seq ?_ | refine go_region ?_ | refine go_draw drawsOk ?_ | ((first | refine go_op rfl ?_ | refine go_nil ?_ | refine go_dop rfl ?_ | refine go_dend (by kernel_rfl) ?_) <;> conv => whnf) | ((first | refine go_loadB ?_ | refine ⟨by kernel_rfl, ?_⟩ | refine go_ret ?_) <;> conv => whnf) | refine go_block ?_ | ((first | refine go_skip ?_ | refine go_exit ?_) <;> conv => whnf) | refine go_true rfl ?_ | refine go_false rfl ?_ | refine go_cond rfl (fun h => ?_) (fun h => ?_) | refine ⟨rfl, ?_⟩ | ((first | refine ⟨trivial, ?_⟩ | refine ⟨le_of_ble rfl, ?_⟩) <;> conv => whnf) | fail
    all_goals first
      | (exfalso; simp at h; omega)
      | exact ret_imm rfl rfl rfl rfl rfl rfl
  | some v =>
    have hlt := lt_of_at hx
    have hr := row_at Line.enc hx
    repeat' first | refine go_seq ?_ | refine go_region ?_ | refine go_draw drawsOk ?_ | ((first | refine go_op rfl ?_ | refine go_nil ?_ | refine go_dop rfl ?_ | refine go_dend (by kernel_rfl) ?_ | refine go_call [] (c81s v (hall v (List.mem_of_getElem? hx))) rfl rfl rfl rfl ?_ | refine go_idx rfl rfl rfl rfl (by omega) hr rfl ?_) <;> conv => whnf) | ((first | refine go_loadB ?_ | refine ⟨by kernel_rfl, ?_⟩ | refine go_ret ?_) <;> conv => whnf) | refine go_block ?_ | ((first | refine go_skip ?_ | refine go_exit ?_) <;> conv => whnf) | refine go_true rfl ?_ | refine go_false rfl ?_ | refine go_cond rfl (fun h => ?_) (fun h => ?_) | refine ⟨rfl, ?_⟩ | ((first | refine ⟨trivial, ?_⟩ | refine ⟨le_of_ble rfl, ?_⟩) <;> conv => whnf) | fail
    all_goals first
      | (exact go_next (i + 1) (by omega) (by omega) (ref_st0 rfl ⟨rfl, rfl, next_i (by omega), trivial⟩ rfl))
      | (exfalso; simp at h; done)
      | (exfalso; simp [str_self] at h; done)
      | (exfalso; simp at h; omega)

structure Network where
  stops : List ByteArray
  lines : List Line

def Network.enc (v : Network) : List D := [.list (v.stops.map strRow), .list (v.lines.map Line.enc)]
def Network.ok (v : Network) : Prop := v.stops.length ≤ 9223372036854775807 ∧ (∀ x ∈ v.stops, x.size ≤ maxLen) ∧ v.lines.length ≤ 9223372036854775807 ∧ (∀ x ∈ v.lines, x.ok)
def Network.fit (v : Network) : Prop := v.stops.length ≤ 1048576 ∧ (∀ x ∈ v.stops, x.size ≤ 1048576) ∧ v.lines.length ≤ 1048576 ∧ (∀ x ∈ v.lines, x.fit)

def szNetwork (n : Int) (v : Network) : Int := szLineS (szStringS n v.stops) v.lines
theorem szNetwork_sz : Sz szNetwork := (Sz.comp (f := fun n (v : Network) => szStringS (n) v.stops) (g := fun n (v : Network) => szLineS (n) v.lines) (szStringS_sz.on (fun v : Network => v.stops)) (szLineS_sz.on (fun v : Network => v.lines)))

theorem c15 (v : Network) (hok : v.ok) (n : Int) (h0 : 0 ≤ n) (h1 : n ≤ 1048576) : CallOk Try.prog 15 [.imm (.agg v.enc), .imm (.int .i64 n)] { res := [.imm (.int .i64 (szNetwork n v))] } := by
  refine callOk_of tyOk Try.func15 rfl rfl (le_of_ble rfl) (le_of_ble rfl) (mutOk_imm rfl _) ?_
  obtain ⟨k_stops, q_stops, k_lines, q_lines⟩ := hok
  have hres : szNetwork n v = szLineS (szStringS n v.stops) v.lines := rfl
  have hc0 := c31 v.stops q_stops k_stops n (by omega) (by omega)
  have hlo0 := szStringS_sz.lo n v.stops
  have hle0 := szStringS_sz.le n v.stops (by omega)
  generalize hm0 : szStringS n v.stops = m1 at *
  by_cases hb0 : m1 < 0
  · have hn : m1 = -1 := by omega
    have hr : szNetwork n v = -1 := by rw [hres, hn, szLineS_sz.neg (-1) _ (by omega)]
    repeat' first | refine go_seq ?_ | refine go_region ?_ | ((first | refine go_op rfl ?_ | refine go_nil ?_ | refine go_call [] (hc0) rfl rfl rfl rfl ?_) <;> conv => whnf) | ((first | refine go_loadB ?_ | refine ⟨by kernel_rfl, ?_⟩ | refine go_ret ?_) <;> conv => whnf) | ((first | refine go_skip ?_) <;> conv => whnf) | refine go_true rfl ?_ | refine go_false rfl ?_ | refine go_cond rfl (fun h => ?_) (fun h => ?_) | refine ⟨rfl, ?_⟩ | ((first | refine ⟨trivial, ?_⟩ | refine ⟨le_of_ble rfl, ?_⟩) <;> conv => whnf) | fail
    all_goals first
      | (refine ret_imm rfl rfl rfl rfl ?_ rfl; rw [hr]; done)
      | (refine ret_imm rfl rfl rfl rfl ?_ rfl; rw [hr, hn]; done)
      | (exfalso; have h' := of_decide_eq_false h; omega)
      | (exfalso; have h' := of_decide_eq_true h; omega)
      | (exfalso; rename_i hq; have h' := of_decide_eq_true hq; omega)
      | (exfalso; rename_i hq; have h' := of_decide_eq_false hq; omega)
      | (exfalso; rename_i hq _; have h' := of_decide_eq_true hq; omega)
      | (exfalso; rename_i hq _; have h' := of_decide_eq_false hq; omega)
      | trace_state
  have hc1 := c32 v.lines q_lines k_lines m1 (by omega) (by omega)
  have hlo1 := szLineS_sz.lo m1 v.lines
  have hle1 := szLineS_sz.le m1 v.lines (by omega)
  generalize hm1 : szLineS m1 v.lines = m2 at *
  by_cases hb1 : m2 < 0
  · have hn : m2 = -1 := by omega
    have hr : szNetwork n v = -1 := by rw [hres, hn]
    repeat' first | refine go_seq ?_ | refine go_region ?_ | ((first | refine go_op rfl ?_ | refine go_nil ?_ | refine go_call [] (hc0) rfl rfl rfl rfl ?_ | refine go_call [] (hc1) rfl rfl rfl rfl ?_) <;> conv => whnf) | ((first | refine go_loadB ?_ | refine ⟨by kernel_rfl, ?_⟩ | refine go_ret ?_) <;> conv => whnf) | ((first | refine go_skip ?_) <;> conv => whnf) | refine go_true rfl ?_ | refine go_false rfl ?_ | refine go_cond rfl (fun h => ?_) (fun h => ?_) | refine ⟨rfl, ?_⟩ | ((first | refine ⟨trivial, ?_⟩ | refine ⟨le_of_ble rfl, ?_⟩) <;> conv => whnf) | fail
    all_goals first
      | (refine ret_imm rfl rfl rfl rfl ?_ rfl; rw [hr]; done)
      | (refine ret_imm rfl rfl rfl rfl ?_ rfl; rw [hr, hn]; done)
      | (exfalso; have h' := of_decide_eq_false h; omega)
      | (exfalso; have h' := of_decide_eq_true h; omega)
      | (exfalso; rename_i hq; have h' := of_decide_eq_true hq; omega)
      | (exfalso; rename_i hq; have h' := of_decide_eq_false hq; omega)
      | (exfalso; rename_i hq _; have h' := of_decide_eq_true hq; omega)
      | (exfalso; rename_i hq _; have h' := of_decide_eq_false hq; omega)
      | trace_state
  have hr : szNetwork n v = m2 := hres
  repeat' first | refine go_seq ?_ | refine go_region ?_ | ((first | refine go_op rfl ?_ | refine go_nil ?_ | refine go_call [] (hc0) rfl rfl rfl rfl ?_ | refine go_call [] (hc1) rfl rfl rfl rfl ?_) <;> conv => whnf) | ((first | refine go_loadB ?_ | refine ⟨by kernel_rfl, ?_⟩ | refine go_ret ?_) <;> conv => whnf) | ((first | refine go_skip ?_) <;> conv => whnf) | refine go_true rfl ?_ | refine go_false rfl ?_ | refine go_cond rfl (fun h => ?_) (fun h => ?_) | refine ⟨rfl, ?_⟩ | ((first | refine ⟨trivial, ?_⟩ | refine ⟨le_of_ble rfl, ?_⟩) <;> conv => whnf) | fail
  all_goals first
    | (refine ret_imm rfl rfl rfl rfl ?_ rfl; rw [hr]; done)
    | (exfalso; have h' := of_decide_eq_false h; omega)
    | (exfalso; have h' := of_decide_eq_true h; omega)
    | (exfalso; rename_i hq; have h' := of_decide_eq_true hq; omega)
    | (exfalso; rename_i hq; have h' := of_decide_eq_false hq; omega)
    | (exfalso; rename_i hq _; have h' := of_decide_eq_true hq; omega)
    | (exfalso; rename_i hq _; have h' := of_decide_eq_false hq; omega)
    | trace_state

theorem szNetwork_fit {n : Int} {v : Network} (h1 : n ≤ 1048576) (h : 0 ≤ szNetwork n v) : v.fit := by
  have p1 : 0 ≤ szStringS (n) v.stops := szLineS_sz.pos (v := v.lines) h
  obtain ⟨b1, a1, c1⟩ := szList_pos szLine_sz h
  obtain ⟨b0, a0, c0⟩ := szList_pos szStr_sz p1
  have h0 : 0 ≤ n := szStringS_sz.pos (v := v.stops) p1
  have u1 := szStringS_sz.le (n) (v.stops) h0
  exact ⟨by omega, fun x hx => by obtain ⟨m, e1, e2⟩ := c0 x hx; have := less_pos e2; omega, by omega, fun x hx => by obtain ⟨m, e1, e2⟩ := c1 x hx; exact szLine_fit (by omega) e2⟩

theorem c24s (v : Network) (hf : v.fit) : CallOk Try.prog 24 [.imm (.agg v.enc), .imm (.agg v.enc)] { res := [.imm (.bool true)] } := by
  refine callOk_of tyOk Try.func24 rfl rfl (le_of_ble rfl) (le_of_ble rfl) (mutOk_imm rfl _) ?_
  obtain ⟨k_stops, q_stops, k_lines, q_lines⟩ := hf
  repeat' first | refine go_seq ?_ | refine go_region ?_ | ((first | refine go_op rfl ?_ | refine go_nil ?_ | refine go_call [] (c52s v.stops k_stops) rfl rfl rfl rfl ?_ | refine go_call [] (c53s v.lines q_lines k_lines) rfl rfl rfl rfl ?_) <;> conv => whnf) | ((first | refine go_loadB ?_ | refine ⟨by kernel_rfl, ?_⟩ | refine go_ret ?_) <;> conv => whnf) | ((first | refine go_skip ?_) <;> conv => whnf) | refine go_true rfl ?_ | refine go_false rfl ?_ | refine go_cond rfl (fun h => ?_) (fun h => ?_) | refine ⟨rfl, ?_⟩ | ((first | refine ⟨trivial, ?_⟩ | refine ⟨le_of_ble rfl, ?_⟩) <;> conv => whnf) | fail
  all_goals first
    | exact ret_imm rfl rfl rfl rfl rfl rfl
    | (exfalso; simp at h; done)
    | (exfalso; simp [str_self] at h; done)

end Go.Proofs.Ytfjphbjbobojbaa

