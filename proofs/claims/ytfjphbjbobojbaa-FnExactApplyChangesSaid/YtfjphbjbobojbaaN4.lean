/- The walks of the laws' own helpers over timetables and delays. MADE BY PROGRAM (nest.py). -/
import Derived.Test.YtfjphbjbobojbaaN3
namespace Go.Proofs.Ytfjphbjbobojbaa
open Go Go.Am
set_option maxRecDepth 100000
set_option maxHeartbeats 4000000
attribute [local irreducible] amOps amC opCall opIndexAddr opPick retQ opMake opStore amDraw opAppend opLoad opNilCmp opIndex opSlice

structure Trip where
  id : Int
  line : Int
  start : Int

def Trip.enc (v : Trip) : List D := [.int .i64 v.id, .int .i64 v.line, .int .i64 v.start]
def Trip.ok (v : Trip) : Prop := i64 v.id ∧ i64 v.line ∧ i64 v.start
def Trip.fit (v : Trip) : Prop := True

theorem trip_gr (xs : List Trip) : ∀ x ∈ xs.map Trip.enc, x.all D.gr = true := by
  intro x hx
  obtain ⟨_, _, rfl⟩ := List.mem_map.1 hx
  rfl
theorem trip_one (xs : List Trip) : (xs.map Trip.enc).all (fun r => r.all D.one) = true := by
  simp only [List.all_map, List.all_eq_true]
  intro _ _
  rfl
theorem trip_view (xs : List Trip) : ((xs.map Trip.enc).drop 0).take (xs.map Trip.enc).length = xs.map Trip.enc := by rw [List.drop_zero, List.take_length]

theorem c43 (v : Trip) : CallOk Try.prog 43 [.imm (.agg v.enc)] { res := [.imm (.agg v.enc)] } := by
  refine callOk_of tyOk Try.func43 rfl rfl (le_of_ble rfl) (le_of_ble rfl) (mutOk_imm rfl _) ?_
  repeat' first | refine go_seq ?_ | refine go_region ?_ | ((first | refine go_op rfl ?_ | refine go_nil ?_ | refine go_storeBox rfl rfl rfl rfl rfl rfl ?_) <;> conv => whnf) | ((first | refine go_loadB ?_ | refine ⟨by kernel_rfl, ?_⟩ | refine go_ret ?_) <;> conv => whnf) | ((first | refine go_skip ?_) <;> conv => whnf) | refine ⟨rfl, ?_⟩ | ((first | refine ⟨trivial, ?_⟩ | refine ⟨le_of_ble rfl, ?_⟩) <;> conv => whnf) | fail
  all_goals exact ret_imm rfl rfl rfl rfl rfl rfl

theorem c54s (v : Trip) : CallOk Try.prog 54 [.imm (.agg v.enc), .imm (.agg v.enc)] { res := [.imm (.bool true)] } := by
  refine callOk_of tyOk Try.func54 rfl rfl (le_of_ble rfl) (le_of_ble rfl) (mutOk_imm rfl _) ?_
  repeat' first | refine go_seq ?_ | refine go_region ?_ | ((first | refine go_op rfl ?_ | refine go_nil ?_) <;> conv => whnf) | ((first | refine go_loadB ?_ | refine ⟨by kernel_rfl, ?_⟩ | refine go_ret ?_) <;> conv => whnf) | ((first | refine go_skip ?_) <;> conv => whnf) | refine go_true rfl ?_ | refine go_false rfl ?_ | refine go_cond rfl (fun h => ?_) (fun h => ?_) | refine ⟨rfl, ?_⟩ | ((first | refine ⟨trivial, ?_⟩ | refine ⟨le_of_ble rfl, ?_⟩) <;> conv => whnf) | fail
  all_goals first
    | exact ret_imm rfl rfl rfl rfl rfl rfl
    | (exfalso; simp at h; done)
    | (exfalso; simp [str_self] at h; done)

def szTripS (n : Int) (xs : List Trip) : Int := less n xs.length
theorem szTripS_sz : Sz szTripS := less_sz.on List.length

theorem c16 (xs : List Trip) (hl : xs.length ≤ 9223372036854775807) (n : Int) (h0 : 0 ≤ n) (h1 : n ≤ 1048576) : CallOk Try.prog 16 [.imm (.list (xs.map Trip.enc)), .imm (.int .i64 n)] { res := [.imm (.int .i64 (szTripS n xs))] } := by
  refine callOk_of tyOk Try.func16 rfl rfl (le_of_ble rfl) (le_of_ble rfl) (mutOk_imm rfl _) ?_
  have hlm : (xs.map Trip.enc).length = xs.length := List.length_map _
  have hw : IntKind.i64.wrap (n - ((xs.map Trip.enc).length : Int)) = n - xs.length := by rw [hlm]; exact wrap_small (by omega) (by omega)
  have hres : szTripS n xs = if n - (xs.length : Int) < 0 then -1 else n - xs.length := less_eq h0
  repeat' first | refine go_seq ?_ | refine go_region ?_ | ((first | refine go_op rfl ?_ | refine go_nil ?_) <;> conv => whnf) | ((first | refine ⟨by kernel_rfl, ?_⟩ | refine go_ret ?_) <;> conv => whnf) | ((first | refine go_skip ?_) <;> conv => whnf) | refine go_true rfl ?_ | refine go_false rfl ?_ | refine go_cond rfl (fun h => ?_) (fun h => ?_) | refine ⟨rfl, ?_⟩ | ((first | refine ⟨trivial, ?_⟩ | refine ⟨le_of_ble rfl, ?_⟩) <;> conv => whnf) | fail
  all_goals first
    | (have h' := of_decide_eq_true h
       rw [hw] at h'
       exact ret_imm rfl rfl rfl rfl (by rw [hres, if_pos h']) rfl)
    | (have h' := of_decide_eq_false h
       rw [hw] at h'
       exact ret_imm rfl rfl rfl rfl (by rw [hres, if_neg h', hw]) rfl)

theorem c25s (xs : List Trip) (hl : xs.length ≤ 1048576) : CallOk Try.prog 25 [.imm (.list (xs.map Trip.enc)), .imm (.list (xs.map Trip.enc))] { res := [.imm (.bool true)] } := by
  refine callOk_of tyOk Try.func25 rfl rfl (le_of_ble rfl) (le_of_ble rfl) (mutOk_imm rfl _) ?_
  repeat' first | refine go_seq ?_ | refine go_region ?_ | refine go_draw drawsOk ?_ | ((first | refine go_op rfl ?_ | refine go_nil ?_ | refine go_dop rfl ?_ | refine go_dend (by kernel_rfl) ?_) <;> conv => whnf) | ((first | refine go_loadB ?_ | refine ⟨by kernel_rfl, ?_⟩ | refine go_ret ?_) <;> conv => whnf) | refine go_block ?_ | ((first | refine go_skip ?_ | refine go_exit ?_) <;> conv => whnf) | refine go_true rfl ?_ | refine go_false rfl ?_ | refine go_cond rfl (fun h => ?_) (fun h => ?_) | refine ⟨rfl, ?_⟩ | ((first | refine ⟨trivial, ?_⟩ | refine ⟨le_of_ble rfl, ?_⟩) <;> conv => whnf) | fail
  · exfalso; simp at h
  refine go_loop (α := Nat) (fun i => i ≤ xs.length) (fun i => xs.length - i) (fun i => st Try.f25.ntmps [(0, .imm (.list (xs.map Trip.enc))), (1, .imm (.list (xs.map Trip.enc))), (5, .imm (.int .i64 (i : Nat)))] [] []) 0
    (Nat.zero_le _) (ref_st0 rfl ⟨rfl, rfl, rfl, trivial⟩ rfl) ?_
  intro i hi
  cases hx : xs[i]? with
  | none =>
    have hge := le_of_at hx
    repeat' first | refine go_seq ?_ | refine go_region ?_ | refine go_draw drawsOk ?_ | ((first | refine go_op rfl ?_ | refine go_nil ?_ | refine go_dop rfl ?_ | refine go_dend (by kernel_rfl) ?_) <;> conv => whnf) | ((first | refine go_loadB ?_ | refine ⟨by kernel_rfl, ?_⟩ | refine go_ret ?_) <;> conv => whnf) | refine go_block ?_ | ((first | refine go_skip ?_ | refine go_exit ?_) <;> conv => whnf) | refine go_true rfl ?_ | refine go_false rfl ?_ | refine go_cond rfl (fun h => ?_) (fun h => ?_) | refine ⟨rfl, ?_⟩ | ((first | refine ⟨trivial, ?_⟩ | refine ⟨le_of_ble rfl, ?_⟩) <;> conv => whnf) | fail
    all_goals first
      | (exfalso; simp at h; omega)
      | exact ret_imm rfl rfl rfl rfl rfl rfl
  | some v =>
    have hlt := lt_of_at hx
    have hr := row_at Trip.enc hx
    repeat' first | refine go_seq ?_ | refine go_region ?_ | refine go_draw drawsOk ?_ | ((first | refine go_op rfl ?_ | refine go_nil ?_ | refine go_dop rfl ?_ | refine go_dend (by kernel_rfl) ?_ | refine go_call [] (c54s v) rfl rfl rfl rfl ?_ | refine go_idx rfl rfl rfl rfl (by omega) hr rfl ?_) <;> conv => whnf) | ((first | refine go_loadB ?_ | refine ⟨by kernel_rfl, ?_⟩ | refine go_ret ?_) <;> conv => whnf) | refine go_block ?_ | ((first | refine go_skip ?_ | refine go_exit ?_) <;> conv => whnf) | refine go_true rfl ?_ | refine go_false rfl ?_ | refine go_cond rfl (fun h => ?_) (fun h => ?_) | refine ⟨rfl, ?_⟩ | ((first | refine ⟨trivial, ?_⟩ | refine ⟨le_of_ble rfl, ?_⟩) <;> conv => whnf) | fail
    all_goals first
      | (exact go_next (i + 1) (by omega) (by omega) (ref_st0 rfl ⟨rfl, rfl, next_i (by omega), trivial⟩ rfl))
      | (exfalso; simp at h; done)
      | (exfalso; simp [str_self] at h; done)
      | (exfalso; simp at h; omega)

structure Timetable where
  net : Network
  trips : List Trip

def Timetable.enc (v : Timetable) : List D := [.list (v.net.stops.map strRow), .list (v.net.lines.map Line.enc), .list (v.trips.map Trip.enc)]
def Timetable.ok (v : Timetable) : Prop := v.net.ok ∧ v.trips.length ≤ 9223372036854775807 ∧ (∀ x ∈ v.trips, x.ok)
def Timetable.fit (v : Timetable) : Prop := v.net.fit ∧ v.trips.length ≤ 1048576 ∧ (∀ x ∈ v.trips, x.fit)

def szTimetable (n : Int) (v : Timetable) : Int := szTripS (szNetwork n v.net) v.trips
theorem szTimetable_sz : Sz szTimetable := (Sz.comp (f := fun n (v : Timetable) => szNetwork (n) v.net) (g := fun n (v : Timetable) => szTripS (n) v.trips) (szNetwork_sz.on (fun v : Timetable => v.net)) (szTripS_sz.on (fun v : Timetable => v.trips)))

theorem c4 (v : Timetable) (hok : v.ok) (n : Int) (h0 : 0 ≤ n) (h1 : n ≤ 1048576) : CallOk Try.prog 4 [.imm (.agg v.enc), .imm (.int .i64 n)] { res := [.imm (.int .i64 (szTimetable n v))] } := by
  refine callOk_of tyOk Try.func4 rfl rfl (le_of_ble rfl) (le_of_ble rfl) (mutOk_imm rfl _) ?_
  obtain ⟨k_net, k_trips, q_trips⟩ := hok
  have hres : szTimetable n v = szTripS (szNetwork n v.net) v.trips := rfl
  have hc0 := c15 v.net k_net n (by omega) (by omega)
  have hlo0 := szNetwork_sz.lo n v.net
  have hle0 := szNetwork_sz.le n v.net (by omega)
  generalize hm0 : szNetwork n v.net = m1 at *
  by_cases hb0 : m1 < 0
  · have hn : m1 = -1 := by omega
    have hr : szTimetable n v = -1 := by rw [hres, hn, szTripS_sz.neg (-1) _ (by omega)]
    repeat' first | refine go_seq ?_ | refine go_region ?_ | ((first | refine go_op rfl ?_ | refine go_nil ?_ | refine go_call [] (hc0) rfl rfl rfl rfl ?_) <;> conv => whnf) | ((first | refine go_loadB ?_ | refine ⟨by kernel_rfl, ?_⟩ | refine go_ret ?_) <;> conv => whnf) | ((first | refine go_skip ?_) <;> conv => whnf) | refine go_true rfl ?_ | refine go_false rfl ?_ | refine go_cond rfl (fun h => ?_) (fun h => ?_) | refine ⟨rfl, ?_⟩ | ((first | refine ⟨trivial, ?_⟩ | refine ⟨le_of_ble rfl, ?_⟩) <;> conv => whnf) | fail
    all_goals first
      | (refine ret_imm rfl rfl rfl rfl ?_ rfl; rw [hr]; done)
      | (refine ret_imm rfl rfl rfl rfl ?_ rfl; rw [hr, hn]; done)
      | (exfalso; have h' := of_decide_eq_false h; omega)
      | (exfalso; have h' := of_decide_eq_true h; omega)
      | (exfalso; rename_i hq; have h' := of_decide_eq_true hq; omega)
      | (exfalso; rename_i hq; have h' := of_decide_eq_false hq; omega)
      | (exfalso; rename_i hq _; have h' := of_decide_eq_true hq; omega)
      | (exfalso; rename_i hq _; have h' := of_decide_eq_false hq; omega)
      | trace_state
  have hc1 := c16 v.trips k_trips m1 (by omega) (by omega)
  have hlo1 := szTripS_sz.lo m1 v.trips
  have hle1 := szTripS_sz.le m1 v.trips (by omega)
  generalize hm1 : szTripS m1 v.trips = m2 at *
  by_cases hb1 : m2 < 0
  · have hn : m2 = -1 := by omega
    have hr : szTimetable n v = -1 := by rw [hres, hn]
    repeat' first | refine go_seq ?_ | refine go_region ?_ | ((first | refine go_op rfl ?_ | refine go_nil ?_ | refine go_call [] (hc0) rfl rfl rfl rfl ?_ | refine go_call [] (hc1) rfl rfl rfl rfl ?_) <;> conv => whnf) | ((first | refine go_loadB ?_ | refine ⟨by kernel_rfl, ?_⟩ | refine go_ret ?_) <;> conv => whnf) | ((first | refine go_skip ?_) <;> conv => whnf) | refine go_true rfl ?_ | refine go_false rfl ?_ | refine go_cond rfl (fun h => ?_) (fun h => ?_) | refine ⟨rfl, ?_⟩ | ((first | refine ⟨trivial, ?_⟩ | refine ⟨le_of_ble rfl, ?_⟩) <;> conv => whnf) | fail
    all_goals first
      | (refine ret_imm rfl rfl rfl rfl ?_ rfl; rw [hr]; done)
      | (refine ret_imm rfl rfl rfl rfl ?_ rfl; rw [hr, hn]; done)
      | (exfalso; have h' := of_decide_eq_false h; omega)
      | (exfalso; have h' := of_decide_eq_true h; omega)
      | (exfalso; rename_i hq; have h' := of_decide_eq_true hq; omega)
      | (exfalso; rename_i hq; have h' := of_decide_eq_false hq; omega)
      | (exfalso; rename_i hq _; have h' := of_decide_eq_true hq; omega)
      | (exfalso; rename_i hq _; have h' := of_decide_eq_false hq; omega)
      | trace_state
  have hr : szTimetable n v = m2 := hres
  repeat' first | refine go_seq ?_ | refine go_region ?_ | ((first | refine go_op rfl ?_ | refine go_nil ?_ | refine go_call [] (hc0) rfl rfl rfl rfl ?_ | refine go_call [] (hc1) rfl rfl rfl rfl ?_) <;> conv => whnf) | ((first | refine go_loadB ?_ | refine ⟨by kernel_rfl, ?_⟩ | refine go_ret ?_) <;> conv => whnf) | ((first | refine go_skip ?_) <;> conv => whnf) | refine go_true rfl ?_ | refine go_false rfl ?_ | refine go_cond rfl (fun h => ?_) (fun h => ?_) | refine ⟨rfl, ?_⟩ | ((first | refine ⟨trivial, ?_⟩ | refine ⟨le_of_ble rfl, ?_⟩) <;> conv => whnf) | fail
  all_goals first
    | (refine ret_imm rfl rfl rfl rfl ?_ rfl; rw [hr]; done)
    | (exfalso; have h' := of_decide_eq_false h; omega)
    | (exfalso; have h' := of_decide_eq_true h; omega)
    | (exfalso; rename_i hq; have h' := of_decide_eq_true hq; omega)
    | (exfalso; rename_i hq; have h' := of_decide_eq_false hq; omega)
    | (exfalso; rename_i hq _; have h' := of_decide_eq_true hq; omega)
    | (exfalso; rename_i hq _; have h' := of_decide_eq_false hq; omega)
    | trace_state

theorem szTimetable_fit {n : Int} {v : Timetable} (h1 : n ≤ 1048576) (h : 0 ≤ szTimetable n v) : v.fit := by
  have p1 : 0 ≤ szNetwork (n) v.net := szTripS_sz.pos (v := v.trips) h
  obtain ⟨a1, b1, _⟩ := less_pos (k := v.trips.length) h
  have h0 : 0 ≤ n := szNetwork_sz.pos (v := v.net) p1
  have u1 := szNetwork_sz.le (n) (v.net) h0
  exact ⟨szNetwork_fit (by omega) p1, by omega, fun _ _ => trivial⟩

theorem c10s (v : Timetable) (hf : v.fit) : CallOk Try.prog 10 [.imm (.agg v.enc), .imm (.agg v.enc)] { res := [.imm (.bool true)] } := by
  refine callOk_of tyOk Try.func10 rfl rfl (le_of_ble rfl) (le_of_ble rfl) (mutOk_imm rfl _) ?_
  obtain ⟨k_net, k_trips, q_trips⟩ := hf
  repeat' first | refine go_seq ?_ | refine go_region ?_ | ((first | refine go_op rfl ?_ | refine go_nil ?_ | refine go_call [] (c24s v.net k_net) rfl rfl rfl rfl ?_ | refine go_call [] (c25s v.trips k_trips) rfl rfl rfl rfl ?_) <;> conv => whnf) | ((first | refine go_loadB ?_ | refine ⟨by kernel_rfl, ?_⟩ | refine go_ret ?_) <;> conv => whnf) | ((first | refine go_skip ?_) <;> conv => whnf) | refine go_true rfl ?_ | refine go_false rfl ?_ | refine go_cond rfl (fun h => ?_) (fun h => ?_) | refine ⟨rfl, ?_⟩ | ((first | refine ⟨trivial, ?_⟩ | refine ⟨le_of_ble rfl, ?_⟩) <;> conv => whnf) | fail
  all_goals first
    | exact ret_imm rfl rfl rfl rfl rfl rfl
    | (exfalso; simp at h; done)
    | (exfalso; simp [str_self] at h; done)

end Go.Proofs.Ytfjphbjbobojbaa

