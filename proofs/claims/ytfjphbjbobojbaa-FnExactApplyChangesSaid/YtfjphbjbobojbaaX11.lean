/- Marks of networks and timetables, looked for. -/
import Derived.Test.YtfjphbjbobojbaaX3
namespace Go.Proofs.Ytfjphbjbobojbaa
open Go Go.Am
set_option maxRecDepth 100000
set_option maxHeartbeats 8000000
attribute [local irreducible] amOps amC opCall opIndexAddr opPick retQ opMake opStore amDraw opAppend opLoad opNilCmp opIndex opSlice

theorem c58 (ls : List Line) (k : Int) (h0 : 0 ≤ k) (h1 : k + cLns ls ≤ 576460752303423488) (hl : ls.length ≤ 1048576) (hlf : ∀ l ∈ ls, l.fit) :
    CallOk Try.prog 58 [.imm (.list ((mLns k ls).map Line.enc)), .imm (.int .i64 k)] { res := [.imm (.int .i64 (k + cLns ls))] } := by
  refine callOk_of tyOk Try.func58 rfl rfl (le_of_ble rfl) (le_of_ble rfl) (mutOk_imm rfl _) ?_
  have hml := mLns_len ls k
  repeat' first | refine go_seq ?_ | refine go_region ?_ | refine go_draw drawsOk ?_ | ((first | refine go_op rfl ?_ | refine go_nil ?_ | refine go_dop rfl ?_ | refine go_dend (by kernel_rfl) ?_) <;> conv => whnf) | ((first | refine go_loadB ?_ | refine ⟨by kernel_rfl, ?_⟩ | refine go_ret ?_) <;> conv => whnf) | refine go_block ?_ | ((first | refine go_skip ?_ | refine go_exit ?_) <;> conv => whnf) | refine go_true rfl ?_ | refine go_false rfl ?_ | refine go_cond rfl (fun h => ?_) (fun h => ?_) | refine ⟨rfl, ?_⟩ | ((first | refine ⟨trivial, ?_⟩ | refine ⟨le_of_ble rfl, ?_⟩) <;> conv => whnf) | fail
  refine go_loop (α := Nat) (fun i => i ≤ ls.length) (fun i => ls.length - i)
    (fun i => st Try.f58.ntmps [(0, .imm (.list ((mLns k ls).map Line.enc))), (1, .imm (.int .i64 (k + (cLns (ls.take i) : Nat)))), (5, .imm (.int .i64 (i : Nat)))] [] []) 0 (Nat.zero_le _) (ref_st0 rfl ⟨rfl, ?_, rfl, trivial⟩ rfl) ?_
  · show AV.imm _ = AV.imm _
    simp [cLns]
  intro i hi
  cases hx : ls[i]? with
  | none =>
    have hge := le_of_at hx
    rw [cLns_all hge]
    repeat' first | refine go_seq ?_ | refine go_region ?_ | refine go_draw drawsOk ?_ | ((first | refine go_op rfl ?_ | refine go_nil ?_ | refine go_dop rfl ?_ | refine go_dend (by kernel_rfl) ?_) <;> conv => whnf) | ((first | refine go_loadB ?_ | refine ⟨by kernel_rfl, ?_⟩ | refine go_ret ?_) <;> conv => whnf) | refine go_block ?_ | ((first | refine go_skip ?_ | refine go_exit ?_) <;> conv => whnf) | refine go_true rfl ?_ | refine go_false rfl ?_ | refine go_cond rfl (fun h => ?_) (fun h => ?_) | refine ⟨rfl, ?_⟩ | ((first | refine ⟨trivial, ?_⟩ | refine ⟨le_of_ble rfl, ?_⟩) <;> conv => whnf) | fail
    all_goals first
      | exact ret_imm rfl rfl rfl rfl rfl rfl
      | (exfalso; simp [hml] at h; omega)
      | trace_state
  | some l =>
    have hlt := lt_of_at hx
    have hr : ((mLns k ls).map Line.enc)[((i : Nat) : Int).toNat]? = some (mLn (k + (cLns (ls.take i) : Nat)) l).enc := by
      rw [Int.toNat_natCast, List.getElem?_map, mLns_at hx]; rfl
    have hfit := hlf l (List.mem_of_getElem? hx)
    have hc1 := cLns_take ls (i + 1)
    have hcn := cLns_next hx
    have hcl : cLn l = 1 + l.stops.length + l.runs.length := rfl
    generalize hK : k + ((cLns (ls.take i) : Nat) : Int) = K at *
    have hK1 : k + ((cLns (ls.take (i + 1)) : Nat) : Int) = K + 1 + l.stops.length + l.runs.length := by rw [hcn]; omega
    have hw : IntKind.i64.wrap (K + 1) = K + 1 := wrap_small (by omega) (by omega)
    have hT := c82 K (by omega)
    have hl1 : l.stops.length ≤ 1048576 := hfit.2.1
    have hl2 : l.runs.length ≤ 1048576 := hfit.2.2
    have hI1 : CallOk Try.prog 84 [.imm (.list ((marksIntX (K + 1) l.stops.length).map intRow)), .imm (.int .i64 (IntKind.i64.wrap (K + 1)))] { res := [.imm (.int .i64 (K + 1 + l.stops.length))] } := by
      have e := kAt_eq (k := K + 1) (by omega) (1 * l.stops.length) (by omega)
      rw [Nat.one_mul] at e
      have := c84 (K + 1) l.stops.length (by omega) (by omega) hl1
      rw [Nat.one_mul, e] at this
      rw [hw]; exact this
    have hI2 : CallOk Try.prog 84 [.imm (.list ((marksIntX (K + 1 + l.stops.length) l.runs.length).map intRow)), .imm (.int .i64 (K + 1 + l.stops.length))] { res := [.imm (.int .i64 (K + 1 + l.stops.length + l.runs.length))] } := by
      have e := kAt_eq (k := K + 1 + l.stops.length) (by omega) (1 * l.runs.length) (by omega)
      rw [Nat.one_mul] at e
      have := c84 (K + 1 + l.stops.length) l.runs.length (by omega) (by omega) hl2
      rw [Nat.one_mul, e] at this
      exact this
    repeat' first | refine go_seq ?_ | refine go_region ?_ | refine go_draw drawsOk ?_ | ((first | refine go_op rfl ?_ | refine go_nil ?_ | refine go_dop rfl ?_ | refine go_dend (by kernel_rfl) ?_ | refine go_call [] (hT) rfl rfl rfl rfl ?_ | refine go_call [] (hI1) rfl rfl rfl rfl ?_ | refine go_call [] (hI2) rfl rfl rfl rfl ?_ | refine go_idx rfl rfl rfl rfl (by omega) hr rfl ?_) <;> conv => whnf) | ((first | refine go_loadB ?_ | refine ⟨by kernel_rfl, ?_⟩ | refine go_ret ?_) <;> conv => whnf) | refine go_block ?_ | ((first | refine go_skip ?_ | refine go_exit ?_) <;> conv => whnf) | refine go_true rfl ?_ | refine go_false rfl ?_ | refine go_cond rfl (fun h => ?_) (fun h => ?_) | refine ⟨rfl, ?_⟩ | ((first | refine ⟨trivial, ?_⟩ | refine ⟨le_of_ble rfl, ?_⟩) <;> conv => whnf) | fail
    all_goals first
      | (refine go_next (i + 1) (by omega) (by omega) (ref_st0 rfl ⟨rfl, ?_, next_i (by omega), trivial⟩ rfl)
         show AV.imm _ = AV.imm _
         rw [hK1]
         done)
      | (exfalso; simp [mLn, str_self] at h; done)
      | (exfalso; simp [hml] at h; omega)
      | (exfalso; simp only [decide_eq_true_eq] at h; omega)
      | trace_state

theorem c29 (n : Network) (hf : n.fit) (k : Int) (h0 : 0 ≤ k) (h1 : k + cNet n ≤ 576460752303423488) :
    CallOk Try.prog 29 [.imm (.agg (mNet k n).enc), .imm (.int .i64 k)] { res := [.imm (.int .i64 (k + cNet n))] } := by
  refine callOk_of tyOk Try.func29 rfl rfl (le_of_ble rfl) (le_of_ble rfl) (mutOk_imm rfl _) ?_
  have hc : cNet n = n.stops.length + cLns n.lines := rfl
  have hsl : n.stops.length ≤ 1048576 := hf.1
  have hS : CallOk Try.prog 57 [.imm (.list ((marksStrX k n.stops.length).map strRow)), .imm (.int .i64 k)] { res := [.imm (.int .i64 (k + n.stops.length))] } := by
    have e := kAt_eq (k := k) h0 (1 * n.stops.length) (by omega)
    rw [Nat.one_mul] at e
    have := c57 k n.stops.length h0 (by omega) hsl
    rw [Nat.one_mul, e] at this
    exact this
  have hL := c58 n.lines (k + n.stops.length) (by omega) (by omega) hf.2.2.1 hf.2.2.2
  rw [show k + (n.stops.length : Int) + (cLns n.lines : Nat) = k + (cNet n : Nat) from by omega] at hL
  repeat' first | refine go_seq ?_ | refine go_region ?_ | ((first | refine go_op rfl ?_ | refine go_nil ?_ | refine go_call [] (hS) rfl rfl rfl rfl ?_ | refine go_call [] (hL) rfl rfl rfl rfl ?_) <;> conv => whnf) | ((first | refine go_loadB ?_ | refine ⟨by kernel_rfl, ?_⟩ | refine go_ret ?_) <;> conv => whnf) | ((first | refine go_skip ?_) <;> conv => whnf) | refine go_true rfl ?_ | refine go_false rfl ?_ | refine go_cond rfl (fun h => ?_) (fun h => ?_) | refine ⟨rfl, ?_⟩ | ((first | refine ⟨trivial, ?_⟩ | refine ⟨le_of_ble rfl, ?_⟩) <;> conv => whnf) | fail
  all_goals first
    | exact ret_imm rfl rfl rfl rfl rfl rfl
    | (exfalso; simp only [decide_eq_true_eq] at h; omega)
    | trace_state

theorem c14 (t : Timetable) (hf : t.fit) (k : Int) (h0 : 0 ≤ k) (h1 : k + cTT t ≤ 576460752303423488) :
    CallOk Try.prog 14 [.imm (.agg (mTT k t).enc), .imm (.int .i64 k)] { res := [.imm (.int .i64 (k + cTT t))] } := by
  refine callOk_of tyOk Try.func14 rfl rfl (le_of_ble rfl) (le_of_ble rfl) (mutOk_imm rfl _) ?_
  have hc : cTT t = cNet t.net + 3 * t.trips.length := rfl
  have hN := c29 t.net hf.1 k h0 (by omega)
  have hS : CallOk Try.prog 30 [.imm (.list ((marksTrip (k + cNet t.net) t.trips.length).map Trip.enc)), .imm (.int .i64 (k + cNet t.net))] { res := [.imm (.int .i64 (k + cTT t))] } := by
    have e := kAt_eq (k := k + cNet t.net) (by omega) (3 * t.trips.length) (by omega)
    have := c30 (k + cNet t.net) t.trips.length (by omega) (by omega) hf.2.1
    rw [e, show k + (cNet t.net : Int) + ((3 * t.trips.length : Nat) : Int) = k + (cTT t : Nat) from by omega] at this
    exact this
  repeat' first | refine go_seq ?_ | refine go_region ?_ | ((first | refine go_op rfl ?_ | refine go_nil ?_ | refine go_call [] (hN) rfl rfl rfl rfl ?_ | refine go_call [] (hS) rfl rfl rfl rfl ?_) <;> conv => whnf) | ((first | refine go_loadB ?_ | refine ⟨by kernel_rfl, ?_⟩ | refine go_ret ?_) <;> conv => whnf) | ((first | refine go_skip ?_) <;> conv => whnf) | refine go_true rfl ?_ | refine go_false rfl ?_ | refine go_cond rfl (fun h => ?_) (fun h => ?_) | refine ⟨rfl, ?_⟩ | ((first | refine ⟨trivial, ?_⟩ | refine ⟨le_of_ble rfl, ?_⟩) <;> conv => whnf) | fail
  all_goals first
    | exact ret_imm rfl rfl rfl rfl rfl rfl
    | (exfalso; simp only [decide_eq_true_eq] at h; omega)
    | trace_state
end Go.Proofs.Ytfjphbjbobojbaa

