/- The walks of the laws' own helpers over delays of trips. MADE BY PROGRAM (nest.py). -/
import Derived.Test.YtfjphbjbobojbaaT1
namespace Go.Proofs.Ytfjphbjbobojbaa
open Go Go.Am
set_option maxRecDepth 100000
set_option maxHeartbeats 4000000
attribute [local irreducible] amOps amC opCall opIndexAddr opPick retQ opMake opStore amDraw opAppend opLoad opNilCmp opIndex opSlice

structure Change where
  kind : Int
  trip : Trip
  to : Int

def Change.enc (v : Change) : List D := [.int .i64 v.kind, .int .i64 v.trip.id, .int .i64 v.trip.line, .int .i64 v.trip.start, .int .i64 v.to]
def Change.ok (v : Change) : Prop := i64 v.kind ∧ v.trip.ok ∧ i64 v.to
def Change.fit (v : Change) : Prop := v.trip.fit

theorem change_gr (xs : List Change) : ∀ x ∈ xs.map Change.enc, x.all D.gr = true := by
  intro x hx
  obtain ⟨_, _, rfl⟩ := List.mem_map.1 hx
  rfl
theorem change_view (xs : List Change) : ((xs.map Change.enc).drop 0).take (xs.map Change.enc).length = xs.map Change.enc := by rw [List.drop_zero, List.take_length]

theorem c21 (v : Change) : CallOk Try.prog 21 [.imm (.agg v.enc)] { res := [.imm (.agg v.enc)] } := by
  refine callOk_of tyOk Try.func21 rfl rfl (le_of_ble rfl) (le_of_ble rfl) (mutOk_imm rfl _) ?_
  repeat' first | refine go_seq ?_ | refine go_region ?_ | ((first | refine go_op rfl ?_ | refine go_nil ?_ | refine go_storeBox rfl rfl rfl rfl rfl rfl ?_ | refine go_call [] (c43 v.trip) rfl rfl rfl rfl ?_) <;> conv => whnf) | ((first | refine go_loadB ?_ | refine ⟨by kernel_rfl, ?_⟩ | refine go_ret ?_) <;> conv => whnf) | ((first | refine go_skip ?_) <;> conv => whnf) | refine ⟨rfl, ?_⟩ | ((first | refine ⟨trivial, ?_⟩ | refine ⟨le_of_ble rfl, ?_⟩) <;> conv => whnf) | fail
  all_goals exact ret_imm rfl rfl rfl rfl rfl rfl

theorem c26s (v : Change) : CallOk Try.prog 26 [.imm (.agg v.enc), .imm (.agg v.enc)] { res := [.imm (.bool true)] } := by
  refine callOk_of tyOk Try.func26 rfl rfl (le_of_ble rfl) (le_of_ble rfl) (mutOk_imm rfl _) ?_
  repeat' first | refine go_seq ?_ | refine go_region ?_ | ((first | refine go_op rfl ?_ | refine go_nil ?_ | refine go_call [] (c54s v.trip) rfl rfl rfl rfl ?_) <;> conv => whnf) | ((first | refine go_loadB ?_ | refine ⟨by kernel_rfl, ?_⟩ | refine go_ret ?_) <;> conv => whnf) | ((first | refine go_skip ?_) <;> conv => whnf) | refine go_true rfl ?_ | refine go_false rfl ?_ | refine go_cond rfl (fun h => ?_) (fun h => ?_) | refine ⟨rfl, ?_⟩ | ((first | refine ⟨trivial, ?_⟩ | refine ⟨le_of_ble rfl, ?_⟩) <;> conv => whnf) | fail
  all_goals first
    | exact ret_imm rfl rfl rfl rfl rfl rfl
    | (exfalso; simp at h; done)
    | (exfalso; simp [str_self] at h; done)

def szChangeS (n : Int) (xs : List Change) : Int := less n xs.length
theorem szChangeS_sz : Sz szChangeS := less_sz.on List.length

theorem c5 (xs : List Change) (hl : xs.length ≤ 9223372036854775807) (n : Int) (h0 : 0 ≤ n) (h1 : n ≤ 1048576) : CallOk Try.prog 5 [.imm (.list (xs.map Change.enc)), .imm (.int .i64 n)] { res := [.imm (.int .i64 (szChangeS n xs))] } := by
  refine callOk_of tyOk Try.func5 rfl rfl (le_of_ble rfl) (le_of_ble rfl) (mutOk_imm rfl _) ?_
  have hlm : (xs.map Change.enc).length = xs.length := List.length_map _
  have hw : IntKind.i64.wrap (n - ((xs.map Change.enc).length : Int)) = n - xs.length := by rw [hlm]; exact wrap_small (by omega) (by omega)
  have hres : szChangeS n xs = if n - (xs.length : Int) < 0 then -1 else n - xs.length := less_eq h0
  repeat' first | refine go_seq ?_ | refine go_region ?_ | ((first | refine go_op rfl ?_ | refine go_nil ?_) <;> conv => whnf) | ((first | refine ⟨by kernel_rfl, ?_⟩ | refine go_ret ?_) <;> conv => whnf) | ((first | refine go_skip ?_) <;> conv => whnf) | refine go_true rfl ?_ | refine go_false rfl ?_ | refine go_cond rfl (fun h => ?_) (fun h => ?_) | refine ⟨rfl, ?_⟩ | ((first | refine ⟨trivial, ?_⟩ | refine ⟨le_of_ble rfl, ?_⟩) <;> conv => whnf) | fail
  all_goals first
    | (have h' := of_decide_eq_true h
       rw [hw] at h'
       exact ret_imm rfl rfl rfl rfl (by rw [hres, if_pos h']) rfl)
    | (have h' := of_decide_eq_false h
       rw [hw] at h'
       exact ret_imm rfl rfl rfl rfl (by rw [hres, if_neg h', hw]) rfl)

theorem c8a (xs : List Change) (hl : xs.length ≤ 1048576) : CallOk Try.prog 8 [.imm (.list (xs.map Change.enc))] { res := [.arr 56 5 (xs.map Change.enc)] } := by
  refine callOk_of tyOk Try.func8 rfl rfl (le_of_ble rfl) (le_of_ble rfl) (mutOk_imm rfl _) ?_
  repeat' first | refine go_seq ?_ | refine go_region ?_ | ((first | refine go_op rfl ?_ | refine go_nil ?_ | refine go_storeBox rfl rfl rfl rfl rfl rfl ?_ | refine go_makeN rfl rfl rfl rfl rfl rfl rfl rfl rfl (by omega) (by simp; omega) ?_) <;> conv => whnf) | ((first | refine go_loadB ?_ | refine ⟨by kernel_rfl, ?_⟩ | refine go_ret ?_) <;> conv => whnf) | refine go_block ?_ | ((first | refine go_skip ?_ | refine go_exit ?_) <;> conv => whnf) | refine go_true rfl ?_ | refine go_false rfl ?_ | refine go_cond rfl (fun h => ?_) (fun h => ?_) | refine ⟨rfl, ?_⟩ | ((first | refine ⟨trivial, ?_⟩ | refine ⟨le_of_ble rfl, ?_⟩) <;> conv => whnf) | fail
  refine go_loop (α := Nat) (fun i => i ≤ xs.length) (fun i => xs.length - i)
    (fun i => st Try.f8.ntmps [(0, .imm (.list (xs.map Change.enc))), (3, .own 1000 0 (xs.map Change.enc).length), (4, .imm (.int .i64 (i : Nat)))] [(1000, .arr 56 5 (fill Change.enc ty56.zero xs i))] []) 0 (Nat.zero_le _) ?_ ?_
  · refine ref_st (fun _ => nid 2 7) rfl ⟨rfl, ⟨rfl, rfl⟩, rfl, trivial⟩ ⟨?_, trivial⟩ (by simp) rfl (by simp)
    show some _ = some _
    rw [← fill_0, List.length_map]
    rfl
  · intro i hi
    cases hx : xs[i]? with
    | none =>
      have hge := le_of_at hx
      repeat' first | refine go_seq ?_ | refine go_region ?_ | ((first | refine go_op rfl ?_ | refine go_nil ?_ | refine go_storeBox rfl rfl rfl rfl rfl rfl ?_) <;> conv => whnf) | ((first | refine go_loadB ?_ | refine ⟨by kernel_rfl, ?_⟩ | refine go_ret ?_) <;> conv => whnf) | refine go_block ?_ | ((first | refine go_skip ?_ | refine go_exit ?_) <;> conv => whnf) | refine go_true rfl ?_ | refine go_false rfl ?_ | refine go_cond rfl (fun h => ?_) (fun h => ?_) | refine ⟨rfl, ?_⟩ | ((first | refine ⟨trivial, ?_⟩ | refine ⟨le_of_ble rfl, ?_⟩) <;> conv => whnf) | fail
      · exfalso; simp at *; omega
      · refine ret_arr rfl rfl rfl rfl rfl ?_ (change_gr xs)
        rw [fill_end _ _ _ hge]
        simp [List.take_of_length_le]
    | some v =>
      have hlt := lt_of_at hx
      have hr := row_at Change.enc hx
      repeat' first | refine go_seq ?_ | refine go_region ?_ | ((first | refine go_op rfl ?_ | refine go_nil ?_ | refine go_storeBox rfl rfl rfl rfl rfl rfl ?_ | refine go_call [] (c21 v) rfl rfl rfl rfl ?_ | refine go_idx rfl rfl rfl rfl (by omega) (by assumption) rfl ?_ | refine go_idxOwn rfl rfl rfl rfl rfl rfl (by simp; omega) ?_ | refine go_storeRow rfl rfl rfl rfl (fill_at _ _ hx) rfl rfl (fill_set _ _ hx) ?_) <;> conv => whnf) | ((first | refine go_loadB ?_ | refine ⟨by kernel_rfl, ?_⟩ | refine go_ret ?_) <;> conv => whnf) | refine go_block ?_ | ((first | refine go_skip ?_ | refine go_exit ?_) <;> conv => whnf) | refine go_true rfl ?_ | refine go_false rfl ?_ | refine go_cond rfl (fun h => ?_) (fun h => ?_) | refine ⟨rfl, ?_⟩ | ((first | refine ⟨trivial, ?_⟩ | refine ⟨le_of_ble rfl, ?_⟩) <;> conv => whnf) | fail
      · exact go_next (i + 1) (by omega) (by omega) (ref_st id rfl ⟨rfl, ⟨rfl, rfl⟩, next_i (by omega), trivial⟩ ⟨rfl, trivial⟩ (by simp) rfl (by simp))
      · exfalso; simp at *; omega

theorem c11s (xs : List Change) (hl : xs.length ≤ 1048576) : CallOk Try.prog 11 [.imm (.list (xs.map Change.enc)), .imm (.list (xs.map Change.enc))] { res := [.imm (.bool true)] } := by
  refine callOk_of tyOk Try.func11 rfl rfl (le_of_ble rfl) (le_of_ble rfl) (mutOk_imm rfl _) ?_
  repeat' first | refine go_seq ?_ | refine go_region ?_ | refine go_draw drawsOk ?_ | ((first | refine go_op rfl ?_ | refine go_nil ?_ | refine go_dop rfl ?_ | refine go_dend (by kernel_rfl) ?_) <;> conv => whnf) | ((first | refine go_loadB ?_ | refine ⟨by kernel_rfl, ?_⟩ | refine go_ret ?_) <;> conv => whnf) | refine go_block ?_ | ((first | refine go_skip ?_ | refine go_exit ?_) <;> conv => whnf) | refine go_true rfl ?_ | refine go_false rfl ?_ | refine go_cond rfl (fun h => ?_) (fun h => ?_) | refine ⟨rfl, ?_⟩ | ((first | refine ⟨trivial, ?_⟩ | refine ⟨le_of_ble rfl, ?_⟩) <;> conv => whnf) | fail
  · exfalso; simp at h
  refine go_loop (α := Nat) (fun i => i ≤ xs.length) (fun i => xs.length - i) (fun i => st Try.f11.ntmps [(0, .imm (.list (xs.map Change.enc))), (1, .imm (.list (xs.map Change.enc))), (5, .imm (.int .i64 (i : Nat)))] [] []) 0
    (Nat.zero_le _) (ref_st0 rfl ⟨rfl, rfl, rfl, trivial⟩ rfl) ?_
  intro i hi
  cases hx : xs[i]? with
  | none =>
    have hge := le_of_at hx
    repeat' first | refine go_seq ?_ | refine go_region ?_ | refine go_draw drawsOk ?_ | ((first | refine go_op rfl ?_ | refine go_nil ?_ | refine go_dop rfl ?_ | refine go_dend (by kernel_rfl) ?_) <;> conv => whnf) | ((first | refine go_loadB ?_ | refine ⟨by kernel_rfl, ?_⟩ | refine go_ret ?_) <;> conv => whnf) | refine go_block ?_ | ((first | refine go_skip ?_ | refine go_exit ?_) <;> conv => whnf) | refine go_true rfl ?_ | refine go_false rfl ?_ | refine go_cond rfl (fun h => ?_) (fun h => ?_) | refine ⟨rfl, ?_⟩ | ((first | refine ⟨trivial, ?_⟩ | refine ⟨le_of_ble rfl, ?_⟩) <;> conv => whnf) | fail
    all_goals first
      | (exfalso; simp at h; omega)
      | exact ret_imm rfl rfl rfl rfl rfl rfl
  | some v =>
    have hlt := lt_of_at hx
    have hr := row_at Change.enc hx
    repeat' first | refine go_seq ?_ | refine go_region ?_ | refine go_draw drawsOk ?_ | ((first | refine go_op rfl ?_ | refine go_nil ?_ | refine go_dop rfl ?_ | refine go_dend (by kernel_rfl) ?_ | refine go_call [] (c26s v) rfl rfl rfl rfl ?_ | refine go_idx rfl rfl rfl rfl (by omega) hr rfl ?_) <;> conv => whnf) | ((first | refine go_loadB ?_ | refine ⟨by kernel_rfl, ?_⟩ | refine go_ret ?_) <;> conv => whnf) | refine go_block ?_ | ((first | refine go_skip ?_ | refine go_exit ?_) <;> conv => whnf) | refine go_true rfl ?_ | refine go_false rfl ?_ | refine go_cond rfl (fun h => ?_) (fun h => ?_) | refine ⟨rfl, ?_⟩ | ((first | refine ⟨trivial, ?_⟩ | refine ⟨le_of_ble rfl, ?_⟩) <;> conv => whnf) | fail
    all_goals first
      | (exact go_next (i + 1) (by omega) (by omega) (ref_st0 rfl ⟨rfl, rfl, next_i (by omega), trivial⟩ rfl))
      | (exfalso; simp at h; done)
      | (exfalso; simp [str_self] at h; done)
      | (exfalso; simp at h; omega)

end Go.Proofs.Ytfjphbjbobojbaa

