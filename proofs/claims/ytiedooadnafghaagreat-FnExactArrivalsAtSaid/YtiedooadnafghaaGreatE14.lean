/- The walks of the arrivals at a stop (seat Z): the order, the sort. -/
import Derived.Test.YtiedooadnafghaaGreatE7
import Derived.Test.YtiedooadnafghaaGreatR0
import Derived.Test.YtiedooadnafghaaGreatAmP
namespace Go.Proofs.YtiedooadnafghaaGreat
open Go Go.Am Go.Proofs
set_option maxRecDepth 100000
set_option maxHeartbeats 4000000
attribute [local irreducible] amOps amC opCall opIndexAddr opPick retQ opMake opStore amDraw opAppend opLoad opNilCmp opIndex opSlice

/-- An arrival: when, the trip's number. -/
structure Arr where
  at' : Int
  id : Int
def Arr.enc (v : Arr) : List D := [.int .i64 v.at', .int .i64 v.id]
instance : Inhabited Arr := ⟨⟨0, 0⟩⟩
theorem arr_gr (xs : List Arr) : ∀ x ∈ xs.map Arr.enc, x.all D.gr = true := by
  intro x hx
  obtain ⟨_, _, rfl⟩ := List.mem_map.1 hx
  rfl
theorem arr_pl (x : Arr) : ∀ d ∈ x.enc, d.pl = true := by
  intro d hd
  simp only [Arr.enc, List.mem_cons, List.not_mem_nil, or_false] at hd
  rcases hd with rfl | rfl <;> rfl
def arrC (x y : Arr) : Int := if cmpI x.at' y.at' = 0 then cmpI x.id y.id else cmpI x.at' y.at'
def arrLt (x y : Arr) : Bool := decide (x.at' < y.at') || (decide (x.at' = y.at') && decide (x.id < y.id))
def atLt (x y : Arr) : Bool := decide (x.at' < y.at')
theorem arrLt_iff (x y : Arr) : arrLt x y = true ↔ x.at' < y.at' ∨ (x.at' = y.at' ∧ x.id < y.id) := by
  unfold arrLt
  simp only [decide_eq_true_eq, Bool.or_eq_true, Bool.and_eq_true]
theorem arrLt_not (x y : Arr) : arrLt x y = false ↔ ¬ (x.at' < y.at' ∨ (x.at' = y.at' ∧ x.id < y.id)) := by
  rw [← arrLt_iff, Bool.not_eq_true]
theorem arrWeak : Weak arrLt := by
  refine ⟨fun x y h => ?_, fun x y z h1 h2 => ?_⟩
  · rw [arrLt_iff] at h
    rw [arrLt_not]
    omega
  · rw [arrLt_not] at h1 h2 ⊢
    omega
theorem arr_anti (x y : Arr) (h1 : arrLt x y = false) (h2 : arrLt y x = false) : x = y := by
  rw [arrLt_not] at h1 h2
  obtain ⟨a, b⟩ := x
  obtain ⟨c, d⟩ := y
  simp only at h1 h2
  have e1 : a = c := by omega
  have e2 : b = d := by omega
  rw [e1, e2]
theorem atWeak : Weak atLt := by
  refine ⟨fun x y h => ?_, fun x y z h1 h2 => ?_⟩
  · unfold atLt at *
    simp only [decide_eq_true_eq, decide_eq_false_iff_not] at *
    omega
  · unfold atLt at *
    simp only [decide_eq_true_eq, decide_eq_false_iff_not] at *
    omega
theorem arrLt_eq : Go.Proofs.ltOf arrC = arrLt := by
  funext x y
  unfold Go.Proofs.ltOf arrC arrLt cmpI
  generalize x.at' = a
  generalize y.at' = b
  generalize x.id = c
  generalize y.id = e
  by_cases h1 : a < b
  · simp [h1]
  · by_cases h2 : b < a
    · have h3 : ¬ a = b := by omega
      simp [h1, h2, h3]
    · have h3 : a = b := by omega
      subst h3
      by_cases h4 : c < e
      · simp [h4]
      · by_cases h5 : e < c
        · simp [h4, h5]
        · simp [h4, h5]

theorem c38 (x y : Arr) : CallOk Tryz.prog 38 [.imm (.list [[.int .i64 x.at'], [.int .i64 x.id]]), .imm (.list [[.int .i64 y.at'], [.int .i64 y.id]])] { res := [.imm (.int .i64 (arrC x y))] } := by
  refine callOk_of tyOk Tryz.func38 rfl rfl (le_of_ble rfl) (le_of_ble rfl) (mutOk_imm rfl _) ?_
  have hc1 := c55 x.at' y.at'
  have hc2 := c55 x.id y.id
  repeat' first | refine go_seq ?_ | refine go_region ?_ | ((first | refine go_op rfl ?_ | refine go_nil ?_) <;> conv => whnf) | ((first | refine go_loadB ?_ | refine ⟨by kernel_rfl, ?_⟩ | refine go_ret ?_) <;> conv => whnf) | refine go_block ?_ | ((first | refine go_skip ?_ | refine go_exit ?_) <;> conv => whnf) | refine go_true rfl ?_ | refine go_false rfl ?_ | refine go_cond rfl (fun h => ?_) (fun h => ?_) | refine ⟨rfl, ?_⟩ | ((first | refine ⟨trivial, ?_⟩ | refine ⟨le_of_ble rfl, ?_⟩) <;> conv => whnf) | fail
  refine go_loop (α := Nat) (fun i => i ≤ 2 ∧ (0 < i → cmpI x.at' y.at' = 0) ∧ (1 < i → cmpI x.id y.id = 0)) (fun i => 2 - i)
    (fun i => st Tryz.f38.ntmps [(0, .imm (.list [[.int .i64 x.at'], [.int .i64 x.id]])), (1, .imm (.list [[.int .i64 y.at'], [.int .i64 y.id]])), (9, .imm (.list [[.int .i64 x.at'], [.int .i64 x.id]])), (10, .imm (.int .i64 2)), (11, .imm (.int .i64 (i : Nat)))] [] []) 0 ⟨by omega, by omega, by omega⟩
    (ref_st0 rfl ⟨rfl, rfl, rfl, rfl, rfl, trivial⟩ rfl) ?_
  rintro i ⟨hi, h0, h1⟩
  match i, hi with
  | 0, _ =>
    repeat' first | refine go_seq ?_ | refine go_region ?_ | ((first | refine go_op rfl ?_ | refine go_nil ?_ | refine go_call [] (hc1) rfl rfl rfl rfl ?_ | refine go_idx (i := 0) rfl rfl rfl rfl (by omega) rfl rfl ?_) <;> conv => whnf) | ((first | refine go_loadB ?_ | refine ⟨by kernel_rfl, ?_⟩ | refine go_ret ?_) <;> conv => whnf) | refine go_block ?_ | ((first | refine go_skip ?_ | refine go_exit ?_) <;> conv => whnf) | refine go_true rfl ?_ | refine go_false rfl ?_ | refine go_cond rfl (fun h => ?_) (fun h => ?_) | refine ⟨rfl, ?_⟩ | ((first | refine ⟨trivial, ?_⟩ | refine ⟨le_of_ble rfl, ?_⟩) <;> conv => whnf) | fail
    all_goals first
      | (refine ret_imm rfl rfl rfl rfl ?_ rfl; unfold arrC; rw [if_neg (by simpa using h)]; done)
      | (exact go_next 1 ⟨by omega, fun _ => by simpa using h, by omega⟩ (by omega) (ref_st0 rfl ⟨rfl, rfl, rfl, rfl, rfl, trivial⟩ rfl))
      | (exfalso; have h' := of_decide_eq_false h; omega)
      | (exfalso; have h' := of_decide_eq_true h; omega)
      | (exfalso; rename_i hq; have h' := of_decide_eq_true hq; omega)
      | (exfalso; rename_i hq; have h' := of_decide_eq_false hq; omega)
      | (exfalso; rename_i hq _; have h' := of_decide_eq_true hq; omega)
      | (exfalso; rename_i hq _; have h' := of_decide_eq_false hq; omega)
      | trace_state
  | 1, _ =>
    repeat' first | refine go_seq ?_ | refine go_region ?_ | ((first | refine go_op rfl ?_ | refine go_nil ?_ | refine go_call [] (hc2) rfl rfl rfl rfl ?_ | refine go_idx (i := 1) rfl rfl rfl rfl (by omega) rfl rfl ?_) <;> conv => whnf) | ((first | refine go_loadB ?_ | refine ⟨by kernel_rfl, ?_⟩ | refine go_ret ?_) <;> conv => whnf) | refine go_block ?_ | ((first | refine go_skip ?_ | refine go_exit ?_) <;> conv => whnf) | refine go_true rfl ?_ | refine go_false rfl ?_ | refine go_cond rfl (fun h => ?_) (fun h => ?_) | refine ⟨rfl, ?_⟩ | ((first | refine ⟨trivial, ?_⟩ | refine ⟨le_of_ble rfl, ?_⟩) <;> conv => whnf) | fail
    all_goals first
      | (refine ret_imm rfl rfl rfl rfl ?_ rfl; unfold arrC; rw [if_pos (h0 (by omega))]; done)
      | (exact go_next 2 ⟨by omega, fun _ => h0 (by omega), fun _ => by simpa using h⟩ (by omega) (ref_st0 rfl ⟨rfl, rfl, rfl, rfl, rfl, trivial⟩ rfl))
      | (exfalso; have h' := of_decide_eq_false h; omega)
      | (exfalso; have h' := of_decide_eq_true h; omega)
      | (exfalso; rename_i hq; have h' := of_decide_eq_true hq; omega)
      | (exfalso; rename_i hq; have h' := of_decide_eq_false hq; omega)
      | (exfalso; rename_i hq _; have h' := of_decide_eq_true hq; omega)
      | (exfalso; rename_i hq _; have h' := of_decide_eq_false hq; omega)
      | trace_state
  | 2, _ =>
    repeat' first | refine go_seq ?_ | refine go_region ?_ | ((first | refine go_op rfl ?_ | refine go_nil ?_) <;> conv => whnf) | ((first | refine go_loadB ?_ | refine ⟨by kernel_rfl, ?_⟩ | refine go_ret ?_) <;> conv => whnf) | refine go_block ?_ | ((first | refine go_skip ?_ | refine go_exit ?_) <;> conv => whnf) | refine go_true rfl ?_ | refine go_false rfl ?_ | refine go_cond rfl (fun h => ?_) (fun h => ?_) | refine ⟨rfl, ?_⟩ | ((first | refine ⟨trivial, ?_⟩ | refine ⟨le_of_ble rfl, ?_⟩) <;> conv => whnf) | fail
    all_goals first
      | (refine ret_imm rfl rfl rfl rfl ?_ rfl; unfold arrC; rw [if_pos (h0 (by omega)), h1 (by omega)]; done)
      | (exfalso; have h' := of_decide_eq_false h; omega)
      | (exfalso; have h' := of_decide_eq_true h; omega)
      | (exfalso; rename_i hq; have h' := of_decide_eq_true hq; omega)
      | (exfalso; rename_i hq; have h' := of_decide_eq_false hq; omega)
      | (exfalso; rename_i hq _; have h' := of_decide_eq_true hq; omega)
      | (exfalso; rename_i hq _; have h' := of_decide_eq_false hq; omega)
      | trace_state

theorem c37 (x y : Arr) : CallOk Tryz.prog 37 [.imm (.agg x.enc), .imm (.agg y.enc)] { res := [.imm (.int .i64 (arrC x y))] } := by
  refine callOk_of tyOk Tryz.func37 rfl rfl (le_of_ble rfl) (le_of_ble rfl) (mutOk_imm rfl _) ?_
  have hc := c38 x y
  repeat' first | refine go_seq ?_ | refine go_region ?_ | refine go_draw drawsOk ?_ | ((first | refine go_op rfl ?_ | refine go_nil ?_ | refine go_dop rfl ?_ | refine go_dend (by kernel_rfl) ?_ | refine go_call [] (hc) rfl rfl rfl rfl ?_ | refine go_sliceArr rfl rfl rfl rfl rfl rfl rfl ?_) <;> conv => whnf) | ((first | refine ⟨by kernel_rfl, ?_⟩ | refine go_ret ?_) <;> conv => whnf) | ((first | refine go_skip ?_) <;> conv => whnf) | refine ⟨rfl, ?_⟩ | ((first | refine ⟨trivial, ?_⟩ | refine ⟨le_of_ble rfl, ?_⟩) <;> conv => whnf) | fail
  all_goals exact ret_imm rfl rfl rfl rfl rfl rfl
end Go.Proofs.YtiedooadnafghaaGreat

