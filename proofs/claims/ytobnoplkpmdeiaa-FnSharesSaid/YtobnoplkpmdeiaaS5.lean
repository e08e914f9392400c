/- Shares (as for the other rows over visits; names for numbers: conv.py). -/
import Derived.Test.YtobnoplkpmdeiaaS4
namespace Go.Proofs.Ytobnoplkpmdeiaa
open Go Go.Am
set_option maxRecDepth 100000
set_option maxHeartbeats 4000000
attribute [local irreducible] amOps amC opCall opIndexAddr opPick retQ opMake opStore amDraw

def vPun (e l : Int) (v : Visit) : Bool := inR (IntKind.i64.wrap (v.actual - v.planned)) (IntKind.i64.wrap (0 - e)) l
def lim (e l : Int) : Bool := inR e 0 600 && inR l 0 600
def wSum (wt : Visit → Int) (xs : List Visit) : Int := (xs.map wt).sum
def pSum (wt : Visit → Int) (e l : Int) (xs : List Visit) : Int := ((xs.filter (vPun e l)).map wt).sum

theorem wSum_next {wt : Visit → Int} {xs : List Visit} {i : Nat} {v : Visit} (h : xs[i]? = some v) : wSum wt (xs.take (i + 1)) = wSum wt (xs.take i) + wt v := by
  unfold wSum
  rw [List.take_add_one, h]
  simp

theorem pSum_next {wt : Visit → Int} {e l : Int} {xs : List Visit} {i : Nat} {v : Visit} (h : xs[i]? = some v) : pSum wt e l (xs.take (i + 1)) = pSum wt e l (xs.take i) + (if vPun e l v then wt v else 0) := by
  unfold pSum
  rw [List.take_add_one, h]
  simp only [Option.toList_some, List.filter_append, List.map_append, List.sum_append]
  cases hp : vPun e l v <;> simp [hp]

theorem sums_le {wt : Visit → Int} {e l : Int} {xs : List Visit} (hw : ∀ v ∈ xs, 0 ≤ wt v ∧ wt v ≤ 1000) : ∀ i : Nat, 0 ≤ pSum wt e l (xs.take i) ∧ pSum wt e l (xs.take i) ≤ wSum wt (xs.take i) ∧ wSum wt (xs.take i) ≤ 1000 * (i : Int)
  | 0 => by simp [pSum, wSum]
  | i + 1 => by
    obtain ⟨h1, h2, h3⟩ := sums_le hw (e := e) (l := l) i
    cases hx : xs[i]? with
    | none =>
      have hl := le_of_at hx
      rw [List.take_of_length_le hl] at h1 h2 h3
      rw [List.take_of_length_le (by omega)]
      omega
    | some v =>
      obtain ⟨q1, q2⟩ := hw v (List.mem_of_getElem? hx)
      rw [wSum_next hx, pSum_next hx]
      split <;> omega

theorem sums_all {wt : Visit → Int} {e l : Int} {xs : List Visit} (hw : ∀ v ∈ xs, 0 ≤ wt v ∧ wt v ≤ 1000) : 0 ≤ pSum wt e l xs ∧ pSum wt e l xs ≤ wSum wt xs ∧ wSum wt xs ≤ 1000 * (xs.length : Int) := by
  have := sums_le hw (e := e) (l := l) xs.length
  rwa [List.take_of_length_le (Nat.le_refl _)] at this

theorem wSum_one (xs : List Visit) : wSum (fun _ => 1) xs = xs.length := by
  unfold wSum
  induction xs with
  | nil => rfl
  | cons v xs ih => simp only [List.map_cons, List.sum_cons, ih, List.length_cons]; omega

theorem c44 (v : Visit) (e l : Int) : CallOk Try.prog 44 [.imm (.agg v.enc), .imm (.int .i64 e), .imm (.int .i64 l)] { res := [.imm (.bool (vPun e l v))] } := by
  refine callOk_of tyOk Try.func44 rfl rfl (le_of_ble rfl) (le_of_ble rfl) (mutOk_imm rfl _) ?_
  repeat' first | refine go_seq ?_ | refine go_region ?_ | ((first | refine go_op rfl ?_ | refine go_nil ?_ | refine go_call [] (c46 _ _ _) rfl rfl rfl rfl ?_) <;> conv => whnf) | ((first | refine go_loadB ?_ | refine ⟨by kernel_rfl, ?_⟩ | refine go_ret ?_) <;> conv => whnf) | ((first | refine go_skip ?_) <;> conv => whnf) | refine ⟨rfl, ?_⟩ | ((first | refine ⟨trivial, ?_⟩ | refine ⟨le_of_ble rfl, ?_⟩) <;> conv => whnf) | fail
  all_goals exact ret_imm rfl rfl rfl rfl rfl rfl

theorem c52 (v : Visit) (e l : Int) : CallOk Try.prog 52 [.imm (.agg v.enc), .imm (.int .i64 e), .imm (.int .i64 l)] { res := [.imm (.bool (vPun e l v))] } := by
  refine callOk_of tyOk Try.func52 rfl rfl (le_of_ble rfl) (le_of_ble rfl) (mutOk_imm rfl _) ?_
  repeat' first | refine go_seq ?_ | refine go_region ?_ | ((first | refine go_op rfl ?_ | refine go_nil ?_ | refine go_call [] (c25 _ _ _) rfl rfl rfl rfl ?_) <;> conv => whnf) | ((first | refine go_loadB ?_ | refine ⟨by kernel_rfl, ?_⟩ | refine go_ret ?_) <;> conv => whnf) | ((first | refine go_skip ?_) <;> conv => whnf) | refine ⟨rfl, ?_⟩ | ((first | refine ⟨trivial, ?_⟩ | refine ⟨le_of_ble rfl, ?_⟩) <;> conv => whnf) | fail
  all_goals exact ret_imm rfl rfl rfl rfl rfl rfl

theorem c36 (v : Visit) : CallOk Try.prog 36 [.imm (.agg v.enc)] { res := [.imm (.int .i64 1)] } := by
  refine callOk_of tyOk Try.func36 rfl rfl (le_of_ble rfl) (le_of_ble rfl) (mutOk_imm rfl _) ?_
  repeat' first | refine go_seq ?_ | refine go_region ?_ | ((first | refine go_op rfl ?_ | refine go_nil ?_) <;> conv => whnf) | ((first | refine ⟨by kernel_rfl, ?_⟩ | refine go_ret ?_) <;> conv => whnf) | ((first | refine go_skip ?_) <;> conv => whnf) | refine ⟨rfl, ?_⟩ | ((first | refine ⟨trivial, ?_⟩ | refine ⟨le_of_ble rfl, ?_⟩) <;> conv => whnf) | fail
  all_goals exact ret_imm rfl rfl rfl rfl rfl rfl

theorem c43 (v : Visit) : CallOk Try.prog 43 [.imm (.agg v.enc)] { res := [.imm (.int .i64 v.persons)] } := by
  refine callOk_of tyOk Try.func43 rfl rfl (le_of_ble rfl) (le_of_ble rfl) (mutOk_imm rfl _) ?_
  repeat' first | refine go_seq ?_ | refine go_region ?_ | ((first | refine go_op rfl ?_ | refine go_nil ?_) <;> conv => whnf) | ((first | refine go_loadB ?_ | refine ⟨by kernel_rfl, ?_⟩ | refine go_ret ?_) <;> conv => whnf) | ((first | refine go_skip ?_) <;> conv => whnf) | refine ⟨rfl, ?_⟩ | ((first | refine ⟨trivial, ?_⟩ | refine ⟨le_of_ble rfl, ?_⟩) <;> conv => whnf) | fail
  all_goals exact ret_imm rfl rfl rfl rfl rfl rfl

theorem c38 (e l : Int) : CallOk Try.prog 38 [.imm (.int .i64 e), .imm (.int .i64 l)] { res := [.imm (.bool (lim e l))] } := by
  refine callOk_of tyOk Try.func38 rfl rfl (le_of_ble rfl) (le_of_ble rfl) (mutOk_imm rfl _) ?_
  repeat' first | refine go_seq ?_ | refine go_region ?_ | refine go_miss rfl rfl rfl ?_ | refine go_undef rfl rfl rfl ?_ | ((first | refine go_op rfl ?_ | refine go_nil ?_ | refine go_hit rfl rfl rfl ?_ | refine go_splitT rfl rfl rfl (fun h => ?_) (fun h => ?_) | refine go_splitF rfl rfl rfl (fun h => ?_) (fun h => ?_) | refine go_pickT rfl ?_ | refine go_pickF rfl ?_ | refine go_pick rfl (fun h => ?_) (fun h => ?_) | refine go_call [] (c46 _ _ _) rfl rfl rfl rfl ?_) <;> conv => whnf) | ((first | refine ⟨by kernel_rfl, ?_⟩ | refine go_ret ?_) <;> conv => whnf) | ((first | refine go_skip ?_) <;> conv => whnf) | refine ⟨rfl, ?_⟩ | ((first | refine ⟨trivial, ?_⟩ | refine ⟨le_of_ble rfl, ?_⟩) <;> conv => whnf) | fail
  all_goals refine ret_imm rfl rfl rfl rfl ?_ rfl
  all_goals simp_all [lim]

theorem c33 (xs : List Visit) (e l : Int) (hl : xs.length ≤ 1048576) : CallOk Try.prog 33 [.imm (.list (xs.map Visit.enc)), .imm (.int .i64 e), .imm (.int .i64 l)] { res := [.imm (.bool (valid xs && lim e l))] } := by
  refine callOk_of tyOk Try.func33 rfl rfl (le_of_ble rfl) (le_of_ble rfl) (mutOk_imm rfl _) ?_
  have hc16 : CallOk Try.prog 51 [.imm (.list (xs.map Visit.enc))] { res := [.imm (.bool (valid xs))] } := c51 xs hl
  repeat' first | refine go_seq ?_ | refine go_region ?_ | refine go_miss rfl rfl rfl ?_ | refine go_undef rfl rfl rfl ?_ | ((first | refine go_op rfl ?_ | refine go_nil ?_ | refine go_hit rfl rfl rfl ?_ | refine go_splitT rfl rfl rfl (fun h => ?_) (fun h => ?_) | refine go_splitF rfl rfl rfl (fun h => ?_) (fun h => ?_) | refine go_pickT rfl ?_ | refine go_pickF rfl ?_ | refine go_pick rfl (fun h => ?_) (fun h => ?_) | refine go_call [] (hc16) rfl rfl rfl rfl ?_ | refine go_call [] (c25 _ _ _) rfl rfl rfl rfl ?_) <;> conv => whnf) | ((first | refine ⟨by kernel_rfl, ?_⟩ | refine go_ret ?_) <;> conv => whnf) | ((first | refine go_skip ?_) <;> conv => whnf) | refine ⟨rfl, ?_⟩ | ((first | refine ⟨trivial, ?_⟩ | refine ⟨le_of_ble rfl, ?_⟩) <;> conv => whnf) | fail
  all_goals refine ret_imm rfl rfl rfl rfl ?_ rfl
  all_goals simp_all [lim]

theorem c40 (xs : List Visit) (e l : Int) (hl : xs.length ≤ 30) : CallOk Try.prog 40 [.imm (.list (xs.map Visit.enc)), .imm (.int .i64 e), .imm (.int .i64 l)] { res := [.imm (.int .i64 (pSum (fun _ => 1) e l xs))] } := by
  refine callOk_of tyOk Try.func40 rfl rfl (le_of_ble rfl) (le_of_ble rfl) (mutOk_imm rfl _) ?_
  have hS := sums_le (wt := fun _ => 1) (e := e) (l := l) (xs := xs) (fun v _ => by omega)
  repeat' first | refine go_seq ?_ | refine go_region ?_ | ((first | refine go_op rfl ?_ | refine go_nil ?_) <;> conv => whnf) | ((first | refine go_loadB ?_ | refine ⟨by kernel_rfl, ?_⟩ | refine go_ret ?_) <;> conv => whnf) | refine go_block ?_ | ((first | refine go_skip ?_ | refine go_exit ?_) <;> conv => whnf) | refine go_true rfl ?_ | refine go_false rfl ?_ | refine go_cond rfl (fun h => ?_) (fun h => ?_) | refine ⟨rfl, ?_⟩ | ((first | refine ⟨trivial, ?_⟩ | refine ⟨le_of_ble rfl, ?_⟩) <;> conv => whnf) | fail
  refine go_loop (α := Nat) (fun i => i ≤ xs.length) (fun i => xs.length - i) (fun i => st Try.f40.ntmps [(0, .imm (.list (xs.map Visit.enc))), (1, .imm (.int .i64 e)), (2, .imm (.int .i64 l)), (7, .imm (.int .i64 (pSum (fun _ => 1) e l (xs.take i)))), (8, .imm (.int .i64 (i : Nat)))] [] []) 0 (Nat.zero_le _)
    (ref_st0 rfl ⟨rfl, rfl, rfl, rfl, rfl, trivial⟩ rfl) ?_
  intro i hi
  cases hx : xs[i]? with
  | none =>
    have hge := le_of_at hx
    have hie : xs.take i = xs := List.take_of_length_le hge
    rw [hie]
    repeat' first | refine go_seq ?_ | refine go_region ?_ | ((first | refine go_op rfl ?_ | refine go_nil ?_) <;> conv => whnf) | ((first | refine go_loadB ?_ | refine ⟨by kernel_rfl, ?_⟩ | refine go_ret ?_) <;> conv => whnf) | refine go_block ?_ | ((first | refine go_skip ?_ | refine go_exit ?_) <;> conv => whnf) | refine go_true rfl ?_ | refine go_false rfl ?_ | refine go_cond rfl (fun h => ?_) (fun h => ?_) | refine ⟨rfl, ?_⟩ | ((first | refine ⟨trivial, ?_⟩ | refine ⟨le_of_ble rfl, ?_⟩) <;> conv => whnf) | fail
    · exfalso; simp at *; omega
    · exact ret_imm rfl rfl rfl rfl rfl rfl
  | some v =>
    have hlt := lt_of_at hx
    have hr := row_at Visit.enc hx
    have hSi := hS i
    repeat' first | refine go_seq ?_ | refine go_region ?_ | ((first | refine go_op rfl ?_ | refine go_nil ?_ | refine go_call [] (c44 v e l) rfl rfl rfl rfl ?_ | refine go_idx rfl rfl rfl rfl (by omega) (by assumption) rfl ?_) <;> conv => whnf) | ((first | refine go_loadB ?_ | refine ⟨by kernel_rfl, ?_⟩ | refine go_ret ?_) <;> conv => whnf) | refine go_block ?_ | ((first | refine go_skip ?_ | refine go_exit ?_) <;> conv => whnf) | refine go_true rfl ?_ | refine go_false rfl ?_ | refine go_cond rfl (fun h => ?_) (fun h => ?_) | refine ⟨rfl, ?_⟩ | ((first | refine ⟨trivial, ?_⟩ | refine ⟨le_of_ble rfl, ?_⟩) <;> conv => whnf) | fail
    · refine go_next (i + 1) (by omega) (by omega) (ref_st0 rfl ⟨rfl, rfl, rfl, ?_, next_i (by omega), trivial⟩ rfl)
      show AV.imm (.int .i64 _) = AV.imm (.int .i64 _)
      rw [pSum_next hx, if_pos h, wrap_small (by omega) (by omega)]
    · refine go_next (i + 1) (by omega) (by omega) (ref_st0 rfl ⟨rfl, rfl, rfl, ?_, next_i (by omega), trivial⟩ rfl)
      show AV.imm (.int .i64 _) = AV.imm (.int .i64 _)
      rw [pSum_next hx, if_neg (by simp [h])]
      congr 2; omega
    · exfalso; simp at *; omega

theorem c35 (fw : FuncId) (wt : Visit → Int) (hfw : ∀ v, CallOk Try.prog fw [.imm (.agg v.enc)] { res := [.imm (.int .i64 (wt v))] }) (xs : List Visit) (e l : Int) (hl : xs.length ≤ 30) (hw : ∀ v ∈ xs, 0 ≤ wt v ∧ wt v ≤ 1000) :
    CallOk Try.prog 35 [.imm (.list (xs.map Visit.enc)), .imm (.int .i64 e), .imm (.int .i64 l), .imm (.fn fw [])] { res := [.imm (.int .i64 (pSum wt e l xs)), .imm (.int .i64 (wSum wt xs))] } := by
  refine callOk_of tyOk Try.func35 rfl rfl (le_of_ble rfl) (le_of_ble rfl) (mutOk_imm rfl _) ?_
  have hS := sums_le (e := e) (l := l) hw
  repeat' first | refine go_seq ?_ | refine go_region ?_ | ((first | refine go_op rfl ?_ | refine go_nil ?_ | refine go_storeBox rfl rfl rfl rfl rfl rfl ?_) <;> conv => whnf) | ((first | refine go_loadB ?_ | refine ⟨by kernel_rfl, ?_⟩ | refine go_ret ?_) <;> conv => whnf) | refine go_block ?_ | ((first | refine go_skip ?_ | refine go_exit ?_) <;> conv => whnf) | refine go_true rfl ?_ | refine go_false rfl ?_ | refine go_cond rfl (fun h => ?_) (fun h => ?_) | refine ⟨rfl, ?_⟩ | ((first | refine ⟨trivial, ?_⟩ | refine ⟨le_of_ble rfl, ?_⟩) <;> conv => whnf) | fail
  refine go_loop (α := Nat) (fun i => i ≤ xs.length) (fun i => xs.length - i) (fun i => st Try.f35.ntmps [(1, .imm (.int .i64 e)), (2, .imm (.int .i64 l)), (3, .imm (.fn fw [])), (10, .imm (.int .i64 (pSum wt e l (xs.take i)))), (11, .imm (.int .i64 (wSum wt (xs.take i)))), (14, .imm (.list (xs.map Visit.enc))),
    (15, .imm (.int .i64 (xs.map Visit.enc).length)), (16, .imm (.int .i64 (i : Nat)))] [] []) 0 (Nat.zero_le _)
    (ref_st0 rfl ⟨rfl, rfl, rfl, rfl, rfl, rfl, rfl, rfl, trivial⟩ rfl) ?_
  intro i hi
  cases hx : xs[i]? with
  | none =>
    have hge := le_of_at hx
    have hie : xs.take i = xs := List.take_of_length_le hge
    rw [hie]
    repeat' first | refine go_seq ?_ | refine go_region ?_ | ((first | refine go_op rfl ?_ | refine go_nil ?_ | refine go_storeBox rfl rfl rfl rfl rfl rfl ?_) <;> conv => whnf) | ((first | refine go_loadB ?_ | refine ⟨by kernel_rfl, ?_⟩ | refine go_ret ?_) <;> conv => whnf) | refine go_block ?_ | ((first | refine go_skip ?_ | refine go_exit ?_) <;> conv => whnf) | refine go_true rfl ?_ | refine go_false rfl ?_ | refine go_cond rfl (fun h => ?_) (fun h => ?_) | refine ⟨rfl, ?_⟩ | ((first | refine ⟨trivial, ?_⟩ | refine ⟨le_of_ble rfl, ?_⟩) <;> conv => whnf) | fail
    · exfalso; simp at *; omega
    · exact ret_imm2 rfl rfl rfl rfl rfl rfl rfl rfl
  | some v =>
    have hlt := lt_of_at hx
    have hr := row_at Visit.enc hx
    have hSi := hS i
    obtain ⟨q1, q2⟩ := hw v (List.mem_of_getElem? hx)
    repeat' first | refine go_seq ?_ | refine go_region ?_ | ((first | refine go_op rfl ?_ | refine go_nil ?_ | refine go_storeBox rfl rfl rfl rfl rfl rfl ?_ | refine go_call [] (c52 v e l) rfl rfl rfl rfl ?_ | refine go_call [] (hfw v) rfl rfl rfl rfl ?_ | refine go_idx rfl rfl rfl rfl (by omega) (by assumption) rfl ?_) <;> conv => whnf) | ((first | refine go_loadB ?_ | refine ⟨by kernel_rfl, ?_⟩ | refine go_ret ?_) <;> conv => whnf) | refine go_block ?_ | ((first | refine go_skip ?_ | refine go_exit ?_) <;> conv => whnf) | refine go_true rfl ?_ | refine go_false rfl ?_ | refine go_cond rfl (fun h => ?_) (fun h => ?_) | refine ⟨rfl, ?_⟩ | ((first | refine ⟨trivial, ?_⟩ | refine ⟨le_of_ble rfl, ?_⟩) <;> conv => whnf) | fail
    · refine go_next (i + 1) (by omega) (by omega) (ref_st0 rfl ⟨rfl, rfl, rfl, ?_, ?_, rfl, rfl, next_i (by omega), trivial⟩ rfl)
      · show AV.imm (.int .i64 _) = AV.imm (.int .i64 _)
        rw [pSum_next hx, if_pos h, wrap_small (by omega) (by omega)]
      · show AV.imm (.int .i64 _) = AV.imm (.int .i64 _)
        rw [wSum_next hx, wrap_small (by omega) (by omega)]
    · refine go_next (i + 1) (by omega) (by omega) (ref_st0 rfl ⟨rfl, rfl, rfl, ?_, ?_, rfl, rfl, next_i (by omega), trivial⟩ rfl)
      · show AV.imm (.int .i64 _) = AV.imm (.int .i64 _)
        rw [pSum_next hx, if_neg (by simp [h])]
        congr 2; omega
      · show AV.imm (.int .i64 _) = AV.imm (.int .i64 _)
        rw [wSum_next hx, wrap_small (by omega) (by omega)]
    · exfalso; simp at *; omega

/-! ### The shares -/

def shN (ok : Bool) (p t : Int) : Int := if ok then IntKind.i64.wrap (p.tdiv (gcdI p t)) else 0
def shD (ok : Bool) (p t : Int) : Int := if ok then IntKind.i64.wrap (t.tdiv (gcdI p t)) else 0
def punOk (e l : Int) (xs : List Visit) : Bool := valid xs && lim e l && !decide (xs.length = 0)
def perOk (e l : Int) (xs : List Visit) : Bool := valid xs && lim e l && !decide (wSum Visit.persons xs = 0)

theorem valid_spec {xs : List Visit} (hok : ∀ v ∈ xs, v.ok) (hl : xs.length ≤ 1048576) : CallOk Try.prog 37 [.imm (.list (xs.map Visit.enc))] { res := [.imm (.bool (valid xs))] } := by
  have h := c37 xs hl
  rw [show (xs.all vGood1 && decide (xs.length ≤ 30)) = valid xs from by rw [all_same fun v hv => good_same v (hok v hv), Bool.and_comm]; rfl] at h
  exact h

theorem valid_at {xs : List Visit} (hv : valid xs = true) : xs.length ≤ 30 ∧ ∀ v ∈ xs, 0 ≤ v.persons ∧ v.persons ≤ 1000 := by
  simp only [valid, Bool.and_eq_true, decide_eq_true_eq, List.all_eq_true] at hv
  refine ⟨hv.1, fun v hm => ?_⟩
  have := hv.2 v hm
  simp only [vGood2, inR, Bool.and_eq_true, decide_eq_true_eq] at this
  omega

theorem c17 (xs : List Visit) (e l : Int) (hok : ∀ v ∈ xs, v.ok) (hl : xs.length ≤ 1048576) : CallOk Try.prog 17 [.imm (.list (xs.map Visit.enc)), .imm (.int .i64 e), .imm (.int .i64 l)]
    { res := [.imm (.int .i64 (shN (punOk e l xs) (pSum (fun _ => 1) e l xs) xs.length)), .imm (.int .i64 (shD (punOk e l xs) (pSum (fun _ => 1) e l xs) xs.length)), .imm (.bool (punOk e l xs))] } := by
  refine callOk_of tyOk Try.func17 rfl rfl (le_of_ble rfl) (le_of_ble rfl) (mutOk_imm rfl _) ?_
  have hc38 := valid_spec hok hl
  cases hva : valid xs with
  | false =>
    have hm : punOk e l xs = false := by simp [punOk, hva]
    rw [hva] at hc38
    repeat' first | refine go_seq ?_ | refine go_region ?_ | refine go_miss rfl rfl rfl ?_ | refine go_undef rfl rfl rfl ?_ | ((first | refine go_op rfl ?_ | refine go_nil ?_ | refine go_hit rfl rfl rfl ?_ | refine go_splitT rfl rfl rfl (fun h => ?_) (fun h => ?_) | refine go_splitF rfl rfl rfl (fun h => ?_) (fun h => ?_) | refine go_pickT rfl ?_ | refine go_pickF rfl ?_ | refine go_pick rfl (fun h => ?_) (fun h => ?_) | refine go_call [] (hc38) rfl rfl rfl rfl ?_) <;> conv => whnf) | ((first | refine ⟨by kernel_rfl, ?_⟩ | refine go_ret ?_) <;> conv => whnf) | ((first | refine go_skip ?_) <;> conv => whnf) | refine go_true rfl ?_ | refine go_false rfl ?_ | refine go_cond rfl (fun h => ?_) (fun h => ?_) | refine ⟨rfl, ?_⟩ | ((first | refine ⟨trivial, ?_⟩ | refine ⟨le_of_ble rfl, ?_⟩) <;> conv => whnf) | fail
    exact ret_imm3 rfl rfl rfl rfl rfl rfl (by simp [shN, hm]) (by simp [shD, hm]) (by simp [hm]) rfl
  | true =>
    rw [hva] at hc38
    obtain ⟨h30, _⟩ := valid_at hva
    have hS := sums_all (wt := fun _ => 1) (e := e) (l := l) (xs := xs) (fun v _ => by omega)
    rw [wSum_one] at hS
    have hlen : ((xs.map Visit.enc).length : Int) = xs.length := by simp
    cases hli : lim e l with
    | false =>
      have hm : punOk e l xs = false := by simp [punOk, hli]
      have hc45 := c38 e l
      rw [hli] at hc45
      repeat' first | refine go_seq ?_ | refine go_region ?_ | refine go_miss rfl rfl rfl ?_ | refine go_undef rfl rfl rfl ?_ | ((first | refine go_op rfl ?_ | refine go_nil ?_ | refine go_hit rfl rfl rfl ?_ | refine go_splitT rfl rfl rfl (fun h => ?_) (fun h => ?_) | refine go_splitF rfl rfl rfl (fun h => ?_) (fun h => ?_) | refine go_pickT rfl ?_ | refine go_pickF rfl ?_ | refine go_pick rfl (fun h => ?_) (fun h => ?_) | refine go_call [] (hc38) rfl rfl rfl rfl ?_ | refine go_call [] (hc45) rfl rfl rfl rfl ?_) <;> conv => whnf) | ((first | refine ⟨by kernel_rfl, ?_⟩ | refine go_ret ?_) <;> conv => whnf) | ((first | refine go_skip ?_) <;> conv => whnf) | refine go_true rfl ?_ | refine go_false rfl ?_ | refine go_cond rfl (fun h => ?_) (fun h => ?_) | refine ⟨rfl, ?_⟩ | ((first | refine ⟨trivial, ?_⟩ | refine ⟨le_of_ble rfl, ?_⟩) <;> conv => whnf) | fail
      exact ret_imm3 rfl rfl rfl rfl rfl rfl (by simp [shN, hm]) (by simp [shD, hm]) (by simp [hm]) rfl
    | true =>
      have hc45 := c38 e l
      rw [hli] at hc45
      by_cases h0 : xs.length = 0
      · have hm : punOk e l xs = false := by simp [punOk, h0]
        have hnil : xs = [] := List.eq_nil_of_length_eq_zero h0
        subst hnil
        repeat' first | refine go_seq ?_ | refine go_region ?_ | refine go_miss rfl rfl rfl ?_ | refine go_undef rfl rfl rfl ?_ | ((first | refine go_op rfl ?_ | refine go_nil ?_ | refine go_hit rfl rfl rfl ?_ | refine go_splitT rfl rfl rfl (fun h => ?_) (fun h => ?_) | refine go_splitF rfl rfl rfl (fun h => ?_) (fun h => ?_) | refine go_pickT rfl ?_ | refine go_pickF rfl ?_ | refine go_pick rfl (fun h => ?_) (fun h => ?_) | refine go_call [] (hc38) rfl rfl rfl rfl ?_ | refine go_call [] (hc45) rfl rfl rfl rfl ?_) <;> conv => whnf) | ((first | refine ⟨by kernel_rfl, ?_⟩ | refine go_ret ?_) <;> conv => whnf) | ((first | refine go_skip ?_) <;> conv => whnf) | refine go_true rfl ?_ | refine go_false rfl ?_ | refine go_cond rfl (fun h => ?_) (fun h => ?_) | refine ⟨rfl, ?_⟩ | ((first | refine ⟨trivial, ?_⟩ | refine ⟨le_of_ble rfl, ?_⟩) <;> conv => whnf) | fail
        exact ret_imm3 rfl rfl rfl rfl rfl rfl (by simp [shN, hm]) (by simp [shD, hm]) (by simp [hm]) rfl
      · have hm : punOk e l xs = true := by simp [punOk, hva, hli]; intro h; exact h0 (by simp [h])
        have hc43 := c39 (pSum (fun _ => 1) e l xs) (xs.map Visit.enc).length (by omega) (by omega) (by omega) (by omega)
        repeat' first | refine go_seq ?_ | refine go_region ?_ | refine go_miss rfl rfl rfl ?_ | refine go_undef rfl rfl rfl ?_ | ((first | refine go_op rfl ?_ | refine go_nil ?_ | refine go_hit rfl rfl rfl ?_ | refine go_splitT rfl rfl rfl (fun h => ?_) (fun h => ?_) | refine go_splitF rfl rfl rfl (fun h => ?_) (fun h => ?_) | refine go_pickT rfl ?_ | refine go_pickF rfl ?_ | refine go_pick rfl (fun h => ?_) (fun h => ?_) | refine go_call [] (hc38) rfl rfl rfl rfl ?_ | refine go_call [] (hc45) rfl rfl rfl rfl ?_ | refine go_call [] (c40 xs e l h30) rfl rfl rfl rfl ?_ | refine go_call [] (hc43) rfl rfl rfl rfl ?_) <;> conv => whnf) | ((first | refine ⟨by kernel_rfl, ?_⟩ | refine go_ret ?_) <;> conv => whnf) | ((first | refine go_skip ?_) <;> conv => whnf) | refine go_true rfl ?_ | refine go_false rfl ?_ | refine go_cond rfl (fun h => ?_) (fun h => ?_) | refine ⟨rfl, ?_⟩ | ((first | refine ⟨trivial, ?_⟩ | refine ⟨le_of_ble rfl, ?_⟩) <;> conv => whnf) | fail
        · exfalso; simp at h; exact h0 (by simp [h])
        · exact ret_imm3 rfl rfl rfl rfl rfl rfl (by simp [shN, hm]) (by simp [shD, hm]) (by simp [hm]) rfl
end Go.Proofs.Ytobnoplkpmdeiaa


