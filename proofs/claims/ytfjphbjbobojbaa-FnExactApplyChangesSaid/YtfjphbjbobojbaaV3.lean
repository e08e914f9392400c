/- Trips put in, taken out, looked for: the program. -/
import Derived.Test.YtfjphbjbobojbaaV1
import Derived.Test.YtfjphbjbobojbaaV2
namespace Go.Proofs.Ytfjphbjbobojbaa
open Go Go.Am
set_option maxRecDepth 100000
set_option maxHeartbeats 4000000
attribute [local irreducible] amOps amC opCall opIndexAddr opPick retQ opMake opStore amDraw opAppend opLoad opNilCmp opIndex opSlice

theorem argsIn_i {m : Nat → Option O} {k : Nat} {md : List Nat} {d : D} {r : List AV} {is : List In} {vs fs : List Nat} {gs : List (Option Nat)} (hr : argsIn m md r = some (is, vs, fs, gs)) : argsIn m (k :: md) (.imm d :: r) = some (.imm d :: is, vs, fs, none :: gs) := by
  have h1 : argIn m k (.imm d) = some (.imm d, [], [], none) := by simp [argIn]
  simp only [argsIn, List.headD_cons, List.tail_cons, h1, hr, List.nil_append]

theorem ins_next {xs : List Trip} {x y : Trip} {i : Nat} (hy : xs[i]? = some y) (ha : ∀ z ∈ xs.take i, ltB x z = true) (hl : ltB x y = true) : ∀ z ∈ xs.take (i + 1), ltB x z = true := by
  intro z hz
  rw [List.take_add_one, hy] at hz
  rcases List.mem_append.1 hz with hz | hz
  · exact ha z hz
  · simp at hz
    rw [hz]; exact hl
theorem ins_here {xs : List Trip} {x : Trip} {i : Nat} (hi : i ≤ xs.length) (ha : ∀ z ∈ xs.take i, ltB x z = true) (hn : ∀ y, xs[i]? = some y → ltB x y = false) : insAt xs x = i := by
  unfold insAt
  induction xs generalizing i with
  | nil => simp at hi; subst hi; rfl
  | cons z zs ih =>
    cases i with
    | zero =>
      have := hn z rfl
      rw [List.takeWhile_cons, this]
      rfl
    | succ i =>
      have hz := ha z (by simp)
      rw [List.takeWhile_cons, hz]
      simp only [if_true, List.length_cons]
      rw [ih (i := i) (by simpa using hi) (fun w hw => ha w (by simp [hw])) (fun w hw => hn w (by simpa using hw))]

theorem c78 (k : Int) (x : Trip) : CallOk Try.prog 78 [.imm (.agg x.enc), .imm (.ptr [.int .i64 k])] { res := [.imm (.bool (decide (x.id = k)))] } := by
  refine callOk_of tyOk Try.func78 rfl rfl (le_of_ble rfl) (le_of_ble rfl) (mutOk_imm rfl _) ?_
  repeat' first | refine go_seq ?_ | refine go_region ?_ | ((first | refine go_op rfl ?_ | refine go_nil ?_) <;> conv => whnf) | ((first | refine go_loadB ?_ | refine ⟨by kernel_rfl, ?_⟩ | refine go_ret ?_) <;> conv => whnf) | ((first | refine go_skip ?_) <;> conv => whnf) | refine ⟨rfl, ?_⟩ | ((first | refine ⟨trivial, ?_⟩ | refine ⟨le_of_ble rfl, ?_⟩) <;> conv => whnf) | fail
  all_goals exact ret_imm rfl rfl rfl rfl rfl rfl

theorem c77 (xs : List Trip) (hl : xs.length ≤ 1048576) (k : Int) :
    CallOk Try.prog 77 [.imm (.list (xs.map Trip.enc)), .imm (.fn 78 [.ptr [.int .i64 k]])] { res := [.imm (.int .i64 (findT xs k))] } := by
  refine callOk_of tyOk Try.func77 rfl rfl (le_of_ble rfl) (le_of_ble rfl) (mutOk_imm rfl _) ?_
  repeat' first | refine go_seq ?_ | refine go_region ?_ | ((first | refine go_op rfl ?_ | refine go_nil ?_) <;> conv => whnf) | ((first | refine go_loadB ?_ | refine ⟨by kernel_rfl, ?_⟩ | refine go_ret ?_) <;> conv => whnf) | refine go_block ?_ | ((first | refine go_skip ?_ | refine go_exit ?_) <;> conv => whnf) | refine go_true rfl ?_ | refine go_false rfl ?_ | refine go_cond rfl (fun h => ?_) (fun h => ?_) | refine ⟨rfl, ?_⟩ | ((first | refine ⟨trivial, ?_⟩ | refine ⟨le_of_ble rfl, ?_⟩) <;> conv => whnf) | fail
  refine go_loop (α := Nat) (fun i => i ≤ xs.length ∧ (xs.take i).any (fun y => decide (y.id = k)) = false) (fun i => xs.length - i) (fun i => st Try.f77.ntmps [(0, .imm (.list (xs.map Trip.enc))), (1, .imm (.fn 78 [.ptr [.int .i64 k]])), (7, .imm (.int .i64 (xs.map Trip.enc).length)), (8, .imm (.int .i64 (i : Nat)))] [] []) 0
    ⟨Nat.zero_le _, rfl⟩ (ref_st0 rfl ⟨rfl, rfl, rfl, rfl, trivial⟩ rfl) ?_
  rintro i ⟨hi, ha⟩
  unfold findT
  cases hx : xs[i]? with
  | none =>
    have hge := le_of_at hx
    rw [List.take_of_length_le hge] at ha
    repeat' first | refine go_seq ?_ | refine go_region ?_ | ((first | refine go_op rfl ?_ | refine go_nil ?_) <;> conv => whnf) | ((first | refine go_loadB ?_ | refine ⟨by kernel_rfl, ?_⟩ | refine go_ret ?_) <;> conv => whnf) | refine go_block ?_ | ((first | refine go_skip ?_ | refine go_exit ?_) <;> conv => whnf) | refine go_true rfl ?_ | refine go_false rfl ?_ | refine go_cond rfl (fun h => ?_) (fun h => ?_) | refine ⟨rfl, ?_⟩ | ((first | refine ⟨trivial, ?_⟩ | refine ⟨le_of_ble rfl, ?_⟩) <;> conv => whnf) | fail
    all_goals first
      | exact ret_imm rfl rfl rfl rfl (by rw [idxF_miss ha]) rfl
      | (exfalso; simp at h; omega)
  | some v =>
    have hlt := lt_of_at hx
    have hr := row_at Trip.enc hx
    have hp := c78 k v
    repeat' first | refine go_seq ?_ | refine go_region ?_ | ((first | refine go_op rfl ?_ | refine go_nil ?_ | refine go_call [] (hp) rfl rfl rfl rfl ?_ | refine go_idx rfl rfl rfl rfl (by omega) hr rfl ?_) <;> conv => whnf) | ((first | refine go_loadB ?_ | refine ⟨by kernel_rfl, ?_⟩ | refine go_ret ?_) <;> conv => whnf) | refine go_block ?_ | ((first | refine go_skip ?_ | refine go_exit ?_) <;> conv => whnf) | refine go_true rfl ?_ | refine go_false rfl ?_ | refine go_cond rfl (fun h => ?_) (fun h => ?_) | refine ⟨rfl, ?_⟩ | ((first | refine ⟨trivial, ?_⟩ | refine ⟨le_of_ble rfl, ?_⟩) <;> conv => whnf) | fail
    all_goals first
      | exact ret_imm rfl rfl rfl rfl (by rw [idxF_hit hx h ha]) rfl
      | exact go_next (i + 1) ⟨by omega, any_next hx ha h⟩ (by omega) (ref_st0 rfl ⟨rfl, rfl, rfl, next_i (by omega), trivial⟩ rfl)
      | (exfalso; simp at h; omega)

theorem c48 (t : Timetable) (hl : t.trips.length ≤ 1048576) (k : Int) : CallOk Try.prog 48 [.imm (.agg t.enc), .imm (.int .i64 k)] { res := [.imm (.int .i64 (findT t.trips k))] } := by
  refine callOk_of tyOk Try.func48 rfl rfl (le_of_ble rfl) (le_of_ble rfl) (mutOk_imm rfl _) ?_
  have hc := c77 t.trips hl k
  repeat' first | refine go_seq ?_ | refine go_region ?_ | ((first | refine go_op rfl ?_ | refine go_nil ?_ | refine go_call [] (hc) rfl rfl rfl rfl ?_) <;> conv => whnf) | ((first | refine go_loadB ?_ | refine ⟨by kernel_rfl, ?_⟩ | refine go_ret ?_) <;> conv => whnf) | ((first | refine go_skip ?_) <;> conv => whnf) | refine ⟨rfl, ?_⟩ | ((first | refine ⟨trivial, ?_⟩ | refine ⟨le_of_ble rfl, ?_⟩) <;> conv => whnf) | fail
  all_goals exact ret_imm rfl rfl rfl rfl rfl rfl

theorem c47 (xs : List Trip) (hl : xs.length ≤ 1048576) (v : Trip) :
    CallOk Try.prog 47 [.imm (.list (xs.map Trip.enc)), .imm (.agg v.enc)] { res := [.imm (.int .i64 (placeT xs v))] } := by
  refine callOk_of tyOk Try.func47 rfl rfl (le_of_ble rfl) (le_of_ble rfl) (mutOk_imm rfl _) ?_
  repeat' first | refine go_seq ?_ | refine go_region ?_ | refine go_draw drawsOk ?_ | ((first | refine go_op rfl ?_ | refine go_nil ?_ | refine go_dop rfl ?_ | refine go_dend (by kernel_rfl) ?_) <;> conv => whnf) | ((first | refine go_loadB ?_ | refine ⟨by kernel_rfl, ?_⟩ | refine go_ret ?_) <;> conv => whnf) | refine go_block ?_ | ((first | refine go_skip ?_ | refine go_exit ?_) <;> conv => whnf) | refine go_true rfl ?_ | refine go_false rfl ?_ | refine go_cond rfl (fun h => ?_) (fun h => ?_) | refine ⟨rfl, ?_⟩ | ((first | refine ⟨trivial, ?_⟩ | refine ⟨le_of_ble rfl, ?_⟩) <;> conv => whnf) | fail
  refine go_loop (α := Nat) (fun i => i ≤ xs.length ∧ (xs.take i).any (fun x => v.beq x) = false) (fun i => xs.length - i) (fun i => st Try.f47.ntmps [(0, .imm (.list (xs.map Trip.enc))), (3, .box 1000 0), (7, .imm (.int .i64 (xs.map Trip.enc).length)), (8, .imm (.int .i64 (i : Nat)))] [(1000, .box 54 (v.enc.map .imm))] []) 0
    ⟨Nat.zero_le _, rfl⟩ (ref_st (fun _ => nid 1 3) rfl ⟨rfl, ⟨rfl, rfl⟩, rfl, rfl, trivial⟩ ⟨⟨rfl, wavs_imm _⟩, trivial⟩ (by simp) rfl (by simp)) ?_
  rintro i ⟨hi, ha⟩
  unfold placeT
  cases hx : xs[i]? with
  | none =>
    have hge := le_of_at hx
    rw [List.take_of_length_le hge] at ha
    repeat' first | refine go_seq ?_ | refine go_region ?_ | refine go_draw drawsOk ?_ | ((first | refine go_op rfl ?_ | refine go_nil ?_ | refine go_dop rfl ?_ | refine go_dend (by kernel_rfl) ?_) <;> conv => whnf) | ((first | refine go_loadB ?_ | refine ⟨by kernel_rfl, ?_⟩ | refine go_ret ?_) <;> conv => whnf) | refine go_block ?_ | ((first | refine go_skip ?_ | refine go_exit ?_) <;> conv => whnf) | refine go_true rfl ?_ | refine go_false rfl ?_ | refine go_cond rfl (fun h => ?_) (fun h => ?_) | refine ⟨rfl, ?_⟩ | ((first | refine ⟨trivial, ?_⟩ | refine ⟨le_of_ble rfl, ?_⟩) <;> conv => whnf) | fail
    all_goals first
      | exact ret_imm rfl rfl rfl rfl (by rw [idxF_miss ha]) rfl
      | (exfalso; simp at h; omega)
  | some x =>
    have hlt := lt_of_at hx
    have hr := row_at Trip.enc hx
    have hq : (decide (v.id = x.id) && (decide (v.line = x.line) && (decide (v.start = x.start) && true))) = v.beq x := by
      simp only [Trip.beq, Bool.and_true]
    repeat' first | refine go_seq ?_ | refine go_region ?_ | refine go_draw drawsOk ?_ | ((first | refine go_op rfl ?_ | refine go_nil ?_ | refine go_dop rfl ?_ | refine go_dend (by kernel_rfl) ?_ | refine go_idx rfl rfl rfl rfl (by omega) hr rfl ?_) <;> conv => whnf) | ((first | refine go_loadB ?_ | refine ⟨by kernel_rfl, ?_⟩ | refine go_ret ?_) <;> conv => whnf) | refine go_block ?_ | ((first | refine go_skip ?_ | refine go_exit ?_) <;> conv => whnf) | refine go_true rfl ?_ | refine go_false rfl ?_ | refine go_cond rfl (fun h => ?_) (fun h => ?_) | refine ⟨rfl, ?_⟩ | ((first | refine ⟨trivial, ?_⟩ | refine ⟨le_of_ble rfl, ?_⟩) <;> conv => whnf) | fail
    all_goals first
      | (rw [hq] at h; exact ret_imm rfl rfl rfl rfl (by rw [idxF_hit hx h ha]) rfl)
      | (rw [hq] at h; exact go_next (i + 1) ⟨by omega, any_next hx ha h⟩ (by omega) (ref_st id rfl ⟨rfl, ⟨rfl, rfl⟩, rfl, next_i (by omega), trivial⟩ ⟨⟨rfl, wavs_imm _⟩, trivial⟩ (by simp) rfl (by simp)))
      | (exfalso; simp at h; omega)
      | trace_state
end Go.Proofs.Ytfjphbjbobojbaa

