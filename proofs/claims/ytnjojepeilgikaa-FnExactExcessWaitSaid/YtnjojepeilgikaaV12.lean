/- The walks of marked visits, and ShiftVisits' law. -/
import Derived.Test.YtnjojepeilgikaaV11
namespace Go.Proofs.Ytnjojepeilgikaa
open Go Go.Am
set_option maxRecDepth 100000
set_option maxHeartbeats 4000000
attribute [local irreducible] amOps amC opCall opIndexAddr opPick retQ opMake opStore amDraw opAppend opLoad opNilCmp

def markV (k : Int) (j : Nat) : Visit := ⟨kAt k (4 * j), kAt k (4 * j + 1), kAt k (4 * j + 2), kAt k (4 * j + 3)⟩
def marks (k : Int) (n : Nat) : List Visit := (List.range n).map (markV k)

theorem marks_len (k : Int) (n : Nat) : ((marks k n).map Visit.enc).length = n := by simp [marks]
theorem marks_at (k : Int) {n i : Nat} (h : i < n) : ((marks k n).map Visit.enc)[i]? = some (markV k i).enc := by simp [marks, h]

theorem c26 (xs : List Visit) (k : Int) (hl : xs.length ≤ 1048576) : CallOk Try.prog 26 [.arr 49 4 (xs.map Visit.enc), .imm (.int .i64 k)]
    { res := [.imm (.int .i64 (kAt k (4 * xs.length)))], muts := [.arr 49 4 ((marks k xs.length).map Visit.enc)] } := by
  refine callOk_of tyOk Try.func26 rfl rfl (le_of_ble rfl) (le_of_ble rfl) (mutOk_arr0 rfl (by simp [marks])) ?_
  have hyl : ((marks k xs.length).map Visit.enc).length = (xs.map Visit.enc).length := by simp [marks]
  repeat' first
    | refine go_seq ?_
    | refine go_region ?_
    | (refine go_op rfl ?_; conv => whnf)
    | (refine go_nil ?_; conv => whnf)
    | (refine go_hit rfl rfl rfl ?_; conv => whnf)
    | (refine go_miss rfl rfl rfl ?_)
    | (refine go_undef rfl rfl rfl ?_)
    | (refine go_splitT rfl rfl rfl (fun h => ?_) (fun h => ?_) <;> conv => whnf)
    | (refine go_splitF rfl rfl rfl (fun h => ?_) (fun h => ?_) <;> conv => whnf)
    | (refine go_storeBox rfl rfl rfl rfl rfl rfl ?_; conv => whnf)
    | (refine go_dop rfl ?_; conv => whnf)
    | (refine go_dhit rfl rfl ?_; conv => whnf)
    | (refine go_dmiss rfl rfl ?_; conv => whnf)
    | (refine go_dundef rfl rfl ?_; conv => whnf)
    | (refine go_dend (by kernel_rfl) ?_; conv => whnf)
    | refine go_draw drawsOk ?_
    | (refine go_pickT rfl ?_; conv => whnf)
    | (refine go_pickF rfl ?_; conv => whnf)
    | (refine go_pick rfl (fun h => ?_) (fun h => ?_) <;> conv => whnf)
    | (refine go_dsplit2 rfl (fun h => ?_) (fun h => ?_) <;> conv => whnf)
    | (refine go_loadB ?_; conv => whnf)
    | (refine ⟨by kernel_rfl, ?_⟩; conv => whnf)
    | (refine go_ret ?_; conv => whnf)
    | refine go_block ?_
    | (refine go_skip ?_; conv => whnf)
    | (refine go_exit ?_; conv => whnf)
    | refine go_true rfl ?_
    | refine go_false rfl ?_
    | refine go_cond rfl (fun h => ?_) (fun h => ?_)
    | refine ⟨rfl, ?_⟩
    | (refine ⟨trivial, ?_⟩; conv => whnf)
    | (refine ⟨le_of_ble rfl, ?_⟩; conv => whnf)
    | fail
  refine go_loop (α := Nat) (fun i => i ≤ xs.length) (fun i => xs.length - i)
    (fun i => st Try.f26.ntmps [(0, .own 1000 0 (xs.map Visit.enc).length), (1, .imm (.int .i64 (kAt k (4 * i)))), (5, .imm (.int .i64 (i : Nat)))]
      [(1000, .arr 49 4 (upto ((marks k xs.length).map Visit.enc) (xs.map Visit.enc) i))] [1000]) 0 (Nat.zero_le _) ?_ ?_
  · refine ref_st (fun _ => 0) rfl ⟨⟨rfl, rfl⟩, rfl, rfl, trivial⟩ ⟨?_, trivial⟩ (by simp) rfl (by simp [lookM])
    rw [upto_0]; rfl
  · intro i hi
    cases hx : xs[i]? with
    | none =>
      have hge := le_of_at hx
      have hie : i = xs.length := by omega
      rw [upto_end hyl (by simp; omega), hie]
      repeat' first
        | refine go_seq ?_
        | refine go_region ?_
        | (refine go_op rfl ?_; conv => whnf)
        | (refine go_nil ?_; conv => whnf)
        | (refine go_hit rfl rfl rfl ?_; conv => whnf)
        | (refine go_miss rfl rfl rfl ?_)
        | (refine go_undef rfl rfl rfl ?_)
        | (refine go_splitT rfl rfl rfl (fun h => ?_) (fun h => ?_) <;> conv => whnf)
        | (refine go_splitF rfl rfl rfl (fun h => ?_) (fun h => ?_) <;> conv => whnf)
        | (refine go_storeBox rfl rfl rfl rfl rfl rfl ?_; conv => whnf)
        | (refine go_dop rfl ?_; conv => whnf)
        | (refine go_dhit rfl rfl ?_; conv => whnf)
        | (refine go_dmiss rfl rfl ?_; conv => whnf)
        | (refine go_dundef rfl rfl ?_; conv => whnf)
        | (refine go_dend (by kernel_rfl) ?_; conv => whnf)
        | refine go_draw drawsOk ?_
        | (refine go_pickT rfl ?_; conv => whnf)
        | (refine go_pickF rfl ?_; conv => whnf)
        | (refine go_pick rfl (fun h => ?_) (fun h => ?_) <;> conv => whnf)
        | (refine go_dsplit2 rfl (fun h => ?_) (fun h => ?_) <;> conv => whnf)
        | (refine go_loadB ?_; conv => whnf)
        | (refine ⟨by kernel_rfl, ?_⟩; conv => whnf)
        | (refine go_ret ?_; conv => whnf)
        | refine go_block ?_
        | (refine go_skip ?_; conv => whnf)
        | (refine go_exit ?_; conv => whnf)
        | refine go_true rfl ?_
        | refine go_false rfl ?_
        | refine go_cond rfl (fun h => ?_) (fun h => ?_)
        | refine ⟨rfl, ?_⟩
        | (refine ⟨trivial, ?_⟩; conv => whnf)
        | (refine ⟨le_of_ble rfl, ?_⟩; conv => whnf)
        | fail
      · exfalso; simp at *
      · exact ret_mut0 rfl rfl rfl rfl rfl rfl rfl (enc_gr _)
    | some v =>
      have hlt := lt_of_at hx
      have hrow : (xs.map Visit.enc)[i]? = some v.enc := by simp [hx]
      have hat := upto_at hyl hrow
      have hset := upto_set (y := (markV k i).enc) hyl hrow (marks_at k hlt)
      have hil : i < (upto ((marks k xs.length).map Visit.enc) (xs.map Visit.enc) i).length := by rw [upto_len hyl]; simpa using hlt
      repeat' first
        | refine go_seq ?_
        | refine go_region ?_
        | (refine go_op rfl ?_; conv => whnf)
        | (refine go_nil ?_; conv => whnf)
        | (refine go_hit rfl rfl rfl ?_; conv => whnf)
        | (refine go_miss rfl rfl rfl ?_)
        | (refine go_undef rfl rfl rfl ?_)
        | (refine go_splitT rfl rfl rfl (fun h => ?_) (fun h => ?_) <;> conv => whnf)
        | (refine go_splitF rfl rfl rfl (fun h => ?_) (fun h => ?_) <;> conv => whnf)
        | (refine go_storeBox rfl rfl rfl rfl rfl rfl ?_; conv => whnf)
        | (refine go_dop rfl ?_; conv => whnf)
        | (refine go_dhit rfl rfl ?_; conv => whnf)
        | (refine go_dmiss rfl rfl ?_; conv => whnf)
        | (refine go_dundef rfl rfl ?_; conv => whnf)
        | (refine go_dend (by kernel_rfl) ?_; conv => whnf)
        | refine go_draw drawsOk ?_
        | (refine go_pickT rfl ?_; conv => whnf)
        | (refine go_pickF rfl ?_; conv => whnf)
        | (refine go_pick rfl (fun h => ?_) (fun h => ?_) <;> conv => whnf)
        | (refine go_idxOwn rfl rfl rfl rfl rfl rfl (by simp; omega) ?_; conv => whnf)
        | (refine go_storeEl rfl rfl rfl rfl hat rfl rfl rfl ?_; conv => whnf)
        | (refine go_storeEl rfl rfl rfl rfl (set_at hil) rfl rfl (List.set_set _) ?_; conv => whnf)
        | (refine go_dsplit2 rfl (fun h => ?_) (fun h => ?_) <;> conv => whnf)
        | (refine go_loadB ?_; conv => whnf)
        | (refine ⟨by kernel_rfl, ?_⟩; conv => whnf)
        | (refine go_ret ?_; conv => whnf)
        | refine go_block ?_
        | (refine go_skip ?_; conv => whnf)
        | (refine go_exit ?_; conv => whnf)
        | refine go_true rfl ?_
        | refine go_false rfl ?_
        | refine go_cond rfl (fun h => ?_) (fun h => ?_)
        | refine ⟨rfl, ?_⟩
        | (refine ⟨trivial, ?_⟩; conv => whnf)
        | (refine ⟨le_of_ble rfl, ?_⟩; conv => whnf)
        | fail
      · refine go_next (i + 1) (by omega) (by omega) (ref_st id rfl ⟨⟨rfl, rfl⟩, rfl, next_i (by omega), trivial⟩ ⟨?_, trivial⟩ (by simp) rfl (by simp [lookM]))
        rw [← hset]; rfl
      · exfalso; simp at *; omega

theorem c27 (k : Int) (n : Nat) (hl : n ≤ 1048576) : CallOk Try.prog 27 [.imm (.list ((marks k n).map Visit.enc)), .imm (.int .i64 k)] { res := [.imm (.int .i64 (kAt k (4 * n)))] } := by
  refine callOk_of tyOk Try.func27 rfl rfl (le_of_ble rfl) (le_of_ble rfl) (mutOk_imm rfl _) ?_
  repeat' first
    | refine go_seq ?_
    | refine go_region ?_
    | (refine go_op rfl ?_; conv => whnf)
    | (refine go_nil ?_; conv => whnf)
    | (refine go_hit rfl rfl rfl ?_; conv => whnf)
    | (refine go_miss rfl rfl rfl ?_)
    | (refine go_undef rfl rfl rfl ?_)
    | (refine go_splitT rfl rfl rfl (fun h => ?_) (fun h => ?_) <;> conv => whnf)
    | (refine go_splitF rfl rfl rfl (fun h => ?_) (fun h => ?_) <;> conv => whnf)
    | (refine go_storeBox rfl rfl rfl rfl rfl rfl ?_; conv => whnf)
    | (refine go_dop rfl ?_; conv => whnf)
    | (refine go_dhit rfl rfl ?_; conv => whnf)
    | (refine go_dmiss rfl rfl ?_; conv => whnf)
    | (refine go_dundef rfl rfl ?_; conv => whnf)
    | (refine go_dend (by kernel_rfl) ?_; conv => whnf)
    | refine go_draw drawsOk ?_
    | (refine go_pickT rfl ?_; conv => whnf)
    | (refine go_pickF rfl ?_; conv => whnf)
    | (refine go_pick rfl (fun h => ?_) (fun h => ?_) <;> conv => whnf)
    | (refine go_dsplit2 rfl (fun h => ?_) (fun h => ?_) <;> conv => whnf)
    | (refine go_loadB ?_; conv => whnf)
    | (refine ⟨by kernel_rfl, ?_⟩; conv => whnf)
    | (refine go_ret ?_; conv => whnf)
    | refine go_block ?_
    | (refine go_skip ?_; conv => whnf)
    | (refine go_exit ?_; conv => whnf)
    | refine go_true rfl ?_
    | refine go_false rfl ?_
    | refine go_cond rfl (fun h => ?_) (fun h => ?_)
    | refine ⟨rfl, ?_⟩
    | (refine ⟨trivial, ?_⟩; conv => whnf)
    | (refine ⟨le_of_ble rfl, ?_⟩; conv => whnf)
    | fail
  refine go_loop (α := Nat) (fun i => i ≤ n) (fun i => n - i)
    (fun i => st Try.f27.ntmps [(0, .imm (.list ((marks k n).map Visit.enc))), (1, .imm (.int .i64 (kAt k (4 * i)))), (5, .imm (.int .i64 (i : Nat)))] [] []) 0 (Nat.zero_le _) (ref_st0 rfl ⟨rfl, rfl, rfl, trivial⟩ rfl) ?_
  intro i hi
  by_cases hlt : i < n
  · have hr : ((marks k n).map Visit.enc)[((i : Nat) : Int).toNat]? = some (markV k i).enc := marks_at k hlt
    repeat' first
      | refine go_seq ?_
      | refine go_region ?_
      | (refine go_op rfl ?_; conv => whnf)
      | (refine go_nil ?_; conv => whnf)
      | (refine go_hit rfl rfl rfl ?_; conv => whnf)
      | (refine go_miss rfl rfl rfl ?_)
      | (refine go_undef rfl rfl rfl ?_)
      | (refine go_splitT rfl rfl rfl (fun h => ?_) (fun h => ?_) <;> conv => whnf)
      | (refine go_splitF rfl rfl rfl (fun h => ?_) (fun h => ?_) <;> conv => whnf)
      | (refine go_storeBox rfl rfl rfl rfl rfl rfl ?_; conv => whnf)
      | (refine go_dop rfl ?_; conv => whnf)
      | (refine go_dhit rfl rfl ?_; conv => whnf)
      | (refine go_dmiss rfl rfl ?_; conv => whnf)
      | (refine go_dundef rfl rfl ?_; conv => whnf)
      | (refine go_dend (by kernel_rfl) ?_; conv => whnf)
      | refine go_draw drawsOk ?_
      | (refine go_pickT rfl ?_; conv => whnf)
      | (refine go_pickF rfl ?_; conv => whnf)
      | (refine go_pick rfl (fun h => ?_) (fun h => ?_) <;> conv => whnf)
      | (refine go_idx rfl rfl rfl rfl (by omega) (by assumption) rfl ?_; conv => whnf)
      | (refine go_dsplit2 rfl (fun h => ?_) (fun h => ?_) <;> conv => whnf)
      | (refine go_loadB ?_; conv => whnf)
      | (refine ⟨by kernel_rfl, ?_⟩; conv => whnf)
      | (refine go_ret ?_; conv => whnf)
      | refine go_block ?_
      | (refine go_skip ?_; conv => whnf)
      | (refine go_exit ?_; conv => whnf)
      | refine go_true rfl ?_
      | refine go_false rfl ?_
      | refine go_cond rfl (fun h => ?_) (fun h => ?_)
      | refine ⟨rfl, ?_⟩
      | (refine ⟨trivial, ?_⟩; conv => whnf)
      | (refine ⟨le_of_ble rfl, ?_⟩; conv => whnf)
      | fail
    all_goals first
      | (exfalso; simp [markV, kAt, nx] at h; done)
      | (refine go_next (i + 1) (by omega) (by omega) (ref_st0 rfl ⟨rfl, rfl, next_i (by omega), trivial⟩ rfl); done)
      | (exfalso; rw [marks_len] at h; simp at h; omega)
  · have hie : i = n := by omega
    subst hie
    repeat' first
      | refine go_seq ?_
      | refine go_region ?_
      | (refine go_op rfl ?_; conv => whnf)
      | (refine go_nil ?_; conv => whnf)
      | (refine go_hit rfl rfl rfl ?_; conv => whnf)
      | (refine go_miss rfl rfl rfl ?_)
      | (refine go_undef rfl rfl rfl ?_)
      | (refine go_splitT rfl rfl rfl (fun h => ?_) (fun h => ?_) <;> conv => whnf)
      | (refine go_splitF rfl rfl rfl (fun h => ?_) (fun h => ?_) <;> conv => whnf)
      | (refine go_storeBox rfl rfl rfl rfl rfl rfl ?_; conv => whnf)
      | (refine go_dop rfl ?_; conv => whnf)
      | (refine go_dhit rfl rfl ?_; conv => whnf)
      | (refine go_dmiss rfl rfl ?_; conv => whnf)
      | (refine go_dundef rfl rfl ?_; conv => whnf)
      | (refine go_dend (by kernel_rfl) ?_; conv => whnf)
      | refine go_draw drawsOk ?_
      | (refine go_pickT rfl ?_; conv => whnf)
      | (refine go_pickF rfl ?_; conv => whnf)
      | (refine go_pick rfl (fun h => ?_) (fun h => ?_) <;> conv => whnf)
      | (refine go_dsplit2 rfl (fun h => ?_) (fun h => ?_) <;> conv => whnf)
      | (refine go_loadB ?_; conv => whnf)
      | (refine ⟨by kernel_rfl, ?_⟩; conv => whnf)
      | (refine go_ret ?_; conv => whnf)
      | refine go_block ?_
      | (refine go_skip ?_; conv => whnf)
      | (refine go_exit ?_; conv => whnf)
      | refine go_true rfl ?_
      | refine go_false rfl ?_
      | refine go_cond rfl (fun h => ?_) (fun h => ?_)
      | refine ⟨rfl, ?_⟩
      | (refine ⟨trivial, ?_⟩; conv => whnf)
      | (refine ⟨le_of_ble rfl, ?_⟩; conv => whnf)
      | fail
    · exfalso; rw [marks_len] at h; simp at h
    · exact ret_imm rfl rfl rfl rfl rfl rfl

def shOk (m : Int) (xs : List Visit) : Bool := valid xs && inR m (-1799) 1799 && valid (xs.map (shiftV m))
def shR (m : Int) (xs : List Visit) : List Visit := if shOk m xs then xs.map (shiftV m) else []

theorem shift_ok {xs : List Visit} (hok : ∀ v ∈ xs, v.ok) (m : Int) : ∀ v ∈ xs.map (shiftV m), v.ok := by
  intro v hv
  obtain ⟨u, hu, rfl⟩ := List.mem_map.1 hv
  obtain ⟨h1, h2, h3, h4⟩ := hok u hu
  refine ⟨h1, ?_, h3, h4⟩
  show i64 (IntKind.i64.wrap _)
  unfold i64
  rw [IntKind.wrap_i64]
  omega

theorem c24 (xs : List Visit) (m : Int) (hok : ∀ v ∈ xs, v.ok) (hl : xs.length ≤ 1048576) : CallOk Try.prog 24 [.imm (.list (xs.map Visit.enc)), .imm (.int .i64 m)]
    { res := [.arr 49 4 ((shR m xs).map Visit.enc), .imm (.bool (shOk m xs))] } := by
  refine callOk_of tyOk Try.func24 rfl rfl (le_of_ble rfl) (le_of_ble rfl) (mutOk_imm rfl _) ?_
  have hc38 := valid_spec hok hl
  have hc38' : CallOk Try.prog 38 [.imm (.list ((((xs.map (shiftV m)).map Visit.enc).drop 0).take ((xs.map (shiftV m)).map Visit.enc).length))] { res := [.imm (.bool (valid (xs.map (shiftV m))))] } := by
    rw [List.drop_zero, List.take_length]
    exact valid_spec (shift_ok hok m) (by simpa using hl)
  have hc52 := c52 m (-1799) 1799
  have hc53 := c53 xs m hl
  cases hv : valid xs with
  | false =>
    have hm : shOk m xs = false := by simp [shOk, hv]
    have hr : shR m xs = [] := by simp [shR, hm]
    rw [hv] at hc38; rw [hr, hm]
    repeat' first
      | refine go_seq ?_
      | refine go_region ?_
      | (refine go_op rfl ?_; conv => whnf)
      | (refine go_nil ?_; conv => whnf)
      | (refine go_hit rfl rfl rfl ?_; conv => whnf)
      | (refine go_miss rfl rfl rfl ?_)
      | (refine go_undef rfl rfl rfl ?_)
      | (refine go_splitT rfl rfl rfl (fun h => ?_) (fun h => ?_) <;> conv => whnf)
      | (refine go_splitF rfl rfl rfl (fun h => ?_) (fun h => ?_) <;> conv => whnf)
      | (refine go_storeBox rfl rfl rfl rfl rfl rfl ?_; conv => whnf)
      | (refine go_dop rfl ?_; conv => whnf)
      | (refine go_dhit rfl rfl ?_; conv => whnf)
      | (refine go_dmiss rfl rfl ?_; conv => whnf)
      | (refine go_dundef rfl rfl ?_; conv => whnf)
      | (refine go_dend (by kernel_rfl) ?_; conv => whnf)
      | refine go_draw drawsOk ?_
      | (refine go_pickT rfl ?_; conv => whnf)
      | (refine go_pickF rfl ?_; conv => whnf)
      | (refine go_pick rfl (fun h => ?_) (fun h => ?_) <;> conv => whnf)
      | (refine go_call [] (hc38) rfl rfl rfl rfl ?_; conv => whnf)
      | (refine go_dsplit2 rfl (fun h => ?_) (fun h => ?_) <;> conv => whnf)
      | (refine go_loadB ?_; conv => whnf)
      | (refine ⟨by kernel_rfl, ?_⟩; conv => whnf)
      | (refine go_ret ?_; conv => whnf)
      | refine go_block ?_
      | (refine go_skip ?_; conv => whnf)
      | (refine go_exit ?_; conv => whnf)
      | refine go_true rfl ?_
      | refine go_false rfl ?_
      | refine go_cond rfl (fun h => ?_) (fun h => ?_)
      | refine ⟨rfl, ?_⟩
      | (refine ⟨trivial, ?_⟩; conv => whnf)
      | (refine ⟨le_of_ble rfl, ?_⟩; conv => whnf)
      | fail
    all_goals exact ret_arr2 rfl rfl rfl rfl rfl rfl (enc_gr _) rfl rfl rfl
  | true =>
    rw [hv] at hc38
    cases hr1 : inR m (-1799) 1799 with
    | false =>
      have hm : shOk m xs = false := by simp [shOk, hr1]
      have hr : shR m xs = [] := by simp [shR, hm]
      rw [hr1] at hc52; rw [hr, hm]
      repeat' first
        | refine go_seq ?_
        | refine go_region ?_
        | (refine go_op rfl ?_; conv => whnf)
        | (refine go_nil ?_; conv => whnf)
        | (refine go_hit rfl rfl rfl ?_; conv => whnf)
        | (refine go_miss rfl rfl rfl ?_)
        | (refine go_undef rfl rfl rfl ?_)
        | (refine go_splitT rfl rfl rfl (fun h => ?_) (fun h => ?_) <;> conv => whnf)
        | (refine go_splitF rfl rfl rfl (fun h => ?_) (fun h => ?_) <;> conv => whnf)
        | (refine go_storeBox rfl rfl rfl rfl rfl rfl ?_; conv => whnf)
        | (refine go_dop rfl ?_; conv => whnf)
        | (refine go_dhit rfl rfl ?_; conv => whnf)
        | (refine go_dmiss rfl rfl ?_; conv => whnf)
        | (refine go_dundef rfl rfl ?_; conv => whnf)
        | (refine go_dend (by kernel_rfl) ?_; conv => whnf)
        | refine go_draw drawsOk ?_
        | (refine go_pickT rfl ?_; conv => whnf)
        | (refine go_pickF rfl ?_; conv => whnf)
        | (refine go_pick rfl (fun h => ?_) (fun h => ?_) <;> conv => whnf)
        | (refine go_call [] (hc38) rfl rfl rfl rfl ?_; conv => whnf)
        | (refine go_call [] (hc52) rfl rfl rfl rfl ?_; conv => whnf)
        | (refine go_dsplit2 rfl (fun h => ?_) (fun h => ?_) <;> conv => whnf)
        | (refine go_loadB ?_; conv => whnf)
        | (refine ⟨by kernel_rfl, ?_⟩; conv => whnf)
        | (refine go_ret ?_; conv => whnf)
        | refine go_block ?_
        | (refine go_skip ?_; conv => whnf)
        | (refine go_exit ?_; conv => whnf)
        | refine go_true rfl ?_
        | refine go_false rfl ?_
        | refine go_cond rfl (fun h => ?_) (fun h => ?_)
        | refine ⟨rfl, ?_⟩
        | (refine ⟨trivial, ?_⟩; conv => whnf)
        | (refine ⟨le_of_ble rfl, ?_⟩; conv => whnf)
        | fail
      all_goals exact ret_arr2 rfl rfl rfl rfl rfl rfl (enc_gr _) rfl rfl rfl
    | true =>
      rw [hr1] at hc52
      cases hv2 : valid (xs.map (shiftV m)) with
      | false =>
        have hm : shOk m xs = false := by simp [shOk, hv2]
        have hr : shR m xs = [] := by simp [shR, hm]
        rw [hv2] at hc38'; rw [hr, hm]
        repeat' first
          | refine go_seq ?_
          | refine go_region ?_
          | (refine go_op rfl ?_; conv => whnf)
          | (refine go_nil ?_; conv => whnf)
          | (refine go_hit rfl rfl rfl ?_; conv => whnf)
          | (refine go_miss rfl rfl rfl ?_)
          | (refine go_undef rfl rfl rfl ?_)
          | (refine go_splitT rfl rfl rfl (fun h => ?_) (fun h => ?_) <;> conv => whnf)
          | (refine go_splitF rfl rfl rfl (fun h => ?_) (fun h => ?_) <;> conv => whnf)
          | (refine go_storeBox rfl rfl rfl rfl rfl rfl ?_; conv => whnf)
          | (refine go_dop rfl ?_; conv => whnf)
          | (refine go_dhit rfl rfl ?_; conv => whnf)
          | (refine go_dmiss rfl rfl ?_; conv => whnf)
          | (refine go_dundef rfl rfl ?_; conv => whnf)
          | (refine go_dend (by kernel_rfl) ?_; conv => whnf)
          | refine go_draw drawsOk ?_
          | (refine go_pickT rfl ?_; conv => whnf)
          | (refine go_pickF rfl ?_; conv => whnf)
          | (refine go_pick rfl (fun h => ?_) (fun h => ?_) <;> conv => whnf)
          | (refine go_call [] (hc38) rfl rfl rfl rfl ?_; conv => whnf)
          | (refine go_call [] (hc52) rfl rfl rfl rfl ?_; conv => whnf)
          | (refine go_call [] (hc53) rfl rfl rfl rfl ?_; conv => whnf)
          | (refine go_call [] (hc38') rfl rfl rfl rfl ?_; conv => whnf)
          | (refine go_dsplit2 rfl (fun h => ?_) (fun h => ?_) <;> conv => whnf)
          | (refine go_loadB ?_; conv => whnf)
          | (refine ⟨by kernel_rfl, ?_⟩; conv => whnf)
          | (refine go_ret ?_; conv => whnf)
          | refine go_block ?_
          | (refine go_skip ?_; conv => whnf)
          | (refine go_exit ?_; conv => whnf)
          | refine go_true rfl ?_
          | refine go_false rfl ?_
          | refine go_cond rfl (fun h => ?_) (fun h => ?_)
          | refine ⟨rfl, ?_⟩
          | (refine ⟨trivial, ?_⟩; conv => whnf)
          | (refine ⟨le_of_ble rfl, ?_⟩; conv => whnf)
          | fail
        all_goals exact ret_arr2 rfl rfl rfl rfl rfl rfl (enc_gr _) rfl rfl rfl
      | true =>
        have hm : shOk m xs = true := by simp [shOk, hv, hr1, hv2]
        have hr : shR m xs = xs.map (shiftV m) := by simp [shR, hm]
        rw [hv2] at hc38'; rw [hr, hm]
        repeat' first
          | refine go_seq ?_
          | refine go_region ?_
          | (refine go_op rfl ?_; conv => whnf)
          | (refine go_nil ?_; conv => whnf)
          | (refine go_hit rfl rfl rfl ?_; conv => whnf)
          | (refine go_miss rfl rfl rfl ?_)
          | (refine go_undef rfl rfl rfl ?_)
          | (refine go_splitT rfl rfl rfl (fun h => ?_) (fun h => ?_) <;> conv => whnf)
          | (refine go_splitF rfl rfl rfl (fun h => ?_) (fun h => ?_) <;> conv => whnf)
          | (refine go_storeBox rfl rfl rfl rfl rfl rfl ?_; conv => whnf)
          | (refine go_dop rfl ?_; conv => whnf)
          | (refine go_dhit rfl rfl ?_; conv => whnf)
          | (refine go_dmiss rfl rfl ?_; conv => whnf)
          | (refine go_dundef rfl rfl ?_; conv => whnf)
          | (refine go_dend (by kernel_rfl) ?_; conv => whnf)
          | refine go_draw drawsOk ?_
          | (refine go_pickT rfl ?_; conv => whnf)
          | (refine go_pickF rfl ?_; conv => whnf)
          | (refine go_pick rfl (fun h => ?_) (fun h => ?_) <;> conv => whnf)
          | (refine go_call [] (hc38) rfl rfl rfl rfl ?_; conv => whnf)
          | (refine go_call [] (hc52) rfl rfl rfl rfl ?_; conv => whnf)
          | (refine go_call [] (hc53) rfl rfl rfl rfl ?_; conv => whnf)
          | (refine go_call [] (hc38') rfl rfl rfl rfl ?_; conv => whnf)
          | (refine go_dsplit2 rfl (fun h => ?_) (fun h => ?_) <;> conv => whnf)
          | (refine go_loadB ?_; conv => whnf)
          | (refine ⟨by kernel_rfl, ?_⟩; conv => whnf)
          | (refine go_ret ?_; conv => whnf)
          | refine go_block ?_
          | (refine go_skip ?_; conv => whnf)
          | (refine go_exit ?_; conv => whnf)
          | refine go_true rfl ?_
          | refine go_false rfl ?_
          | refine go_cond rfl (fun h => ?_) (fun h => ?_)
          | refine ⟨rfl, ?_⟩
          | (refine ⟨trivial, ?_⟩; conv => whnf)
          | (refine ⟨le_of_ble rfl, ?_⟩; conv => whnf)
          | fail
        all_goals exact ret_arr2 rfl rfl rfl rfl rfl (by rw [List.drop_zero, List.take_length]) (enc_gr _) rfl rfl rfl

theorem c25 (xs : List Visit) (m : Int) (hl : xs.length ≤ 1048576) : CallOk Try.prog 25 [.imm (.list (xs.map Visit.enc)), .imm (.int .i64 m)]
    { res := [.arr 49 4 ((shR m xs).map Visit.enc), .imm (.bool (shOk m xs))] } := by
  refine callOk_of tyOk Try.func25 rfl rfl (le_of_ble rfl) (le_of_ble rfl) (mutOk_imm rfl _) ?_
  have hc16 : CallOk Try.prog 16 [.imm (.list (xs.map Visit.enc))] { res := [.imm (.bool (valid xs))] } := c16 xs hl
  have hc40 := c40 m (-1799) 1799
  have hc54 := c54 xs m hl
  cases hv : valid xs with
  | false =>
    have hm : shOk m xs = false := by simp [shOk, hv]
    have hr : shR m xs = [] := by simp [shR, hm]
    rw [hv] at hc16; rw [hr, hm]
    repeat' first
      | refine go_seq ?_
      | refine go_region ?_
      | (refine go_op rfl ?_; conv => whnf)
      | (refine go_nil ?_; conv => whnf)
      | (refine go_hit rfl rfl rfl ?_; conv => whnf)
      | (refine go_miss rfl rfl rfl ?_)
      | (refine go_undef rfl rfl rfl ?_)
      | (refine go_splitT rfl rfl rfl (fun h => ?_) (fun h => ?_) <;> conv => whnf)
      | (refine go_splitF rfl rfl rfl (fun h => ?_) (fun h => ?_) <;> conv => whnf)
      | (refine go_storeBox rfl rfl rfl rfl rfl rfl ?_; conv => whnf)
      | (refine go_dop rfl ?_; conv => whnf)
      | (refine go_dhit rfl rfl ?_; conv => whnf)
      | (refine go_dmiss rfl rfl ?_; conv => whnf)
      | (refine go_dundef rfl rfl ?_; conv => whnf)
      | (refine go_dend (by kernel_rfl) ?_; conv => whnf)
      | refine go_draw drawsOk ?_
      | (refine go_pickT rfl ?_; conv => whnf)
      | (refine go_pickF rfl ?_; conv => whnf)
      | (refine go_pick rfl (fun h => ?_) (fun h => ?_) <;> conv => whnf)
      | (refine go_call [] (hc16) rfl rfl rfl rfl ?_; conv => whnf)
      | (refine go_dsplit2 rfl (fun h => ?_) (fun h => ?_) <;> conv => whnf)
      | (refine go_loadB ?_; conv => whnf)
      | (refine ⟨by kernel_rfl, ?_⟩; conv => whnf)
      | (refine go_ret ?_; conv => whnf)
      | refine go_block ?_
      | (refine go_skip ?_; conv => whnf)
      | (refine go_exit ?_; conv => whnf)
      | refine go_true rfl ?_
      | refine go_false rfl ?_
      | refine go_cond rfl (fun h => ?_) (fun h => ?_)
      | refine ⟨rfl, ?_⟩
      | (refine ⟨trivial, ?_⟩; conv => whnf)
      | (refine ⟨le_of_ble rfl, ?_⟩; conv => whnf)
      | fail
    all_goals exact ret_arr2 rfl rfl rfl rfl rfl rfl (enc_gr _) rfl rfl rfl
  | true =>
    rw [hv] at hc16
    cases hr1 : inR m (-1799) 1799 with
    | false =>
      have hm : shOk m xs = false := by simp [shOk, hr1]
      have hr : shR m xs = [] := by simp [shR, hm]
      rw [hr1] at hc40; rw [hr, hm]
      repeat' first
        | refine go_seq ?_
        | refine go_region ?_
        | (refine go_op rfl ?_; conv => whnf)
        | (refine go_nil ?_; conv => whnf)
        | (refine go_hit rfl rfl rfl ?_; conv => whnf)
        | (refine go_miss rfl rfl rfl ?_)
        | (refine go_undef rfl rfl rfl ?_)
        | (refine go_splitT rfl rfl rfl (fun h => ?_) (fun h => ?_) <;> conv => whnf)
        | (refine go_splitF rfl rfl rfl (fun h => ?_) (fun h => ?_) <;> conv => whnf)
        | (refine go_storeBox rfl rfl rfl rfl rfl rfl ?_; conv => whnf)
        | (refine go_dop rfl ?_; conv => whnf)
        | (refine go_dhit rfl rfl ?_; conv => whnf)
        | (refine go_dmiss rfl rfl ?_; conv => whnf)
        | (refine go_dundef rfl rfl ?_; conv => whnf)
        | (refine go_dend (by kernel_rfl) ?_; conv => whnf)
        | refine go_draw drawsOk ?_
        | (refine go_pickT rfl ?_; conv => whnf)
        | (refine go_pickF rfl ?_; conv => whnf)
        | (refine go_pick rfl (fun h => ?_) (fun h => ?_) <;> conv => whnf)
        | (refine go_call [] (hc16) rfl rfl rfl rfl ?_; conv => whnf)
        | (refine go_call [] (hc40) rfl rfl rfl rfl ?_; conv => whnf)
        | (refine go_dsplit2 rfl (fun h => ?_) (fun h => ?_) <;> conv => whnf)
        | (refine go_loadB ?_; conv => whnf)
        | (refine ⟨by kernel_rfl, ?_⟩; conv => whnf)
        | (refine go_ret ?_; conv => whnf)
        | refine go_block ?_
        | (refine go_skip ?_; conv => whnf)
        | (refine go_exit ?_; conv => whnf)
        | refine go_true rfl ?_
        | refine go_false rfl ?_
        | refine go_cond rfl (fun h => ?_) (fun h => ?_)
        | refine ⟨rfl, ?_⟩
        | (refine ⟨trivial, ?_⟩; conv => whnf)
        | (refine ⟨le_of_ble rfl, ?_⟩; conv => whnf)
        | fail
      all_goals exact ret_arr2 rfl rfl rfl rfl rfl rfl (enc_gr _) rfl rfl rfl
    | true =>
      rw [hr1] at hc40
      cases hv2 : valid (xs.map (shiftV m)) with
      | false =>
        have hm : shOk m xs = false := by simp [shOk, hv2]
        have hr : shR m xs = [] := by simp [shR, hm]
        rw [hv2] at hc54; rw [hr, hm]
        repeat' first
          | refine go_seq ?_
          | refine go_region ?_
          | (refine go_op rfl ?_; conv => whnf)
          | (refine go_nil ?_; conv => whnf)
          | (refine go_hit rfl rfl rfl ?_; conv => whnf)
          | (refine go_miss rfl rfl rfl ?_)
          | (refine go_undef rfl rfl rfl ?_)
          | (refine go_splitT rfl rfl rfl (fun h => ?_) (fun h => ?_) <;> conv => whnf)
          | (refine go_splitF rfl rfl rfl (fun h => ?_) (fun h => ?_) <;> conv => whnf)
          | (refine go_storeBox rfl rfl rfl rfl rfl rfl ?_; conv => whnf)
          | (refine go_dop rfl ?_; conv => whnf)
          | (refine go_dhit rfl rfl ?_; conv => whnf)
          | (refine go_dmiss rfl rfl ?_; conv => whnf)
          | (refine go_dundef rfl rfl ?_; conv => whnf)
          | (refine go_dend (by kernel_rfl) ?_; conv => whnf)
          | refine go_draw drawsOk ?_
          | (refine go_pickT rfl ?_; conv => whnf)
          | (refine go_pickF rfl ?_; conv => whnf)
          | (refine go_pick rfl (fun h => ?_) (fun h => ?_) <;> conv => whnf)
          | (refine go_call [] (hc16) rfl rfl rfl rfl ?_; conv => whnf)
          | (refine go_call [] (hc40) rfl rfl rfl rfl ?_; conv => whnf)
          | (refine go_call [] (hc54) rfl rfl rfl rfl ?_; conv => whnf)
          | (refine go_dsplit2 rfl (fun h => ?_) (fun h => ?_) <;> conv => whnf)
          | (refine go_loadB ?_; conv => whnf)
          | (refine ⟨by kernel_rfl, ?_⟩; conv => whnf)
          | (refine go_ret ?_; conv => whnf)
          | refine go_block ?_
          | (refine go_skip ?_; conv => whnf)
          | (refine go_exit ?_; conv => whnf)
          | refine go_true rfl ?_
          | refine go_false rfl ?_
          | refine go_cond rfl (fun h => ?_) (fun h => ?_)
          | refine ⟨rfl, ?_⟩
          | (refine ⟨trivial, ?_⟩; conv => whnf)
          | (refine ⟨le_of_ble rfl, ?_⟩; conv => whnf)
          | fail
        all_goals exact ret_arr2 rfl rfl rfl rfl rfl rfl (enc_gr _) rfl rfl rfl
      | true =>
        have hm : shOk m xs = true := by simp [shOk, hv, hr1, hv2]
        have hr : shR m xs = xs.map (shiftV m) := by simp [shR, hm]
        rw [hv2] at hc54; rw [hr, hm]
        repeat' first
          | refine go_seq ?_
          | refine go_region ?_
          | (refine go_op rfl ?_; conv => whnf)
          | (refine go_nil ?_; conv => whnf)
          | (refine go_hit rfl rfl rfl ?_; conv => whnf)
          | (refine go_miss rfl rfl rfl ?_)
          | (refine go_undef rfl rfl rfl ?_)
          | (refine go_splitT rfl rfl rfl (fun h => ?_) (fun h => ?_) <;> conv => whnf)
          | (refine go_splitF rfl rfl rfl (fun h => ?_) (fun h => ?_) <;> conv => whnf)
          | (refine go_storeBox rfl rfl rfl rfl rfl rfl ?_; conv => whnf)
          | (refine go_dop rfl ?_; conv => whnf)
          | (refine go_dhit rfl rfl ?_; conv => whnf)
          | (refine go_dmiss rfl rfl ?_; conv => whnf)
          | (refine go_dundef rfl rfl ?_; conv => whnf)
          | (refine go_dend (by kernel_rfl) ?_; conv => whnf)
          | refine go_draw drawsOk ?_
          | (refine go_pickT rfl ?_; conv => whnf)
          | (refine go_pickF rfl ?_; conv => whnf)
          | (refine go_pick rfl (fun h => ?_) (fun h => ?_) <;> conv => whnf)
          | (refine go_call [] (hc16) rfl rfl rfl rfl ?_; conv => whnf)
          | (refine go_call [] (hc40) rfl rfl rfl rfl ?_; conv => whnf)
          | (refine go_call [] (hc54) rfl rfl rfl rfl ?_; conv => whnf)
          | (refine go_dsplit2 rfl (fun h => ?_) (fun h => ?_) <;> conv => whnf)
          | (refine go_loadB ?_; conv => whnf)
          | (refine ⟨by kernel_rfl, ?_⟩; conv => whnf)
          | (refine go_ret ?_; conv => whnf)
          | refine go_block ?_
          | (refine go_skip ?_; conv => whnf)
          | (refine go_exit ?_; conv => whnf)
          | refine go_true rfl ?_
          | refine go_false rfl ?_
          | refine go_cond rfl (fun h => ?_) (fun h => ?_)
          | refine ⟨rfl, ?_⟩
          | (refine ⟨trivial, ?_⟩; conv => whnf)
          | (refine ⟨le_of_ble rfl, ?_⟩; conv => whnf)
          | fail
        all_goals exact ret_arr2 rfl rfl rfl rfl rfl (by rw [List.drop_zero, List.take_length]) (enc_gr _) rfl rfl rfl

theorem view_all (xs : List Visit) : ((xs.map Visit.enc).drop 0).take (xs.map Visit.enc).length = xs.map Visit.enc := by rw [List.drop_zero, List.take_length]

theorem c7 (xs : List Visit) (hok : ∀ v ∈ xs, v.ok) (hl : xs.length ≤ 9223372036854775807) (m : Int) (_ : i64 m) : CallOk Try.prog 7 [.imm (.list (xs.map Visit.enc)), .imm (.int .i64 m)] { res := [.imm (.bool true)] } := by
  refine callOk_of tyOk Try.func7 rfl rfl (le_of_ble rfl) (le_of_ble rfl) (mutOk_imm rfl _) ?_
  have hw : IntKind.i64.wrap (1048576 - (xs.length : Int)) = 1048576 - xs.length := by rw [IntKind.wrap_i64]; omega
  by_cases hs : xs.length ≤ 1048576
  · have hrl : (shR m xs).length ≤ xs.length := by unfold shR; split <;> simp
    have eq1 : ∀ ys : List Visit, ys.length ≤ 1048576 → CallOk Try.prog 17 [.imm (.list (((ys.map Visit.enc).drop 0).take (ys.map Visit.enc).length)), .imm (.list (((ys.map Visit.enc).drop 0).take (ys.map Visit.enc).length))] { res := [.imm (.bool true)] } := by
      intro ys hy
      rw [view_all]
      have := c17 ys ys hy
      rw [zip_self beq_self] at this
      simpa using this
    have eq2 : ∀ ys : List Visit, ys.length ≤ 1048576 → CallOk Try.prog 17 [.imm (.list (((ys.map Visit.enc).drop 0).take (ys.map Visit.enc).length)), .imm (.list (ys.map Visit.enc))] { res := [.imm (.bool true)] } := by
      intro ys hy
      have := eq1 ys hy
      rwa [view_all] at this ⊢
    have hc24 : CallOk Try.prog 24 [.imm (.list (((xs.map Visit.enc).drop 0).take (xs.map Visit.enc).length)), .imm (.int .i64 m)] { res := [.arr 49 4 ((shR m xs).map Visit.enc), .imm (.bool (shOk m xs))] } := by rw [view_all]; exact c24 xs m hok hs
    have hc25 : CallOk Try.prog 25 [.imm (.list (((xs.map Visit.enc).drop 0).take (xs.map Visit.enc).length)), .imm (.int .i64 m)] { res := [.arr 49 4 ((shR m xs).map Visit.enc), .imm (.bool (shOk m xs))] } := by rw [view_all]; exact c25 xs m hs
    have hm1 := c26 xs 1 hs
    have hm2 := c26 (shR m xs) 1 (by omega)
    have hh2 : CallOk Try.prog 27 [.imm (.list ((((marks 1 (shR m xs).length).map Visit.enc).drop 0).take ((shR m xs).map Visit.enc).length)), .imm (.int .i64 1)] { res := [.imm (.int .i64 (kAt 1 (4 * (shR m xs).length)))] } := by
      have := c27 1 (shR m xs).length (by omega)
      rwa [show ((((marks 1 (shR m xs).length).map Visit.enc).drop 0).take ((shR m xs).map Visit.enc).length) = (marks 1 (shR m xs).length).map Visit.enc from by rw [List.drop_zero, List.take_of_length_le (by simp [marks])]]
    have hk1 := kAt_eq (k := 1) (by omega) (4 * xs.length) (by omega)
    have hk2 := kAt_eq (k := 1) (by omega) (4 * (shR m xs).length) (by omega)
    repeat' first
      | refine go_seq ?_
      | refine go_region ?_
      | (refine go_op rfl ?_; conv => whnf)
      | (refine go_nil ?_; conv => whnf)
      | (refine go_hit rfl rfl rfl ?_; conv => whnf)
      | (refine go_miss rfl rfl rfl ?_)
      | (refine go_undef rfl rfl rfl ?_)
      | (refine go_splitT rfl rfl rfl (fun h => ?_) (fun h => ?_) <;> conv => whnf)
      | (refine go_splitF rfl rfl rfl (fun h => ?_) (fun h => ?_) <;> conv => whnf)
      | (refine go_storeBox rfl rfl rfl rfl rfl rfl ?_; conv => whnf)
      | (refine go_dop rfl ?_; conv => whnf)
      | (refine go_dhit rfl rfl ?_; conv => whnf)
      | (refine go_dmiss rfl rfl ?_; conv => whnf)
      | (refine go_dundef rfl rfl ?_; conv => whnf)
      | (refine go_dend (by kernel_rfl) ?_; conv => whnf)
      | refine go_draw drawsOk ?_
      | (refine go_pickT rfl ?_; conv => whnf)
      | (refine go_pickF rfl ?_; conv => whnf)
      | (refine go_pick rfl (fun h => ?_) (fun h => ?_) <;> conv => whnf)
      | (refine go_call [] (c13 xs _) rfl rfl rfl rfl ?_; conv => whnf)
      | (refine go_call [] (c15a xs hs) rfl rfl rfl rfl ?_; conv => whnf)
      | (refine go_call [] (hc24) rfl rfl rfl rfl ?_; conv => whnf)
      | (refine go_call [] (hc25) rfl rfl rfl rfl ?_; conv => whnf)
      | (refine go_call [] (eq1 _ (by omega)) rfl rfl rfl rfl ?_; conv => whnf)
      | (refine go_call [2, 0] hm1 (argsIn_lent rfl rfl rfl) rfl rfl rfl ?_; conv => whnf)
      | (refine go_call [2, 0] hm2 (argsIn_lent rfl rfl rfl) rfl rfl rfl ?_; conv => whnf)
      | (refine go_call [] (hh2) rfl rfl rfl rfl ?_; conv => whnf)
      | (refine go_dsplit2 rfl (fun h => ?_) (fun h => ?_) <;> conv => whnf)
      | (refine go_loadB ?_; conv => whnf)
      | (refine ⟨by kernel_rfl, ?_⟩; conv => whnf)
      | (refine go_ret ?_; conv => whnf)
      | refine go_block ?_
      | (refine go_skip ?_; conv => whnf)
      | (refine go_exit ?_; conv => whnf)
      | refine go_true rfl ?_
      | refine go_false rfl ?_
      | refine go_cond rfl (fun h => ?_) (fun h => ?_)
      | refine ⟨rfl, ?_⟩
      | (refine ⟨trivial, ?_⟩; conv => whnf)
      | (refine ⟨le_of_ble rfl, ?_⟩; conv => whnf)
      | fail
    all_goals first | exact ret_imm rfl rfl rfl rfl rfl rfl | (exfalso; simp at h; done) | (exfalso; simp only [decide_eq_true_eq] at h; omega) | trace_state
  · have h1 : True := trivial
    repeat' first
      | refine go_seq ?_
      | refine go_region ?_
      | (refine go_op rfl ?_; conv => whnf)
      | (refine go_nil ?_; conv => whnf)
      | (refine go_hit rfl rfl rfl ?_; conv => whnf)
      | (refine go_miss rfl rfl rfl ?_)
      | (refine go_undef rfl rfl rfl ?_)
      | (refine go_splitT rfl rfl rfl (fun h => ?_) (fun h => ?_) <;> conv => whnf)
      | (refine go_splitF rfl rfl rfl (fun h => ?_) (fun h => ?_) <;> conv => whnf)
      | (refine go_storeBox rfl rfl rfl rfl rfl rfl ?_; conv => whnf)
      | (refine go_dop rfl ?_; conv => whnf)
      | (refine go_dhit rfl rfl ?_; conv => whnf)
      | (refine go_dmiss rfl rfl ?_; conv => whnf)
      | (refine go_dundef rfl rfl ?_; conv => whnf)
      | (refine go_dend (by kernel_rfl) ?_; conv => whnf)
      | refine go_draw drawsOk ?_
      | (refine go_pickT rfl ?_; conv => whnf)
      | (refine go_pickF rfl ?_; conv => whnf)
      | (refine go_pick rfl (fun h => ?_) (fun h => ?_) <;> conv => whnf)
      | (refine go_call [] (c13 xs _) rfl rfl rfl rfl ?_; conv => whnf)
      | (refine go_dsplit2 rfl (fun h => ?_) (fun h => ?_) <;> conv => whnf)
      | (refine go_loadB ?_; conv => whnf)
      | (refine ⟨by kernel_rfl, ?_⟩; conv => whnf)
      | (refine go_ret ?_; conv => whnf)
      | refine go_block ?_
      | (refine go_skip ?_; conv => whnf)
      | (refine go_exit ?_; conv => whnf)
      | refine go_true rfl ?_
      | refine go_false rfl ?_
      | refine go_cond rfl (fun h => ?_) (fun h => ?_)
      | refine ⟨rfl, ?_⟩
      | (refine ⟨trivial, ?_⟩; conv => whnf)
      | (refine ⟨le_of_ble rfl, ?_⟩; conv => whnf)
      | fail
    · exact ret_imm rfl rfl rfl rfl rfl rfl
    · exfalso
      rw [hw] at h
      rw [if_pos (by omega)] at h
      simp at h
end Go.Proofs.Ytnjojepeilgikaa

