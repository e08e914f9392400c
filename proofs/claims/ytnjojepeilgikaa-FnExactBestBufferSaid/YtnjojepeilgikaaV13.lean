/- The walks of the best buffer. -/
import Derived.Test.YtnjojepeilgikaaV12
namespace Go.Proofs.Ytnjojepeilgikaa
open Go Go.Am
set_option maxRecDepth 100000
set_option maxHeartbeats 4000000
attribute [local irreducible] amOps amC opCall opIndexAddr opPick retQ opMake opStore amDraw opAppend opLoad opNilCmp

/-- The best so far: minutes, punctual visits. -/
structure Bst where
  b : Int
  m : Int

def bN (e l : Int) (xs : List Visit) (k : Nat) : Int := pSum one' e l (xs.map (shiftV (k : Nat)))
def bStep (e l : Int) (xs : List Visit) (a : Bst) (k : Nat) : Bst :=
  if valid (xs.map (shiftV (k : Nat))) = true ∧ a.m < bN e l xs k then ⟨k, bN e l xs k⟩ else a
def bAt (e l : Int) (xs : List Visit) : Nat → Bst
  | 0 => ⟨0, -1⟩
  | k + 1 => bStep e l xs (bAt e l xs k) k

def bbOk (e l L : Int) (xs : List Visit) : Bool := valid xs && lim e l && inR L 0 60
def bbB (e l L : Int) (xs : List Visit) : Int := if bbOk e l L xs then (bAt e l xs (L.toNat + 1)).b else 0
def bbM (e l L : Int) (xs : List Visit) : Int := if bbOk e l L xs then (bAt e l xs (L.toNat + 1)).m else 0

theorem b_take {e l : Int} {xs : List Visit} {k : Nat} (h1 : valid (xs.map (shiftV (k : Nat))) = true) (h2 : (bAt e l xs k).m < bN e l xs k) : bAt e l xs (k + 1) = ⟨k, bN e l xs k⟩ := by
  simp only [bAt, bStep]; rw [if_pos ⟨h1, h2⟩]
theorem b_stay1 {e l : Int} {xs : List Visit} {k : Nat} (h1 : valid (xs.map (shiftV (k : Nat))) = false) : bAt e l xs (k + 1) = bAt e l xs k := by
  simp only [bAt, bStep]; rw [if_neg (by rw [h1]; simp)]
theorem b_stay2 {e l : Int} {xs : List Visit} {k : Nat} (h2 : ¬ (bAt e l xs k).m < bN e l xs k) : bAt e l xs (k + 1) = bAt e l xs k := by
  simp only [bAt, bStep]; rw [if_neg (fun h => h2 h.2)]

theorem cmp_gt (x y : Int) : decide (0 < cmpI x y) = decide (y < x) := by
  unfold cmpI
  split
  · rw [Bool.eq_iff_iff]; simp; omega
  · split
    · rw [Bool.eq_iff_iff]; simp; omega
    · rw [Bool.eq_iff_iff]; simp; omega

theorem c30 (xs : List Visit) (e l L : Int) (hok : ∀ v ∈ xs, v.ok) (hl : xs.length ≤ 1048576) : CallOk Try.prog 30 [.imm (.list (xs.map Visit.enc)), .imm (.int .i64 e), .imm (.int .i64 l), .imm (.int .i64 L)]
    { res := [.imm (.int .i64 (bbB e l L xs)), .imm (.int .i64 (bbM e l L xs)), .imm (.bool (bbOk e l L xs))] } := by
  refine callOk_of tyOk Try.func30 rfl rfl (le_of_ble rfl) (le_of_ble rfl) (mutOk_imm rfl _) ?_
  have hc38 := valid_spec hok hl
  have hc45 := c45 e l
  have hc52 := c52 L 0 60
  cases hv : valid xs with
  | false =>
    have hm : bbOk e l L xs = false := by simp [bbOk, hv]
    rw [hv] at hc38
    repeat' first
      | refine go_seq ?_
      | refine go_region ?_
      | (refine go_op rfl ?_; conv => whnf)
      | (refine go_nil ?_; conv => whnf)
      | (refine go_hit rfl rfl rfl ?_; conv => whnf)
      | (refine go_miss rfl rfl rfl ?_)
      | (refine go_undef rfl rfl rfl ?_)
      | (refine go_splitT rfl rfl rfl (fun h => ?_) (fun h => ?_) <;> conv => whnf)
      | (refine go_splitF rfl rfl rfl (fun h => ?_) (fun h => ?_) <;> conv => whnf)
      | (refine go_storeBox rfl rfl rfl rfl rfl rfl ?_; conv => whnf)
      | (refine go_dop rfl ?_; conv => whnf)
      | (refine go_dhit rfl rfl ?_; conv => whnf)
      | refine go_dmiss rfl rfl ?_
      | refine go_dundef rfl rfl ?_
      | (refine go_dend (by kernel_rfl) ?_; conv => whnf)
      | refine go_draw drawsOk ?_
      | (refine go_pickT rfl ?_; conv => whnf)
      | (refine go_pickF rfl ?_; conv => whnf)
      | (refine go_pick rfl (fun h => ?_) (fun h => ?_) <;> conv => whnf)
      | (refine go_call [] (hc38) rfl rfl rfl rfl ?_; conv => whnf)
      | (refine go_loadB ?_; conv => whnf)
      | (refine go_ret ?_; conv => whnf)
      | refine go_block ?_
      | (refine go_skip ?_; conv => whnf)
      | (refine go_exit ?_; conv => whnf)
      | refine go_true rfl ?_
      | refine go_false rfl ?_
      | refine go_cond rfl (fun h => ?_) (fun h => ?_)
      | refine ⟨rfl, ?_⟩
      | (refine ⟨trivial, ?_⟩; conv => whnf)
      | (refine ⟨le_of_ble rfl, ?_⟩; conv => whnf)
      | fail
    all_goals exact ret_imm3 rfl rfl rfl rfl rfl rfl (by simp [bbB, hm]) (by simp [bbM, hm]) (by simp [hm]) rfl
  | true =>
    rw [hv] at hc38
    obtain ⟨h30, _⟩ := valid_at hv
    cases hli : lim e l with
    | false =>
      have hm : bbOk e l L xs = false := by simp [bbOk, hli]
      rw [hli] at hc45
      repeat' first
        | refine go_seq ?_
        | refine go_region ?_
        | (refine go_op rfl ?_; conv => whnf)
        | (refine go_nil ?_; conv => whnf)
        | (refine go_hit rfl rfl rfl ?_; conv => whnf)
        | (refine go_miss rfl rfl rfl ?_)
        | (refine go_undef rfl rfl rfl ?_)
        | (refine go_splitT rfl rfl rfl (fun h => ?_) (fun h => ?_) <;> conv => whnf)
        | (refine go_splitF rfl rfl rfl (fun h => ?_) (fun h => ?_) <;> conv => whnf)
        | (refine go_storeBox rfl rfl rfl rfl rfl rfl ?_; conv => whnf)
        | (refine go_dop rfl ?_; conv => whnf)
        | (refine go_dhit rfl rfl ?_; conv => whnf)
        | refine go_dmiss rfl rfl ?_
        | refine go_dundef rfl rfl ?_
        | (refine go_dend (by kernel_rfl) ?_; conv => whnf)
        | refine go_draw drawsOk ?_
        | (refine go_pickT rfl ?_; conv => whnf)
        | (refine go_pickF rfl ?_; conv => whnf)
        | (refine go_pick rfl (fun h => ?_) (fun h => ?_) <;> conv => whnf)
        | (refine go_call [] (hc38) rfl rfl rfl rfl ?_; conv => whnf)
        | (refine go_call [] (hc45) rfl rfl rfl rfl ?_; conv => whnf)
        | (refine go_loadB ?_; conv => whnf)
        | (refine go_ret ?_; conv => whnf)
        | refine go_block ?_
        | (refine go_skip ?_; conv => whnf)
        | (refine go_exit ?_; conv => whnf)
        | refine go_true rfl ?_
        | refine go_false rfl ?_
        | refine go_cond rfl (fun h => ?_) (fun h => ?_)
        | refine ⟨rfl, ?_⟩
        | (refine ⟨trivial, ?_⟩; conv => whnf)
        | (refine ⟨le_of_ble rfl, ?_⟩; conv => whnf)
        | fail
      all_goals exact ret_imm3 rfl rfl rfl rfl rfl rfl (by simp [bbB, hm]) (by simp [bbM, hm]) (by simp [hm]) rfl
    | true =>
      rw [hli] at hc45
      cases hr : inR L 0 60 with
      | false =>
        have hm : bbOk e l L xs = false := by simp [bbOk, hr]
        rw [hr] at hc52
        repeat' first
          | refine go_seq ?_
          | refine go_region ?_
          | (refine go_op rfl ?_; conv => whnf)
          | (refine go_nil ?_; conv => whnf)
          | (refine go_hit rfl rfl rfl ?_; conv => whnf)
          | (refine go_miss rfl rfl rfl ?_)
          | (refine go_undef rfl rfl rfl ?_)
          | (refine go_splitT rfl rfl rfl (fun h => ?_) (fun h => ?_) <;> conv => whnf)
          | (refine go_splitF rfl rfl rfl (fun h => ?_) (fun h => ?_) <;> conv => whnf)
          | (refine go_storeBox rfl rfl rfl rfl rfl rfl ?_; conv => whnf)
          | (refine go_dop rfl ?_; conv => whnf)
          | (refine go_dhit rfl rfl ?_; conv => whnf)
          | refine go_dmiss rfl rfl ?_
          | refine go_dundef rfl rfl ?_
          | (refine go_dend (by kernel_rfl) ?_; conv => whnf)
          | refine go_draw drawsOk ?_
          | (refine go_pickT rfl ?_; conv => whnf)
          | (refine go_pickF rfl ?_; conv => whnf)
          | (refine go_pick rfl (fun h => ?_) (fun h => ?_) <;> conv => whnf)
          | (refine go_call [] (hc38) rfl rfl rfl rfl ?_; conv => whnf)
          | (refine go_call [] (hc45) rfl rfl rfl rfl ?_; conv => whnf)
          | (refine go_call [] (hc52) rfl rfl rfl rfl ?_; conv => whnf)
          | (refine go_loadB ?_; conv => whnf)
          | (refine go_ret ?_; conv => whnf)
          | refine go_block ?_
          | (refine go_skip ?_; conv => whnf)
          | (refine go_exit ?_; conv => whnf)
          | refine go_true rfl ?_
          | refine go_false rfl ?_
          | refine go_cond rfl (fun h => ?_) (fun h => ?_)
          | refine ⟨rfl, ?_⟩
          | (refine ⟨trivial, ?_⟩; conv => whnf)
          | (refine ⟨le_of_ble rfl, ?_⟩; conv => whnf)
          | fail
        all_goals exact ret_imm3 rfl rfl rfl rfl rfl rfl (by simp [bbB, hm]) (by simp [bbM, hm]) (by simp [hm]) rfl
      | true =>
        have hm : bbOk e l L xs = true := by simp [bbOk, hv, hli, hr]
        have hLr : 0 ≤ L ∧ L ≤ 60 := by simpa [inR] using hr
        obtain ⟨n, rfl⟩ : ∃ n : Nat, L = n := ⟨L.toNat, by omega⟩
        rw [hr] at hc52
        repeat' first
          | refine go_seq ?_
          | refine go_region ?_
          | (refine go_op rfl ?_; conv => whnf)
          | (refine go_nil ?_; conv => whnf)
          | (refine go_hit rfl rfl rfl ?_; conv => whnf)
          | (refine go_miss rfl rfl rfl ?_)
          | (refine go_undef rfl rfl rfl ?_)
          | (refine go_splitT rfl rfl rfl (fun h => ?_) (fun h => ?_) <;> conv => whnf)
          | (refine go_splitF rfl rfl rfl (fun h => ?_) (fun h => ?_) <;> conv => whnf)
          | (refine go_storeBox rfl rfl rfl rfl rfl rfl ?_; conv => whnf)
          | (refine go_dop rfl ?_; conv => whnf)
          | (refine go_dhit rfl rfl ?_; conv => whnf)
          | refine go_dmiss rfl rfl ?_
          | refine go_dundef rfl rfl ?_
          | (refine go_dend (by kernel_rfl) ?_; conv => whnf)
          | refine go_draw drawsOk ?_
          | (refine go_pickT rfl ?_; conv => whnf)
          | (refine go_pickF rfl ?_; conv => whnf)
          | (refine go_pick rfl (fun h => ?_) (fun h => ?_) <;> conv => whnf)
          | (refine go_call [] (hc38) rfl rfl rfl rfl ?_; conv => whnf)
          | (refine go_call [] (hc45) rfl rfl rfl rfl ?_; conv => whnf)
          | (refine go_call [] (hc52) rfl rfl rfl rfl ?_; conv => whnf)
          | (refine go_loadB ?_; conv => whnf)
          | (refine go_ret ?_; conv => whnf)
          | refine go_block ?_
          | (refine go_skip ?_; conv => whnf)
          | (refine go_exit ?_; conv => whnf)
          | refine go_true rfl ?_
          | refine go_false rfl ?_
          | refine go_cond rfl (fun h => ?_) (fun h => ?_)
          | refine ⟨rfl, ?_⟩
          | (refine ⟨trivial, ?_⟩; conv => whnf)
          | (refine ⟨le_of_ble rfl, ?_⟩; conv => whnf)
          | fail
        refine go_loop (α := Nat) (fun i => i ≤ n + 1) (fun i => n + 1 - i) (fun i => st Try.f30.ntmps [(0, .imm (.list (xs.map Visit.enc))), (1, .imm (.int .i64 e)), (2, .imm (.int .i64 l)), (3, .imm (.int .i64 (n : Nat))), (11, .imm (.int .i64 (bAt e l xs i).b)), (12, .imm (.int .i64 (bAt e l xs i).m)), (13, .imm (.int .i64 (i : Nat)))] [] []) 0 (Nat.zero_le _)
          (ref_st0 rfl ⟨rfl, rfl, rfl, rfl, rfl, rfl, rfl, trivial⟩ rfl) ?_
        intro i hi
        by_cases hin : i ≤ n
        · have hc53 := c53 xs (i : Nat) hl
          have hyl : (xs.map (shiftV (i : Nat))).length ≤ 30 := by simpa using h30
          have hc46 : CallOk Try.prog 46 [.imm (.list ((((xs.map (shiftV (i : Nat))).map Visit.enc).drop 0).take ((xs.map (shiftV (i : Nat))).map Visit.enc).length)), .imm (.int .i64 e), .imm (.int .i64 l)] { res := [.imm (.int .i64 (bN e l xs i))] } := by
            rw [view_all]; exact c46 _ e l hyl
          have hc38' : CallOk Try.prog 38 [.imm (.list ((((xs.map (shiftV (i : Nat))).map Visit.enc).drop 0).take ((xs.map (shiftV (i : Nat))).map Visit.enc).length))] { res := [.imm (.bool (valid (xs.map (shiftV (i : Nat)))))] } := by
            rw [view_all]; exact valid_spec (shift_ok hok _) (by omega)
          cases hv2 : valid (xs.map (shiftV (i : Nat))) with
          | false =>
            rw [hv2] at hc38'
            repeat' first
              | refine go_seq ?_
              | refine go_region ?_
              | (refine go_op rfl ?_; conv => whnf)
              | (refine go_nil ?_; conv => whnf)
              | (refine go_hit rfl rfl rfl ?_; conv => whnf)
              | (refine go_miss rfl rfl rfl ?_)
              | (refine go_undef rfl rfl rfl ?_)
              | (refine go_splitT rfl rfl rfl (fun h => ?_) (fun h => ?_) <;> conv => whnf)
              | (refine go_splitF rfl rfl rfl (fun h => ?_) (fun h => ?_) <;> conv => whnf)
              | (refine go_storeBox rfl rfl rfl rfl rfl rfl ?_; conv => whnf)
              | (refine go_dop rfl ?_; conv => whnf)
              | (refine go_dhit rfl rfl ?_; conv => whnf)
              | refine go_dmiss rfl rfl ?_
              | refine go_dundef rfl rfl ?_
              | (refine go_dend (by kernel_rfl) ?_; conv => whnf)
              | refine go_draw drawsOk ?_
              | (refine go_pickT rfl ?_; conv => whnf)
              | (refine go_pickF rfl ?_; conv => whnf)
              | (refine go_pick rfl (fun h => ?_) (fun h => ?_) <;> conv => whnf)
              | (refine go_call [] (hc53) rfl rfl rfl rfl ?_; conv => whnf)
              | (refine go_call [] (hc46) rfl rfl rfl rfl ?_; conv => whnf)
              | (refine go_call [] (hc38') rfl rfl rfl rfl ?_; conv => whnf)
              | (refine go_loadB ?_; conv => whnf)
              | (refine go_ret ?_; conv => whnf)
              | refine go_block ?_
              | (refine go_skip ?_; conv => whnf)
              | (refine go_exit ?_; conv => whnf)
              | refine go_true rfl ?_
              | refine go_false rfl ?_
              | refine go_cond rfl (fun h => ?_) (fun h => ?_)
              | refine ⟨rfl, ?_⟩
              | (refine ⟨trivial, ?_⟩; conv => whnf)
              | (refine ⟨le_of_ble rfl, ?_⟩; conv => whnf)
              | fail
            · refine go_next (i + 1) (by omega) (by omega) ?_
              rw [b_stay1 hv2]
              exact ref_st0 rfl ⟨rfl, rfl, rfl, rfl, rfl, rfl, next_i (by omega), trivial⟩ rfl
            · exfalso; simp at h; omega
          | true =>
            rw [hv2] at hc38'
            repeat' first
              | refine go_seq ?_
              | refine go_region ?_
              | (refine go_op rfl ?_; conv => whnf)
              | (refine go_nil ?_; conv => whnf)
              | (refine go_hit rfl rfl rfl ?_; conv => whnf)
              | (refine go_miss rfl rfl rfl ?_)
              | (refine go_undef rfl rfl rfl ?_)
              | (refine go_splitT rfl rfl rfl (fun h => ?_) (fun h => ?_) <;> conv => whnf)
              | (refine go_splitF rfl rfl rfl (fun h => ?_) (fun h => ?_) <;> conv => whnf)
              | (refine go_storeBox rfl rfl rfl rfl rfl rfl ?_; conv => whnf)
              | (refine go_dop rfl ?_; conv => whnf)
              | (refine go_dhit rfl rfl ?_; conv => whnf)
              | refine go_dmiss rfl rfl ?_
              | refine go_dundef rfl rfl ?_
              | (refine go_dend (by kernel_rfl) ?_; conv => whnf)
              | refine go_draw drawsOk ?_
              | (refine go_pickT rfl ?_; conv => whnf)
              | (refine go_pickF rfl ?_; conv => whnf)
              | (refine go_pick rfl (fun h => ?_) (fun h => ?_) <;> conv => whnf)
              | (refine go_call [] (hc53) rfl rfl rfl rfl ?_; conv => whnf)
              | (refine go_call [] (hc46) rfl rfl rfl rfl ?_; conv => whnf)
              | (refine go_call [] (hc38') rfl rfl rfl rfl ?_; conv => whnf)
              | (refine go_loadB ?_; conv => whnf)
              | (refine go_ret ?_; conv => whnf)
              | refine go_block ?_
              | (refine go_skip ?_; conv => whnf)
              | (refine go_exit ?_; conv => whnf)
              | refine go_true rfl ?_
              | refine go_false rfl ?_
              | refine go_cond rfl (fun h => ?_) (fun h => ?_)
              | refine ⟨rfl, ?_⟩
              | (refine ⟨trivial, ?_⟩; conv => whnf)
              | (refine ⟨le_of_ble rfl, ?_⟩; conv => whnf)
              | fail
            · refine go_next (i + 1) (by omega) (by omega) ?_
              rw [b_take hv2 (by simpa using h)]
              exact ref_st0 rfl ⟨rfl, rfl, rfl, rfl, rfl, rfl, next_i (by omega), trivial⟩ rfl
            · refine go_next (i + 1) (by omega) (by omega) ?_
              rw [b_stay2 (by simpa using h)]
              exact ref_st0 rfl ⟨rfl, rfl, rfl, rfl, rfl, rfl, next_i (by omega), trivial⟩ rfl
            · exfalso; simp at h; omega
        · have hie : i = n + 1 := by omega
          subst hie
          repeat' first
            | refine go_seq ?_
            | refine go_region ?_
            | (refine go_op rfl ?_; conv => whnf)
            | (refine go_nil ?_; conv => whnf)
            | (refine go_hit rfl rfl rfl ?_; conv => whnf)
            | (refine go_miss rfl rfl rfl ?_)
            | (refine go_undef rfl rfl rfl ?_)
            | (refine go_splitT rfl rfl rfl (fun h => ?_) (fun h => ?_) <;> conv => whnf)
            | (refine go_splitF rfl rfl rfl (fun h => ?_) (fun h => ?_) <;> conv => whnf)
            | (refine go_storeBox rfl rfl rfl rfl rfl rfl ?_; conv => whnf)
            | (refine go_dop rfl ?_; conv => whnf)
            | (refine go_dhit rfl rfl ?_; conv => whnf)
            | refine go_dmiss rfl rfl ?_
            | refine go_dundef rfl rfl ?_
            | (refine go_dend (by kernel_rfl) ?_; conv => whnf)
            | refine go_draw drawsOk ?_
            | (refine go_pickT rfl ?_; conv => whnf)
            | (refine go_pickF rfl ?_; conv => whnf)
            | (refine go_pick rfl (fun h => ?_) (fun h => ?_) <;> conv => whnf)
            | (refine go_loadB ?_; conv => whnf)
            | (refine go_ret ?_; conv => whnf)
            | refine go_block ?_
            | (refine go_skip ?_; conv => whnf)
            | (refine go_exit ?_; conv => whnf)
            | refine go_true rfl ?_
            | refine go_false rfl ?_
            | refine go_cond rfl (fun h => ?_) (fun h => ?_)
            | refine ⟨rfl, ?_⟩
            | (refine ⟨trivial, ?_⟩; conv => whnf)
            | (refine ⟨le_of_ble rfl, ?_⟩; conv => whnf)
            | fail
          · exfalso; simp at h; omega
          · exact ret_imm3 rfl rfl rfl rfl rfl rfl (by simp [bbB, hm]) (by simp [bbM, hm]) (by simp [hm]) rfl

theorem c31 (xs : List Visit) (e l L : Int) (hl : xs.length ≤ 1048576) : CallOk Try.prog 31 [.imm (.list (xs.map Visit.enc)), .imm (.int .i64 e), .imm (.int .i64 l), .imm (.int .i64 L)]
    { res := [.imm (.int .i64 (bbB e l L xs)), .imm (.int .i64 (bbM e l L xs)), .imm (.bool (bbOk e l L xs))] } := by
  refine callOk_of tyOk Try.func31 rfl rfl (le_of_ble rfl) (le_of_ble rfl) (mutOk_imm rfl _) ?_
  have hc47 := c47 xs e l hl
  have hc40 := c40 L 0 60
  cases hva : (valid xs && lim e l) with
  | false =>
    have hm : bbOk e l L xs = false := by simp [bbOk, hva]
    rw [hva] at hc47
    repeat' first
      | refine go_seq ?_
      | refine go_region ?_
      | (refine go_op rfl ?_; conv => whnf)
      | (refine go_nil ?_; conv => whnf)
      | (refine go_hit rfl rfl rfl ?_; conv => whnf)
      | (refine go_miss rfl rfl rfl ?_)
      | (refine go_undef rfl rfl rfl ?_)
      | (refine go_splitT rfl rfl rfl (fun h => ?_) (fun h => ?_) <;> conv => whnf)
      | (refine go_splitF rfl rfl rfl (fun h => ?_) (fun h => ?_) <;> conv => whnf)
      | (refine go_storeBox rfl rfl rfl rfl rfl rfl ?_; conv => whnf)
      | (refine go_dop rfl ?_; conv => whnf)
      | (refine go_dhit rfl rfl ?_; conv => whnf)
      | refine go_dmiss rfl rfl ?_
      | refine go_dundef rfl rfl ?_
      | (refine go_dend (by kernel_rfl) ?_; conv => whnf)
      | refine go_draw drawsOk ?_
      | (refine go_pickT rfl ?_; conv => whnf)
      | (refine go_pickF rfl ?_; conv => whnf)
      | (refine go_pick rfl (fun h => ?_) (fun h => ?_) <;> conv => whnf)
      | (refine go_call [] (hc47) rfl rfl rfl rfl ?_; conv => whnf)
      | (refine go_loadB ?_; conv => whnf)
      | (refine go_ret ?_; conv => whnf)
      | refine go_block ?_
      | (refine go_skip ?_; conv => whnf)
      | (refine go_exit ?_; conv => whnf)
      | refine go_true rfl ?_
      | refine go_false rfl ?_
      | refine go_cond rfl (fun h => ?_) (fun h => ?_)
      | refine ⟨rfl, ?_⟩
      | (refine ⟨trivial, ?_⟩; conv => whnf)
      | (refine ⟨le_of_ble rfl, ?_⟩; conv => whnf)
      | fail
    all_goals exact ret_imm3 rfl rfl rfl rfl rfl rfl (by simp [bbB, hm]) (by simp [bbM, hm]) (by simp [hm]) rfl
  | true =>
    rw [hva] at hc47
    have hva' := hva
    simp only [Bool.and_eq_true] at hva'
    obtain ⟨h30, _⟩ := valid_at hva'.1
    cases hr : inR L 0 60 with
    | false =>
      have hm : bbOk e l L xs = false := by simp [bbOk, hr]
      rw [hr] at hc40
      repeat' first
        | refine go_seq ?_
        | refine go_region ?_
        | (refine go_op rfl ?_; conv => whnf)
        | (refine go_nil ?_; conv => whnf)
        | (refine go_hit rfl rfl rfl ?_; conv => whnf)
        | (refine go_miss rfl rfl rfl ?_)
        | (refine go_undef rfl rfl rfl ?_)
        | (refine go_splitT rfl rfl rfl (fun h => ?_) (fun h => ?_) <;> conv => whnf)
        | (refine go_splitF rfl rfl rfl (fun h => ?_) (fun h => ?_) <;> conv => whnf)
        | (refine go_storeBox rfl rfl rfl rfl rfl rfl ?_; conv => whnf)
        | (refine go_dop rfl ?_; conv => whnf)
        | (refine go_dhit rfl rfl ?_; conv => whnf)
        | refine go_dmiss rfl rfl ?_
        | refine go_dundef rfl rfl ?_
        | (refine go_dend (by kernel_rfl) ?_; conv => whnf)
        | refine go_draw drawsOk ?_
        | (refine go_pickT rfl ?_; conv => whnf)
        | (refine go_pickF rfl ?_; conv => whnf)
        | (refine go_pick rfl (fun h => ?_) (fun h => ?_) <;> conv => whnf)
        | (refine go_call [] (hc47) rfl rfl rfl rfl ?_; conv => whnf)
        | (refine go_call [] (hc40) rfl rfl rfl rfl ?_; conv => whnf)
        | (refine go_loadB ?_; conv => whnf)
        | (refine go_ret ?_; conv => whnf)
        | refine go_block ?_
        | (refine go_skip ?_; conv => whnf)
        | (refine go_exit ?_; conv => whnf)
        | refine go_true rfl ?_
        | refine go_false rfl ?_
        | refine go_cond rfl (fun h => ?_) (fun h => ?_)
        | refine ⟨rfl, ?_⟩
        | (refine ⟨trivial, ?_⟩; conv => whnf)
        | (refine ⟨le_of_ble rfl, ?_⟩; conv => whnf)
        | fail
      all_goals exact ret_imm3 rfl rfl rfl rfl rfl rfl (by simp [bbB, hm]) (by simp [bbM, hm]) (by simp [hm]) rfl
    | true =>
      have hm : bbOk e l L xs = true := by simp [bbOk, hva, hr]
      have hLr : 0 ≤ L ∧ L ≤ 60 := by simpa [inR] using hr
      obtain ⟨n, rfl⟩ : ∃ n : Nat, L = n := ⟨L.toNat, by omega⟩
      rw [hr] at hc40
      have hw : IntKind.i64.wrap ((n : Int) + 1) = (n : Int) + 1 := wrap_small (by omega) (by omega)
      repeat' first
        | refine go_seq ?_
        | refine go_region ?_
        | (refine go_op rfl ?_; conv => whnf)
        | (refine go_nil ?_; conv => whnf)
        | (refine go_hit rfl rfl rfl ?_; conv => whnf)
        | (refine go_miss rfl rfl rfl ?_)
        | (refine go_undef rfl rfl rfl ?_)
        | (refine go_splitT rfl rfl rfl (fun h => ?_) (fun h => ?_) <;> conv => whnf)
        | (refine go_splitF rfl rfl rfl (fun h => ?_) (fun h => ?_) <;> conv => whnf)
        | (refine go_storeBox rfl rfl rfl rfl rfl rfl ?_; conv => whnf)
        | (refine go_dop rfl ?_; conv => whnf)
        | (refine go_dhit rfl rfl ?_; conv => whnf)
        | refine go_dmiss rfl rfl ?_
        | refine go_dundef rfl rfl ?_
        | (refine go_dend (by kernel_rfl) ?_; conv => whnf)
        | refine go_draw drawsOk ?_
        | (refine go_pickT rfl ?_; conv => whnf)
        | (refine go_pickF rfl ?_; conv => whnf)
        | (refine go_pick rfl (fun h => ?_) (fun h => ?_) <;> conv => whnf)
        | (refine go_call [] (hc47) rfl rfl rfl rfl ?_; conv => whnf)
        | (refine go_call [] (hc40) rfl rfl rfl rfl ?_; conv => whnf)
        | (refine go_loadB ?_; conv => whnf)
        | (refine go_ret ?_; conv => whnf)
        | refine go_block ?_
        | (refine go_skip ?_; conv => whnf)
        | (refine go_exit ?_; conv => whnf)
        | refine go_true rfl ?_
        | refine go_false rfl ?_
        | refine go_cond rfl (fun h => ?_) (fun h => ?_)
        | refine ⟨rfl, ?_⟩
        | (refine ⟨trivial, ?_⟩; conv => whnf)
        | (refine ⟨le_of_ble rfl, ?_⟩; conv => whnf)
        | fail
      refine go_loop (α := Nat) (fun i => i ≤ n + 1) (fun i => n + 1 - i) (fun i => st Try.f31.ntmps [(0, .imm (.list (xs.map Visit.enc))), (1, .imm (.int .i64 e)), (2, .imm (.int .i64 l)), (29, .imm (.int .i64 (IntKind.i64.wrap ((n : Int) + 1)))), (11, .imm (.int .i64 (bAt e l xs i).b)), (12, .imm (.int .i64 (bAt e l xs i).m)), (30, .imm (.int .i64 (i : Nat)))] [] []) 0 (Nat.zero_le _)
        (ref_st0 rfl ⟨rfl, rfl, rfl, rfl, rfl, rfl, rfl, trivial⟩ rfl) ?_
      intro i hi
      by_cases hin : i ≤ n
      · have hc54 := c54 xs (i : Nat) hl
        have hyl : (xs.map (shiftV (i : Nat))).length ≤ 30 := by simpa using h30
        have hc48 : CallOk Try.prog 48 [.imm (.list ((((xs.map (shiftV (i : Nat))).map Visit.enc).drop 0).take ((xs.map (shiftV (i : Nat))).map Visit.enc).length)), .imm (.int .i64 e), .imm (.int .i64 l), .imm (.fn 49 [])] { res := [.imm (.int .i64 (bN e l xs i)), .imm (.int .i64 (wSum one' (xs.map (shiftV (i : Nat)))))] } := by
          rw [view_all]; exact c48 49 one' c49 _ e l hyl (fun v _ => by simp [one'])
        have hc57 := c57 (bN e l xs i) (bAt e l xs i).m
        cases hv2 : valid (xs.map (shiftV (i : Nat))) with
        | false =>
          rw [hv2] at hc54
          repeat' first
            | refine go_seq ?_
            | refine go_region ?_
            | (refine go_op rfl ?_; conv => whnf)
            | (refine go_nil ?_; conv => whnf)
            | (refine go_hit rfl rfl rfl ?_; conv => whnf)
            | (refine go_miss rfl rfl rfl ?_)
            | (refine go_undef rfl rfl rfl ?_)
            | (refine go_splitT rfl rfl rfl (fun h => ?_) (fun h => ?_) <;> conv => whnf)
            | (refine go_splitF rfl rfl rfl (fun h => ?_) (fun h => ?_) <;> conv => whnf)
            | (refine go_storeBox rfl rfl rfl rfl rfl rfl ?_; conv => whnf)
            | (refine go_dop rfl ?_; conv => whnf)
            | (refine go_dhit rfl rfl ?_; conv => whnf)
            | refine go_dmiss rfl rfl ?_
            | refine go_dundef rfl rfl ?_
            | (refine go_dend (by kernel_rfl) ?_; conv => whnf)
            | refine go_draw drawsOk ?_
            | (refine go_pickT rfl ?_; conv => whnf)
            | (refine go_pickF rfl ?_; conv => whnf)
            | (refine go_pick rfl (fun h => ?_) (fun h => ?_) <;> conv => whnf)
            | (refine go_call [] (hc54) rfl rfl rfl rfl ?_; conv => whnf)
            | (refine go_call [] (hc48) rfl rfl rfl rfl ?_; conv => whnf)
            | (refine go_call [] (hc57) rfl rfl rfl rfl ?_; conv => whnf)
            | (refine go_loadB ?_; conv => whnf)
            | (refine go_ret ?_; conv => whnf)
            | refine go_block ?_
            | (refine go_skip ?_; conv => whnf)
            | (refine go_exit ?_; conv => whnf)
            | refine go_true rfl ?_
            | refine go_false rfl ?_
            | refine go_cond rfl (fun h => ?_) (fun h => ?_)
            | refine ⟨rfl, ?_⟩
            | (refine ⟨trivial, ?_⟩; conv => whnf)
            | (refine ⟨le_of_ble rfl, ?_⟩; conv => whnf)
            | fail
          · refine go_next (i + 1) (by omega) (by omega) ?_
            rw [b_stay1 hv2]
            exact ref_st0 rfl ⟨rfl, rfl, rfl, rfl, rfl, rfl, next_i (by omega), trivial⟩ rfl
          · exfalso; rw [hw] at h; simp at h; omega
        | true =>
          rw [hv2] at hc54
          repeat' first
            | refine go_seq ?_
            | refine go_region ?_
            | (refine go_op rfl ?_; conv => whnf)
            | (refine go_nil ?_; conv => whnf)
            | (refine go_hit rfl rfl rfl ?_; conv => whnf)
            | (refine go_miss rfl rfl rfl ?_)
            | (refine go_undef rfl rfl rfl ?_)
            | (refine go_splitT rfl rfl rfl (fun h => ?_) (fun h => ?_) <;> conv => whnf)
            | (refine go_splitF rfl rfl rfl (fun h => ?_) (fun h => ?_) <;> conv => whnf)
            | (refine go_storeBox rfl rfl rfl rfl rfl rfl ?_; conv => whnf)
            | (refine go_dop rfl ?_; conv => whnf)
            | (refine go_dhit rfl rfl ?_; conv => whnf)
            | refine go_dmiss rfl rfl ?_
            | refine go_dundef rfl rfl ?_
            | (refine go_dend (by kernel_rfl) ?_; conv => whnf)
            | refine go_draw drawsOk ?_
            | (refine go_pickT rfl ?_; conv => whnf)
            | (refine go_pickF rfl ?_; conv => whnf)
            | (refine go_pick rfl (fun h => ?_) (fun h => ?_) <;> conv => whnf)
            | (refine go_call [] (hc54) rfl rfl rfl rfl ?_; conv => whnf)
            | (refine go_call [] (hc48) rfl rfl rfl rfl ?_; conv => whnf)
            | (refine go_call [] (hc57) rfl rfl rfl rfl ?_; conv => whnf)
            | (refine go_loadB ?_; conv => whnf)
            | (refine go_ret ?_; conv => whnf)
            | refine go_block ?_
            | (refine go_skip ?_; conv => whnf)
            | (refine go_exit ?_; conv => whnf)
            | refine go_true rfl ?_
            | refine go_false rfl ?_
            | refine go_cond rfl (fun h => ?_) (fun h => ?_)
            | refine ⟨rfl, ?_⟩
            | (refine ⟨trivial, ?_⟩; conv => whnf)
            | (refine ⟨le_of_ble rfl, ?_⟩; conv => whnf)
            | fail
          · refine go_next (i + 1) (by omega) (by omega) ?_
            rw [cmp_gt] at h
            rw [b_take hv2 (by simpa using h)]
            exact ref_st0 rfl ⟨rfl, rfl, rfl, rfl, rfl, rfl, next_i (by omega), trivial⟩ rfl
          · refine go_next (i + 1) (by omega) (by omega) ?_
            rw [cmp_gt] at h
            rw [b_stay2 (by simpa using h)]
            exact ref_st0 rfl ⟨rfl, rfl, rfl, rfl, rfl, rfl, next_i (by omega), trivial⟩ rfl
          · exfalso; rw [hw] at h; simp at h; omega
      · have hie : i = n + 1 := by omega
        subst hie
        repeat' first
          | refine go_seq ?_
          | refine go_region ?_
          | (refine go_op rfl ?_; conv => whnf)
          | (refine go_nil ?_; conv => whnf)
          | (refine go_hit rfl rfl rfl ?_; conv => whnf)
          | (refine go_miss rfl rfl rfl ?_)
          | (refine go_undef rfl rfl rfl ?_)
          | (refine go_splitT rfl rfl rfl (fun h => ?_) (fun h => ?_) <;> conv => whnf)
          | (refine go_splitF rfl rfl rfl (fun h => ?_) (fun h => ?_) <;> conv => whnf)
          | (refine go_storeBox rfl rfl rfl rfl rfl rfl ?_; conv => whnf)
          | (refine go_dop rfl ?_; conv => whnf)
          | (refine go_dhit rfl rfl ?_; conv => whnf)
          | refine go_dmiss rfl rfl ?_
          | refine go_dundef rfl rfl ?_
          | (refine go_dend (by kernel_rfl) ?_; conv => whnf)
          | refine go_draw drawsOk ?_
          | (refine go_pickT rfl ?_; conv => whnf)
          | (refine go_pickF rfl ?_; conv => whnf)
          | (refine go_pick rfl (fun h => ?_) (fun h => ?_) <;> conv => whnf)
          | (refine go_loadB ?_; conv => whnf)
          | (refine go_ret ?_; conv => whnf)
          | refine go_block ?_
          | (refine go_skip ?_; conv => whnf)
          | (refine go_exit ?_; conv => whnf)
          | refine go_true rfl ?_
          | refine go_false rfl ?_
          | refine go_cond rfl (fun h => ?_) (fun h => ?_)
          | refine ⟨rfl, ?_⟩
          | (refine ⟨trivial, ?_⟩; conv => whnf)
          | (refine ⟨le_of_ble rfl, ?_⟩; conv => whnf)
          | fail
        · exfalso; rw [hw] at h; simp at h
        · exact ret_imm3 rfl rfl rfl rfl rfl rfl (by simp [bbB, hm]) (by simp [bbM, hm]) (by simp [hm]) rfl

theorem c9 (xs : List Visit) (hok : ∀ v ∈ xs, v.ok) (hl : xs.length ≤ 9223372036854775807) (e : Int) (_ : i64 e) (l : Int) (_ : i64 l) (L : Int) (_ : i64 L) : CallOk Try.prog 9 [.imm (.list (xs.map Visit.enc)), .imm (.int .i64 e), .imm (.int .i64 l), .imm (.int .i64 L)] { res := [.imm (.bool true)] } := by
  refine callOk_of tyOk Try.func9 rfl rfl (le_of_ble rfl) (le_of_ble rfl) (mutOk_imm rfl _) ?_
  have hw : IntKind.i64.wrap (1048576 - (xs.length : Int)) = 1048576 - xs.length := by rw [IntKind.wrap_i64]; omega
  by_cases hs : xs.length ≤ 1048576
  · have h1 : True := trivial
    repeat' first
      | refine go_seq ?_
      | refine go_region ?_
      | (refine go_op rfl ?_; conv => whnf)
      | (refine go_nil ?_; conv => whnf)
      | (refine go_hit rfl rfl rfl ?_; conv => whnf)
      | (refine go_miss rfl rfl rfl ?_)
      | (refine go_undef rfl rfl rfl ?_)
      | (refine go_splitT rfl rfl rfl (fun h => ?_) (fun h => ?_) <;> conv => whnf)
      | (refine go_splitF rfl rfl rfl (fun h => ?_) (fun h => ?_) <;> conv => whnf)
      | (refine go_storeBox rfl rfl rfl rfl rfl rfl ?_; conv => whnf)
      | (refine go_dop rfl ?_; conv => whnf)
      | (refine go_dhit rfl rfl ?_; conv => whnf)
      | refine go_dmiss rfl rfl ?_
      | refine go_dundef rfl rfl ?_
      | (refine go_dend (by kernel_rfl) ?_; conv => whnf)
      | refine go_draw drawsOk ?_
      | (refine go_pickT rfl ?_; conv => whnf)
      | (refine go_pickF rfl ?_; conv => whnf)
      | (refine go_pick rfl (fun h => ?_) (fun h => ?_) <;> conv => whnf)
      | (refine go_call [] (c13 xs _) rfl rfl rfl rfl ?_; conv => whnf)
      | (refine go_call [] (c15 xs hs) rfl rfl rfl rfl ?_; conv => whnf)
      | (refine go_call [] (c30 xs e l L hok hs) rfl rfl rfl rfl ?_; conv => whnf)
      | (refine go_call [] (c31 xs e l L hs) rfl rfl rfl rfl ?_; conv => whnf)
      | (refine go_call [] (c17 xs xs hs) rfl rfl rfl rfl ?_; conv => whnf)
      | (refine go_loadB ?_; conv => whnf)
      | (refine go_ret ?_; conv => whnf)
      | refine go_block ?_
      | (refine go_skip ?_; conv => whnf)
      | (refine go_exit ?_; conv => whnf)
      | refine go_true rfl ?_
      | refine go_false rfl ?_
      | refine go_cond rfl (fun h => ?_) (fun h => ?_)
      | refine ⟨rfl, ?_⟩
      | (refine ⟨trivial, ?_⟩; conv => whnf)
      | (refine ⟨le_of_ble rfl, ?_⟩; conv => whnf)
      | fail
    all_goals first | exact ret_imm rfl rfl rfl rfl rfl rfl | (exfalso; simp at h; done) | (exfalso; rw [zip_self beq_self] at h; simp at h; done)
  · have h1 : True := trivial
    repeat' first
      | refine go_seq ?_
      | refine go_region ?_
      | (refine go_op rfl ?_; conv => whnf)
      | (refine go_nil ?_; conv => whnf)
      | (refine go_hit rfl rfl rfl ?_; conv => whnf)
      | (refine go_miss rfl rfl rfl ?_)
      | (refine go_undef rfl rfl rfl ?_)
      | (refine go_splitT rfl rfl rfl (fun h => ?_) (fun h => ?_) <;> conv => whnf)
      | (refine go_splitF rfl rfl rfl (fun h => ?_) (fun h => ?_) <;> conv => whnf)
      | (refine go_storeBox rfl rfl rfl rfl rfl rfl ?_; conv => whnf)
      | (refine go_dop rfl ?_; conv => whnf)
      | (refine go_dhit rfl rfl ?_; conv => whnf)
      | refine go_dmiss rfl rfl ?_
      | refine go_dundef rfl rfl ?_
      | (refine go_dend (by kernel_rfl) ?_; conv => whnf)
      | refine go_draw drawsOk ?_
      | (refine go_pickT rfl ?_; conv => whnf)
      | (refine go_pickF rfl ?_; conv => whnf)
      | (refine go_pick rfl (fun h => ?_) (fun h => ?_) <;> conv => whnf)
      | (refine go_call [] (c13 xs _) rfl rfl rfl rfl ?_; conv => whnf)
      | (refine go_loadB ?_; conv => whnf)
      | (refine go_ret ?_; conv => whnf)
      | refine go_block ?_
      | (refine go_skip ?_; conv => whnf)
      | (refine go_exit ?_; conv => whnf)
      | refine go_true rfl ?_
      | refine go_false rfl ?_
      | refine go_cond rfl (fun h => ?_) (fun h => ?_)
      | refine ⟨rfl, ?_⟩
      | (refine ⟨trivial, ?_⟩; conv => whnf)
      | (refine ⟨le_of_ble rfl, ?_⟩; conv => whnf)
      | fail
    · exact ret_imm rfl rfl rfl rfl rfl rfl
    · exfalso
      rw [hw] at h
      rw [if_pos (by omega)] at h
      simp at h
end Go.Proofs.Ytnjojepeilgikaa

