/- The walks of the mean delay. -/
import Derived.Test.YtnjojepeilgikaaV2
namespace Go.Proofs.Ytnjojepeilgikaa
open Go Go.Am
set_option maxRecDepth 100000
set_option maxHeartbeats 4000000
attribute [local irreducible] amOps amC opCall opIndexAddr opPick retQ opMake opStore amDraw

def gcdI (s n : Int) : Int := (Nat.gcd s.natAbs n.natAbs : Nat)

theorem c65 (a b : Int) : CallOk Try.prog 65 [.imm (.int .i64 a), .imm (.int .i64 b)] { res := [.imm (.int .i64 (if b < a then a else b))] } := by
  refine callOk_of tyOk Try.func65 rfl rfl (le_of_ble rfl) (le_of_ble rfl) (mutOk_imm rfl _) ?_
  repeat' first
    | refine go_seq ?_
    | refine go_region ?_
    | (refine go_op rfl ?_; conv => whnf)
    | (refine go_nil ?_; conv => whnf)
    | (refine go_hit rfl rfl rfl ?_; conv => whnf)
    | (refine go_miss rfl rfl rfl ?_)
    | (refine go_undef rfl rfl rfl ?_)
    | (refine go_splitT rfl rfl rfl (fun h => ?_) (fun h => ?_) <;> conv => whnf)
    | (refine go_splitF rfl rfl rfl (fun h => ?_) (fun h => ?_) <;> conv => whnf)
    | (refine go_storeBox rfl rfl rfl rfl rfl rfl ?_; conv => whnf)
    | (refine go_dop rfl ?_; conv => whnf)
    | (refine go_dhit rfl rfl ?_; conv => whnf)
    | (refine go_dmiss rfl rfl ?_; conv => whnf)
    | (refine go_dundef rfl rfl ?_; conv => whnf)
    | (refine go_dend (by kernel_rfl) ?_; conv => whnf)
    | refine go_draw drawsOk ?_
    | (refine go_pickT rfl ?_; conv => whnf)
    | (refine go_pickF rfl ?_; conv => whnf)
    | (refine go_pick rfl (fun h => ?_) (fun h => ?_) <;> conv => whnf)
    | (refine go_dsplit2 rfl (fun h => ?_) (fun h => ?_) <;> conv => whnf)
    | (refine go_loadB ?_; conv => whnf)
    | (refine ⟨by kernel_rfl, ?_⟩; conv => whnf)
    | (refine go_ret ?_; conv => whnf)
    | refine go_block ?_
    | (refine go_skip ?_; conv => whnf)
    | (refine go_exit ?_; conv => whnf)
    | refine go_true rfl ?_
    | refine go_false rfl ?_
    | refine go_cond rfl (fun h => ?_) (fun h => ?_)
    | refine ⟨rfl, ?_⟩
    | (refine ⟨trivial, ?_⟩; conv => whnf)
    | (refine ⟨le_of_ble rfl, ?_⟩; conv => whnf)
    | fail
  all_goals refine ret_imm rfl rfl rfl rfl ?_ rfl
  all_goals first | (simp_all; done) | (simp_all; omega)

theorem wrap_small {n : Int} (h1 : -9223372036854775808 ≤ n) (h2 : n ≤ 9223372036854775807) : IntKind.i64.wrap n = n := by rw [IntKind.wrap_i64]; omega

theorem natAbs_max (s : Int) (h1 : -9223372036854775807 ≤ s) (h2 : s ≤ 9223372036854775807) : (if IntKind.i64.wrap (0 - s) < s then s else IntKind.i64.wrap (0 - s)) = (s.natAbs : Int) := by
  rw [wrap_small (by omega) (by omega)]
  split <;> omega

theorem c43 (s n : Int) (hs1 : -9223372036854775807 ≤ s) (hs2 : s ≤ 9223372036854775807) (hn1 : 0 < n) (hn2 : n ≤ 9223372036854775807) :
    CallOk Try.prog 43 [.imm (.int .i64 s), .imm (.int .i64 n)] { res := [.imm (.int .i64 (IntKind.i64.wrap (s.tdiv (gcdI s n)))), .imm (.int .i64 (IntKind.i64.wrap (n.tdiv (gcdI s n))))] } := by
  refine callOk_of tyOk Try.func43 rfl rfl (le_of_ble rfl) (le_of_ble rfl) (mutOk_imm rfl _) ?_
  repeat' first
    | refine go_seq ?_
    | refine go_region ?_
    | (refine go_op rfl ?_; conv => whnf)
    | (refine go_nil ?_; conv => whnf)
    | (refine go_hit rfl rfl rfl ?_; conv => whnf)
    | (refine go_miss rfl rfl rfl ?_)
    | (refine go_undef rfl rfl rfl ?_)
    | (refine go_splitT rfl rfl rfl (fun h => ?_) (fun h => ?_) <;> conv => whnf)
    | (refine go_splitF rfl rfl rfl (fun h => ?_) (fun h => ?_) <;> conv => whnf)
    | (refine go_storeBox rfl rfl rfl rfl rfl rfl ?_; conv => whnf)
    | (refine go_dop rfl ?_; conv => whnf)
    | (refine go_dhit rfl rfl ?_; conv => whnf)
    | (refine go_dmiss rfl rfl ?_; conv => whnf)
    | (refine go_dundef rfl rfl ?_; conv => whnf)
    | (refine go_dend (by kernel_rfl) ?_; conv => whnf)
    | refine go_draw drawsOk ?_
    | (refine go_pickT rfl ?_; conv => whnf)
    | (refine go_pickF rfl ?_; conv => whnf)
    | (refine go_pick rfl (fun h => ?_) (fun h => ?_) <;> conv => whnf)
    | (refine go_call [] (c65 _ _) rfl rfl rfl rfl ?_; conv => whnf)
    | (refine go_dsplit2 rfl (fun h => ?_) (fun h => ?_) <;> conv => whnf)
    | (refine go_loadB ?_; conv => whnf)
    | (refine ⟨by kernel_rfl, ?_⟩; conv => whnf)
    | (refine go_ret ?_; conv => whnf)
    | refine go_block ?_
    | (refine go_skip ?_; conv => whnf)
    | (refine go_exit ?_; conv => whnf)
    | refine go_true rfl ?_
    | refine go_false rfl ?_
    | refine go_cond rfl (fun h => ?_) (fun h => ?_)
    | refine ⟨rfl, ?_⟩
    | (refine ⟨trivial, ?_⟩; conv => whnf)
    | (refine ⟨le_of_ble rfl, ?_⟩; conv => whnf)
    | fail
  refine go_loop (α := Nat × Nat) (fun x => Nat.gcd x.1 x.2 = Nat.gcd s.natAbs n.natAbs) (fun x => x.2) (fun x => st 27 [(0, .imm (.int .i64 s)), (1, .imm (.int .i64 n)), (6, .imm (.int .i64 (x.1 : Nat))), (7, .imm (.int .i64 (x.2 : Nat)))] [] []) (s.natAbs, n.natAbs)
    rfl (ref_st0 rfl ⟨rfl, rfl, ?_, ?_, trivial⟩ rfl) ?_
  · show AV.imm (.int .i64 _) = AV.imm (.int .i64 _)
    rw [natAbs_max s hs1 hs2]
  · show AV.imm (.int .i64 _) = AV.imm (.int .i64 _)
    congr 2; omega
  · rintro ⟨x, y⟩ hg
    simp only at hg
    have hg0 : Nat.gcd s.natAbs n.natAbs ≠ 0 := fun e => by have := Nat.eq_zero_of_gcd_eq_zero_right e; omega
    by_cases hy : y = 0
    · subst hy
      rw [Nat.gcd_zero_right] at hg
      subst hg
      have hx0 : (((Nat.gcd s.natAbs n.natAbs, 0) : Nat × Nat).fst : Int) ≠ 0 := by simpa using hg0
      repeat' first
        | refine go_seq ?_
        | refine go_region ?_
        | (refine go_op rfl ?_; conv => whnf)
        | (refine go_nil ?_; conv => whnf)
        | (refine go_hit rfl rfl rfl ?_; conv => whnf)
        | (refine go_miss rfl rfl rfl ?_)
        | (refine go_undef rfl rfl rfl ?_)
        | (refine go_splitT rfl rfl rfl (fun h => ?_) (fun h => ?_) <;> conv => whnf)
        | (refine go_splitF rfl rfl rfl (fun h => ?_) (fun h => ?_) <;> conv => whnf)
        | (refine go_storeBox rfl rfl rfl rfl rfl rfl ?_; conv => whnf)
        | (refine go_dop rfl ?_; conv => whnf)
        | (refine go_dhit rfl rfl ?_; conv => whnf)
        | (refine go_dmiss rfl rfl ?_; conv => whnf)
        | (refine go_dundef rfl rfl ?_; conv => whnf)
        | (refine go_dend (by kernel_rfl) ?_; conv => whnf)
        | refine go_draw drawsOk ?_
        | (refine go_pickT rfl ?_; conv => whnf)
        | (refine go_pickF rfl ?_; conv => whnf)
        | (refine go_pick rfl (fun h => ?_) (fun h => ?_) <;> conv => whnf)
        | (refine ⟨hx0, ?_⟩; conv => whnf)
        | (refine go_dsplit2 rfl (fun h => ?_) (fun h => ?_) <;> conv => whnf)
        | (refine go_loadB ?_; conv => whnf)
        | (refine ⟨by kernel_rfl, ?_⟩; conv => whnf)
        | (refine go_ret ?_; conv => whnf)
        | refine go_block ?_
        | (refine go_skip ?_; conv => whnf)
        | (refine go_exit ?_; conv => whnf)
        | refine go_true rfl ?_
        | refine go_false rfl ?_
        | refine go_cond rfl (fun h => ?_) (fun h => ?_)
        | refine ⟨rfl, ?_⟩
        | (refine ⟨trivial, ?_⟩; conv => whnf)
        | (refine ⟨le_of_ble rfl, ?_⟩; conv => whnf)
        | fail
      exact ret_imm2 rfl rfl rfl rfl rfl rfl rfl rfl
    · have hy0 : (((x, y) : Nat × Nat).snd : Int) ≠ 0 := by simpa using hy
      repeat' first
        | refine go_seq ?_
        | refine go_region ?_
        | (refine go_op rfl ?_; conv => whnf)
        | (refine go_nil ?_; conv => whnf)
        | (refine go_hit rfl rfl rfl ?_; conv => whnf)
        | (refine go_miss rfl rfl rfl ?_)
        | (refine go_undef rfl rfl rfl ?_)
        | (refine go_splitT rfl rfl rfl (fun h => ?_) (fun h => ?_) <;> conv => whnf)
        | (refine go_splitF rfl rfl rfl (fun h => ?_) (fun h => ?_) <;> conv => whnf)
        | (refine go_storeBox rfl rfl rfl rfl rfl rfl ?_; conv => whnf)
        | (refine go_dop rfl ?_; conv => whnf)
        | (refine go_dhit rfl rfl ?_; conv => whnf)
        | (refine go_dmiss rfl rfl ?_; conv => whnf)
        | (refine go_dundef rfl rfl ?_; conv => whnf)
        | (refine go_dend (by kernel_rfl) ?_; conv => whnf)
        | refine go_draw drawsOk ?_
        | (refine go_pickT rfl ?_; conv => whnf)
        | (refine go_pickF rfl ?_; conv => whnf)
        | (refine go_pick rfl (fun h => ?_) (fun h => ?_) <;> conv => whnf)
        | (refine ⟨hy0, ?_⟩; conv => whnf)
        | (refine go_dsplit2 rfl (fun h => ?_) (fun h => ?_) <;> conv => whnf)
        | (refine go_loadB ?_; conv => whnf)
        | (refine ⟨by kernel_rfl, ?_⟩; conv => whnf)
        | (refine go_ret ?_; conv => whnf)
        | refine go_block ?_
        | (refine go_skip ?_; conv => whnf)
        | (refine go_exit ?_; conv => whnf)
        | refine go_true rfl ?_
        | refine go_false rfl ?_
        | refine go_cond rfl (fun h => ?_) (fun h => ?_)
        | refine ⟨rfl, ?_⟩
        | (refine ⟨trivial, ?_⟩; conv => whnf)
        | (refine ⟨le_of_ble rfl, ?_⟩; conv => whnf)
        | fail
      · refine go_next (y, x % y) (by rw [← hg, Nat.gcd_comm y, ← Nat.gcd_rec, Nat.gcd_comm]) (Nat.mod_lt _ (by omega)) (ref_st0 rfl ⟨rfl, rfl, rfl, rfl, trivial⟩ rfl)
      · exfalso; simp at h; omega

theorem natAbs_max' (s : Int) (h1 : -9223372036854775807 ≤ s) (h2 : s ≤ 9223372036854775807) : (if IntKind.i64.wrap (0 - s) > s then IntKind.i64.wrap (0 - s) else s) = (s.natAbs : Int) := by
  rw [wrap_small (by omega) (by omega)]
  split <;> omega

theorem c44 (s n : Int) (hs1 : -9223372036854775807 ≤ s) (hs2 : s ≤ 9223372036854775807) (hn1 : 0 < n) (hn2 : n ≤ 9223372036854775807) :
    CallOk Try.prog 44 [.imm (.int .i64 s), .imm (.int .i64 n)] { res := [.imm (.int .i64 (IntKind.i64.wrap (s.tdiv (gcdI s n)))), .imm (.int .i64 (IntKind.i64.wrap (n.tdiv (gcdI s n)))), .imm (.bool true)] } := by
  refine callOk_of tyOk Try.func44 rfl rfl (le_of_ble rfl) (le_of_ble rfl) (mutOk_imm rfl _) ?_
  repeat' first
    | refine go_seq ?_
    | refine go_region ?_
    | (refine go_op rfl ?_; conv => whnf)
    | (refine go_nil ?_; conv => whnf)
    | (refine go_hit rfl rfl rfl ?_; conv => whnf)
    | (refine go_miss rfl rfl rfl ?_)
    | (refine go_undef rfl rfl rfl ?_)
    | (refine go_splitT rfl rfl rfl (fun h => ?_) (fun h => ?_) <;> conv => whnf)
    | (refine go_splitF rfl rfl rfl (fun h => ?_) (fun h => ?_) <;> conv => whnf)
    | (refine go_storeBox rfl rfl rfl rfl rfl rfl ?_; conv => whnf)
    | (refine go_dop rfl ?_; conv => whnf)
    | (refine go_dhit rfl rfl ?_; conv => whnf)
    | (refine go_dmiss rfl rfl ?_; conv => whnf)
    | (refine go_dundef rfl rfl ?_; conv => whnf)
    | (refine go_dend (by kernel_rfl) ?_; conv => whnf)
    | refine go_draw drawsOk ?_
    | (refine go_pickT rfl ?_; conv => whnf)
    | (refine go_pickF rfl ?_; conv => whnf)
    | (refine go_pick rfl (fun h => ?_) (fun h => ?_) <;> conv => whnf)
    | (refine go_dsplit2 rfl (fun h => ?_) (fun h => ?_) <;> conv => whnf)
    | (refine go_loadB ?_; conv => whnf)
    | (refine ⟨by kernel_rfl, ?_⟩; conv => whnf)
    | (refine go_ret ?_; conv => whnf)
    | refine go_block ?_
    | (refine go_skip ?_; conv => whnf)
    | (refine go_exit ?_; conv => whnf)
    | refine go_true rfl ?_
    | refine go_false rfl ?_
    | refine go_cond rfl (fun h => ?_) (fun h => ?_)
    | refine ⟨rfl, ?_⟩
    | (refine ⟨trivial, ?_⟩; conv => whnf)
    | (refine ⟨le_of_ble rfl, ?_⟩; conv => whnf)
    | fail
  refine go_loop (α := Nat × Nat) (fun x => Nat.gcd x.1 x.2 = Nat.gcd s.natAbs n.natAbs) (fun x => x.2) (fun x => st 26 [(0, .imm (.int .i64 s)), (1, .imm (.int .i64 n)), (7, .imm (.int .i64 (x.1 : Nat))), (8, .imm (.int .i64 (x.2 : Nat)))] [] []) (s.natAbs, n.natAbs)
    rfl (ref_st0 rfl ⟨rfl, rfl, ?_, ?_, trivial⟩ rfl) ?_
  · show AV.imm (.int .i64 _) = AV.imm (.int .i64 _)
    rw [← natAbs_max' s hs1 hs2]
    rfl
  · show AV.imm (.int .i64 _) = AV.imm (.int .i64 _)
    congr 2; omega
  · rintro ⟨x, y⟩ hg
    simp only at hg
    have hg0 : Nat.gcd s.natAbs n.natAbs ≠ 0 := fun e => by have := Nat.eq_zero_of_gcd_eq_zero_right e; omega
    by_cases hy : y = 0
    · subst hy
      rw [Nat.gcd_zero_right] at hg
      subst hg
      have hx0 : (((Nat.gcd s.natAbs n.natAbs, 0) : Nat × Nat).fst : Int) ≠ 0 := by simpa using hg0
      repeat' first
        | refine go_seq ?_
        | refine go_region ?_
        | (refine go_op rfl ?_; conv => whnf)
        | (refine go_nil ?_; conv => whnf)
        | (refine go_hit rfl rfl rfl ?_; conv => whnf)
        | (refine go_miss rfl rfl rfl ?_)
        | (refine go_undef rfl rfl rfl ?_)
        | (refine go_splitT rfl rfl rfl (fun h => ?_) (fun h => ?_) <;> conv => whnf)
        | (refine go_splitF rfl rfl rfl (fun h => ?_) (fun h => ?_) <;> conv => whnf)
        | (refine go_storeBox rfl rfl rfl rfl rfl rfl ?_; conv => whnf)
        | (refine go_dop rfl ?_; conv => whnf)
        | (refine go_dhit rfl rfl ?_; conv => whnf)
        | (refine go_dmiss rfl rfl ?_; conv => whnf)
        | (refine go_dundef rfl rfl ?_; conv => whnf)
        | (refine go_dend (by kernel_rfl) ?_; conv => whnf)
        | refine go_draw drawsOk ?_
        | (refine go_pickT rfl ?_; conv => whnf)
        | (refine go_pickF rfl ?_; conv => whnf)
        | (refine go_pick rfl (fun h => ?_) (fun h => ?_) <;> conv => whnf)
        | (refine ⟨hx0, ?_⟩; conv => whnf)
        | (refine go_dsplit2 rfl (fun h => ?_) (fun h => ?_) <;> conv => whnf)
        | (refine go_loadB ?_; conv => whnf)
        | (refine ⟨by kernel_rfl, ?_⟩; conv => whnf)
        | (refine go_ret ?_; conv => whnf)
        | refine go_block ?_
        | (refine go_skip ?_; conv => whnf)
        | (refine go_exit ?_; conv => whnf)
        | refine go_true rfl ?_
        | refine go_false rfl ?_
        | refine go_cond rfl (fun h => ?_) (fun h => ?_)
        | refine ⟨rfl, ?_⟩
        | (refine ⟨trivial, ?_⟩; conv => whnf)
        | (refine ⟨le_of_ble rfl, ?_⟩; conv => whnf)
        | fail
      exact ret_imm3 rfl rfl rfl rfl rfl rfl rfl rfl rfl rfl
    · have hy0 : (((x, y) : Nat × Nat).snd : Int) ≠ 0 := by simpa using hy
      repeat' first
        | refine go_seq ?_
        | refine go_region ?_
        | (refine go_op rfl ?_; conv => whnf)
        | (refine go_nil ?_; conv => whnf)
        | (refine go_hit rfl rfl rfl ?_; conv => whnf)
        | (refine go_miss rfl rfl rfl ?_)
        | (refine go_undef rfl rfl rfl ?_)
        | (refine go_splitT rfl rfl rfl (fun h => ?_) (fun h => ?_) <;> conv => whnf)
        | (refine go_splitF rfl rfl rfl (fun h => ?_) (fun h => ?_) <;> conv => whnf)
        | (refine go_storeBox rfl rfl rfl rfl rfl rfl ?_; conv => whnf)
        | (refine go_dop rfl ?_; conv => whnf)
        | (refine go_dhit rfl rfl ?_; conv => whnf)
        | (refine go_dmiss rfl rfl ?_; conv => whnf)
        | (refine go_dundef rfl rfl ?_; conv => whnf)
        | (refine go_dend (by kernel_rfl) ?_; conv => whnf)
        | refine go_draw drawsOk ?_
        | (refine go_pickT rfl ?_; conv => whnf)
        | (refine go_pickF rfl ?_; conv => whnf)
        | (refine go_pick rfl (fun h => ?_) (fun h => ?_) <;> conv => whnf)
        | (refine ⟨hy0, ?_⟩; conv => whnf)
        | (refine go_dsplit2 rfl (fun h => ?_) (fun h => ?_) <;> conv => whnf)
        | (refine go_loadB ?_; conv => whnf)
        | (refine ⟨by kernel_rfl, ?_⟩; conv => whnf)
        | (refine go_ret ?_; conv => whnf)
        | refine go_block ?_
        | (refine go_skip ?_; conv => whnf)
        | (refine go_exit ?_; conv => whnf)
        | refine go_true rfl ?_
        | refine go_false rfl ?_
        | refine go_cond rfl (fun h => ?_) (fun h => ?_)
        | refine ⟨rfl, ?_⟩
        | (refine ⟨trivial, ?_⟩; conv => whnf)
        | (refine ⟨le_of_ble rfl, ?_⟩; conv => whnf)
        | fail
      · refine go_next (y, x % y) (by rw [← hg, Nat.gcd_comm y, ← Nat.gcd_rec, Nat.gcd_comm]) (Nat.mod_lt _ (by omega)) (ref_st0 rfl ⟨rfl, rfl, rfl, rfl, trivial⟩ rfl)
      · exfalso; simp at h; omega


/-! ### The mean delay -/

def vDel (v : Visit) : Int := v.actual - v.planned
def delS (xs : List Visit) : Int := (xs.map vDel).sum

theorem good_del {v : Visit} (hok : v.ok) (h : vGood2 v = true) : -60 ≤ vDel v ∧ vDel v ≤ 600 ∧ i64 (v.actual) ∧ 0 ≤ v.planned ∧ v.planned ≤ 1799 := by
  obtain ⟨h1, h2, h3, h4⟩ := hok
  unfold i64 at *
  simp only [vGood2, inR, IntKind.wrap_i64, Bool.and_eq_true, decide_eq_true_eq] at h
  unfold vDel
  omega

theorem delS_next {xs : List Visit} {i : Nat} {v : Visit} (h : xs[i]? = some v) : delS (xs.take (i + 1)) = delS (xs.take i) + vDel v := by
  unfold delS
  rw [List.take_add_one, h]
  simp

theorem delS_le {xs : List Visit} (hok : ∀ v ∈ xs, v.ok) (h : xs.all vGood2 = true) : ∀ i : Nat, -60 * (i : Int) ≤ delS (xs.take i) ∧ delS (xs.take i) ≤ 600 * (i : Int)
  | 0 => by simp [delS]
  | i + 1 => by
    obtain ⟨h1, h2⟩ := delS_le hok h i
    cases hx : xs[i]? with
    | none =>
      have hl := le_of_at hx
      rw [List.take_of_length_le hl] at h1 h2
      rw [List.take_of_length_le (by omega)]
      omega
    | some v =>
      have hm := List.mem_of_getElem? hx
      obtain ⟨q1, q2, _⟩ := good_del (hok v hm) (List.all_eq_true.1 h v hm)
      rw [delS_next hx]
      omega

def valid (xs : List Visit) : Bool := decide (xs.length ≤ 30) && xs.all vGood2
def meanOk (xs : List Visit) : Bool := valid xs && !decide (xs.length = 0)
def meanN (xs : List Visit) : Int := if meanOk xs then IntKind.i64.wrap ((delS xs).tdiv (gcdI (delS xs) xs.length)) else 0
def meanD (xs : List Visit) : Int := if meanOk xs then IntKind.i64.wrap ((xs.length : Int).tdiv (gcdI (delS xs) xs.length)) else 0

theorem c18 (xs : List Visit) (hok : ∀ v ∈ xs, v.ok) (hl : xs.length ≤ 1048576) :
    CallOk Try.prog 18 [.imm (.list (xs.map Visit.enc))] { res := [.imm (.int .i64 (meanN xs)), .imm (.int .i64 (meanD xs)), .imm (.bool (meanOk xs))] } := by
  refine callOk_of tyOk Try.func18 rfl rfl (le_of_ble rfl) (le_of_ble rfl) (mutOk_imm rfl _) ?_
  have hv1 : (xs.all vGood1 && decide (xs.length ≤ 30)) = valid xs := by
    rw [all_same fun v hv => good_same v (hok v hv), Bool.and_comm]; rfl
  have hc38 := c38 xs hl
  rw [hv1] at hc38
  cases hva : valid xs with
  | false =>
    have hm : meanOk xs = false := by simp [meanOk, hva]
    rw [hva] at hc38
    repeat' first
      | refine go_seq ?_
      | refine go_region ?_
      | (refine go_op rfl ?_; conv => whnf)
      | (refine go_nil ?_; conv => whnf)
      | (refine go_hit rfl rfl rfl ?_; conv => whnf)
      | (refine go_miss rfl rfl rfl ?_)
      | (refine go_undef rfl rfl rfl ?_)
      | (refine go_splitT rfl rfl rfl (fun h => ?_) (fun h => ?_) <;> conv => whnf)
      | (refine go_splitF rfl rfl rfl (fun h => ?_) (fun h => ?_) <;> conv => whnf)
      | (refine go_storeBox rfl rfl rfl rfl rfl rfl ?_; conv => whnf)
      | (refine go_dop rfl ?_; conv => whnf)
      | (refine go_dhit rfl rfl ?_; conv => whnf)
      | (refine go_dmiss rfl rfl ?_; conv => whnf)
      | (refine go_dundef rfl rfl ?_; conv => whnf)
      | (refine go_dend (by kernel_rfl) ?_; conv => whnf)
      | refine go_draw drawsOk ?_
      | (refine go_pickT rfl ?_; conv => whnf)
      | (refine go_pickF rfl ?_; conv => whnf)
      | (refine go_pick rfl (fun h => ?_) (fun h => ?_) <;> conv => whnf)
      | (refine go_call [] (hc38) rfl rfl rfl rfl ?_; conv => whnf)
      | (refine go_dsplit2 rfl (fun h => ?_) (fun h => ?_) <;> conv => whnf)
      | (refine go_loadB ?_; conv => whnf)
      | (refine ⟨by kernel_rfl, ?_⟩; conv => whnf)
      | (refine go_ret ?_; conv => whnf)
      | refine go_block ?_
      | (refine go_skip ?_; conv => whnf)
      | (refine go_exit ?_; conv => whnf)
      | refine go_true rfl ?_
      | refine go_false rfl ?_
      | refine go_cond rfl (fun h => ?_) (fun h => ?_)
      | refine ⟨rfl, ?_⟩
      | (refine ⟨trivial, ?_⟩; conv => whnf)
      | (refine ⟨le_of_ble rfl, ?_⟩; conv => whnf)
      | fail
    exact ret_imm3 rfl rfl rfl rfl rfl rfl (by simp [meanN, hm]) (by simp [meanD, hm]) (by simp [hm]) rfl
  | true =>
    rw [hva] at hc38
    have hva' := hva
    simp only [valid, Bool.and_eq_true, decide_eq_true_eq] at hva'
    obtain ⟨hl30, hall⟩ := hva'
    have hS := delS_le hok hall
    repeat' first
      | refine go_seq ?_
      | refine go_region ?_
      | (refine go_op rfl ?_; conv => whnf)
      | (refine go_nil ?_; conv => whnf)
      | (refine go_hit rfl rfl rfl ?_; conv => whnf)
      | (refine go_miss rfl rfl rfl ?_)
      | (refine go_undef rfl rfl rfl ?_)
      | (refine go_splitT rfl rfl rfl (fun h => ?_) (fun h => ?_) <;> conv => whnf)
      | (refine go_splitF rfl rfl rfl (fun h => ?_) (fun h => ?_) <;> conv => whnf)
      | (refine go_storeBox rfl rfl rfl rfl rfl rfl ?_; conv => whnf)
      | (refine go_dop rfl ?_; conv => whnf)
      | (refine go_dhit rfl rfl ?_; conv => whnf)
      | (refine go_dmiss rfl rfl ?_; conv => whnf)
      | (refine go_dundef rfl rfl ?_; conv => whnf)
      | (refine go_dend (by kernel_rfl) ?_; conv => whnf)
      | refine go_draw drawsOk ?_
      | (refine go_pickT rfl ?_; conv => whnf)
      | (refine go_pickF rfl ?_; conv => whnf)
      | (refine go_pick rfl (fun h => ?_) (fun h => ?_) <;> conv => whnf)
      | (refine go_call [] (hc38) rfl rfl rfl rfl ?_; conv => whnf)
      | (refine go_dsplit2 rfl (fun h => ?_) (fun h => ?_) <;> conv => whnf)
      | (refine go_loadB ?_; conv => whnf)
      | (refine ⟨by kernel_rfl, ?_⟩; conv => whnf)
      | (refine go_ret ?_; conv => whnf)
      | refine go_block ?_
      | (refine go_skip ?_; conv => whnf)
      | (refine go_exit ?_; conv => whnf)
      | refine go_true rfl ?_
      | refine go_false rfl ?_
      | refine go_cond rfl (fun h => ?_) (fun h => ?_)
      | refine ⟨rfl, ?_⟩
      | (refine ⟨trivial, ?_⟩; conv => whnf)
      | (refine ⟨le_of_ble rfl, ?_⟩; conv => whnf)
      | fail
    · have hm : meanOk xs = false := by simp at h; simp [meanOk, h]
      exact ret_imm3 rfl rfl rfl rfl rfl rfl (by simp [meanN, hm]) (by simp [meanD, hm]) (by simp [hm]) rfl
    have hm : meanOk xs = true := by simp at h; simp [meanOk, h, hva]
    have hpos : 0 < xs.length := by simp at h; exact List.length_pos_iff.2 h
    refine go_loop (α := Nat) (fun i => i ≤ xs.length) (fun i => xs.length - i) (fun i => st Try.f18.ntmps [(0, .imm (.list (xs.map Visit.enc))), (5, .imm (.int .i64 (delS (xs.take i)))), (6, .imm (.int .i64 (i : Nat)))] [] []) 0 (Nat.zero_le _)
      (ref_st0 rfl ⟨rfl, rfl, rfl, trivial⟩ rfl) ?_
    intro i hi
    cases hx : xs[i]? with
    | none =>
      have hge := le_of_at hx
      have hie : xs.take i = xs := List.take_of_length_le hge
      have hSi := hS xs.length
      rw [List.take_of_length_le (Nat.le_refl _)] at hSi
      rw [hie]
      have hlen : ((xs.map Visit.enc).length : Int) = xs.length := by simp
      have hc43 := c43 (delS xs) (xs.map Visit.enc).length (by omega) (by omega) (by omega) (by omega)
      repeat' first
        | refine go_seq ?_
        | refine go_region ?_
        | (refine go_op rfl ?_; conv => whnf)
        | (refine go_nil ?_; conv => whnf)
        | (refine go_hit rfl rfl rfl ?_; conv => whnf)
        | (refine go_miss rfl rfl rfl ?_)
        | (refine go_undef rfl rfl rfl ?_)
        | (refine go_splitT rfl rfl rfl (fun h => ?_) (fun h => ?_) <;> conv => whnf)
        | (refine go_splitF rfl rfl rfl (fun h => ?_) (fun h => ?_) <;> conv => whnf)
        | (refine go_storeBox rfl rfl rfl rfl rfl rfl ?_; conv => whnf)
        | (refine go_dop rfl ?_; conv => whnf)
        | (refine go_dhit rfl rfl ?_; conv => whnf)
        | (refine go_dmiss rfl rfl ?_; conv => whnf)
        | (refine go_dundef rfl rfl ?_; conv => whnf)
        | (refine go_dend (by kernel_rfl) ?_; conv => whnf)
        | refine go_draw drawsOk ?_
        | (refine go_pickT rfl ?_; conv => whnf)
        | (refine go_pickF rfl ?_; conv => whnf)
        | (refine go_pick rfl (fun h => ?_) (fun h => ?_) <;> conv => whnf)
        | (refine go_call [] (hc43) rfl rfl rfl rfl ?_; conv => whnf)
        | (refine go_dsplit2 rfl (fun h => ?_) (fun h => ?_) <;> conv => whnf)
        | (refine go_loadB ?_; conv => whnf)
        | (refine ⟨by kernel_rfl, ?_⟩; conv => whnf)
        | (refine go_ret ?_; conv => whnf)
        | refine go_block ?_
        | (refine go_skip ?_; conv => whnf)
        | (refine go_exit ?_; conv => whnf)
        | refine go_true rfl ?_
        | refine go_false rfl ?_
        | refine go_cond rfl (fun h => ?_) (fun h => ?_)
        | refine ⟨rfl, ?_⟩
        | (refine ⟨trivial, ?_⟩; conv => whnf)
        | (refine ⟨le_of_ble rfl, ?_⟩; conv => whnf)
        | fail
      · exfalso; simp at *; omega
      · exact ret_imm3 rfl rfl rfl rfl rfl rfl (by simp [meanN, hm]) (by simp [meanD, hm]) (by simp [hm]) rfl
    | some v =>
      have hlt := lt_of_at hx
      have hr := row_at Visit.enc hx
      have hmem := List.mem_of_getElem? hx
      obtain ⟨q1, q2, q3, q4, q5⟩ := good_del (hok v hmem) (List.all_eq_true.1 hall v hmem)
      have hSi := hS i
      repeat' first
        | refine go_seq ?_
        | refine go_region ?_
        | (refine go_op rfl ?_; conv => whnf)
        | (refine go_nil ?_; conv => whnf)
        | (refine go_hit rfl rfl rfl ?_; conv => whnf)
        | (refine go_miss rfl rfl rfl ?_)
        | (refine go_undef rfl rfl rfl ?_)
        | (refine go_splitT rfl rfl rfl (fun h => ?_) (fun h => ?_) <;> conv => whnf)
        | (refine go_splitF rfl rfl rfl (fun h => ?_) (fun h => ?_) <;> conv => whnf)
        | (refine go_storeBox rfl rfl rfl rfl rfl rfl ?_; conv => whnf)
        | (refine go_dop rfl ?_; conv => whnf)
        | (refine go_dhit rfl rfl ?_; conv => whnf)
        | (refine go_dmiss rfl rfl ?_; conv => whnf)
        | (refine go_dundef rfl rfl ?_; conv => whnf)
        | (refine go_dend (by kernel_rfl) ?_; conv => whnf)
        | refine go_draw drawsOk ?_
        | (refine go_pickT rfl ?_; conv => whnf)
        | (refine go_pickF rfl ?_; conv => whnf)
        | (refine go_pick rfl (fun h => ?_) (fun h => ?_) <;> conv => whnf)
        | (refine go_idx rfl rfl rfl rfl (by omega) (by assumption) rfl ?_; conv => whnf)
        | (refine go_dsplit2 rfl (fun h => ?_) (fun h => ?_) <;> conv => whnf)
        | (refine go_loadB ?_; conv => whnf)
        | (refine ⟨by kernel_rfl, ?_⟩; conv => whnf)
        | (refine go_ret ?_; conv => whnf)
        | refine go_block ?_
        | (refine go_skip ?_; conv => whnf)
        | (refine go_exit ?_; conv => whnf)
        | refine go_true rfl ?_
        | refine go_false rfl ?_
        | refine go_cond rfl (fun h => ?_) (fun h => ?_)
        | refine ⟨rfl, ?_⟩
        | (refine ⟨trivial, ?_⟩; conv => whnf)
        | (refine ⟨le_of_ble rfl, ?_⟩; conv => whnf)
        | fail
      · refine go_next (i + 1) (by omega) (by omega) (ref_st0 rfl ⟨rfl, ?_, next_i (by omega), trivial⟩ rfl)
        show AV.imm (.int .i64 _) = AV.imm (.int .i64 _)
        rw [delS_next hx]
        unfold vDel at *
        rw [wrap_small (n := delS (xs.take i) + v.actual) (by omega) (by omega), wrap_small (by omega) (by omega)]
        congr 2; omega
      · exfalso; simp at *; omega

theorem c19 (xs : List Visit) (hok : ∀ v ∈ xs, v.ok) (hl : xs.length ≤ 1048576) :
    CallOk Try.prog 19 [.imm (.list (xs.map Visit.enc))] { res := [.imm (.int .i64 (meanN xs)), .imm (.int .i64 (meanD xs)), .imm (.bool (meanOk xs))] } := by
  refine callOk_of tyOk Try.func19 rfl rfl (le_of_ble rfl) (le_of_ble rfl) (mutOk_imm rfl _) ?_
  have hc16 : CallOk Try.prog 16 [.imm (.list (xs.map Visit.enc))] { res := [.imm (.bool (valid xs))] } := c16 xs hl
  cases hva : valid xs with
  | false =>
    have hm : meanOk xs = false := by simp [meanOk, hva]
    rw [hva] at hc16
    repeat' first
      | refine go_seq ?_
      | refine go_region ?_
      | (refine go_op rfl ?_; conv => whnf)
      | (refine go_nil ?_; conv => whnf)
      | (refine go_hit rfl rfl rfl ?_; conv => whnf)
      | (refine go_miss rfl rfl rfl ?_)
      | (refine go_undef rfl rfl rfl ?_)
      | (refine go_splitT rfl rfl rfl (fun h => ?_) (fun h => ?_) <;> conv => whnf)
      | (refine go_splitF rfl rfl rfl (fun h => ?_) (fun h => ?_) <;> conv => whnf)
      | (refine go_storeBox rfl rfl rfl rfl rfl rfl ?_; conv => whnf)
      | (refine go_dop rfl ?_; conv => whnf)
      | (refine go_dhit rfl rfl ?_; conv => whnf)
      | (refine go_dmiss rfl rfl ?_; conv => whnf)
      | (refine go_dundef rfl rfl ?_; conv => whnf)
      | (refine go_dend (by kernel_rfl) ?_; conv => whnf)
      | refine go_draw drawsOk ?_
      | (refine go_pickT rfl ?_; conv => whnf)
      | (refine go_pickF rfl ?_; conv => whnf)
      | (refine go_pick rfl (fun h => ?_) (fun h => ?_) <;> conv => whnf)
      | (refine go_call [] (hc16) rfl rfl rfl rfl ?_; conv => whnf)
      | (refine go_dsplit2 rfl (fun h => ?_) (fun h => ?_) <;> conv => whnf)
      | (refine go_loadB ?_; conv => whnf)
      | (refine ⟨by kernel_rfl, ?_⟩; conv => whnf)
      | (refine go_ret ?_; conv => whnf)
      | refine go_block ?_
      | (refine go_skip ?_; conv => whnf)
      | (refine go_exit ?_; conv => whnf)
      | refine go_true rfl ?_
      | refine go_false rfl ?_
      | refine go_cond rfl (fun h => ?_) (fun h => ?_)
      | refine ⟨rfl, ?_⟩
      | (refine ⟨trivial, ?_⟩; conv => whnf)
      | (refine ⟨le_of_ble rfl, ?_⟩; conv => whnf)
      | fail
    exact ret_imm3 rfl rfl rfl rfl rfl rfl (by simp [meanN, hm]) (by simp [meanD, hm]) (by simp [hm]) rfl
  | true =>
    rw [hva] at hc16
    have hva' := hva
    simp only [valid, Bool.and_eq_true, decide_eq_true_eq] at hva'
    obtain ⟨hl30, hall⟩ := hva'
    have hS := delS_le hok hall
    repeat' first
      | refine go_seq ?_
      | refine go_region ?_
      | (refine go_op rfl ?_; conv => whnf)
      | (refine go_nil ?_; conv => whnf)
      | (refine go_hit rfl rfl rfl ?_; conv => whnf)
      | (refine go_miss rfl rfl rfl ?_)
      | (refine go_undef rfl rfl rfl ?_)
      | (refine go_splitT rfl rfl rfl (fun h => ?_) (fun h => ?_) <;> conv => whnf)
      | (refine go_splitF rfl rfl rfl (fun h => ?_) (fun h => ?_) <;> conv => whnf)
      | (refine go_storeBox rfl rfl rfl rfl rfl rfl ?_; conv => whnf)
      | (refine go_dop rfl ?_; conv => whnf)
      | (refine go_dhit rfl rfl ?_; conv => whnf)
      | (refine go_dmiss rfl rfl ?_; conv => whnf)
      | (refine go_dundef rfl rfl ?_; conv => whnf)
      | (refine go_dend (by kernel_rfl) ?_; conv => whnf)
      | refine go_draw drawsOk ?_
      | (refine go_pickT rfl ?_; conv => whnf)
      | (refine go_pickF rfl ?_; conv => whnf)
      | (refine go_pick rfl (fun h => ?_) (fun h => ?_) <;> conv => whnf)
      | (refine go_call [] (hc16) rfl rfl rfl rfl ?_; conv => whnf)
      | (refine go_dsplit2 rfl (fun h => ?_) (fun h => ?_) <;> conv => whnf)
      | (refine go_loadB ?_; conv => whnf)
      | (refine ⟨by kernel_rfl, ?_⟩; conv => whnf)
      | (refine go_ret ?_; conv => whnf)
      | refine go_block ?_
      | (refine go_skip ?_; conv => whnf)
      | (refine go_exit ?_; conv => whnf)
      | refine go_true rfl ?_
      | refine go_false rfl ?_
      | refine go_cond rfl (fun h => ?_) (fun h => ?_)
      | refine ⟨rfl, ?_⟩
      | (refine ⟨trivial, ?_⟩; conv => whnf)
      | (refine ⟨le_of_ble rfl, ?_⟩; conv => whnf)
      | fail
    · have hm : meanOk xs = false := by simp at h; simp [meanOk, h]
      exact ret_imm3 rfl rfl rfl rfl rfl rfl (by simp [meanN, hm]) (by simp [meanD, hm]) (by simp [hm]) rfl
    have hm : meanOk xs = true := by simp at h; simp [meanOk, h, hva]
    have hpos : 0 < xs.length := by simp at h; exact List.length_pos_iff.2 h
    refine go_loop (α := Nat) (fun i => i ≤ xs.length) (fun i => xs.length - i) (fun i => st Try.f19.ntmps [(0, .imm (.list (xs.map Visit.enc))), (5, .imm (.int .i64 (delS (xs.take i)))), (16, .imm (.list (xs.map Visit.enc))), (17, .imm (.int .i64 (xs.map Visit.enc).length)), (18, .imm (.int .i64 (i : Nat)))] [] []) 0 (Nat.zero_le _)
      (ref_st0 rfl ⟨rfl, rfl, rfl, rfl, rfl, trivial⟩ rfl) ?_
    intro i hi
    cases hx : xs[i]? with
    | none =>
      have hge := le_of_at hx
      have hie : xs.take i = xs := List.take_of_length_le hge
      have hSi := hS xs.length
      rw [List.take_of_length_le (Nat.le_refl _)] at hSi
      rw [hie]
      have hlen : ((xs.map Visit.enc).length : Int) = xs.length := by simp
      have hc44 := c44 (delS xs) (xs.map Visit.enc).length (by omega) (by omega) (by omega) (by omega)
      repeat' first
        | refine go_seq ?_
        | refine go_region ?_
        | (refine go_op rfl ?_; conv => whnf)
        | (refine go_nil ?_; conv => whnf)
        | (refine go_hit rfl rfl rfl ?_; conv => whnf)
        | (refine go_miss rfl rfl rfl ?_)
        | (refine go_undef rfl rfl rfl ?_)
        | (refine go_splitT rfl rfl rfl (fun h => ?_) (fun h => ?_) <;> conv => whnf)
        | (refine go_splitF rfl rfl rfl (fun h => ?_) (fun h => ?_) <;> conv => whnf)
        | (refine go_storeBox rfl rfl rfl rfl rfl rfl ?_; conv => whnf)
        | (refine go_dop rfl ?_; conv => whnf)
        | (refine go_dhit rfl rfl ?_; conv => whnf)
        | (refine go_dmiss rfl rfl ?_; conv => whnf)
        | (refine go_dundef rfl rfl ?_; conv => whnf)
        | (refine go_dend (by kernel_rfl) ?_; conv => whnf)
        | refine go_draw drawsOk ?_
        | (refine go_pickT rfl ?_; conv => whnf)
        | (refine go_pickF rfl ?_; conv => whnf)
        | (refine go_pick rfl (fun h => ?_) (fun h => ?_) <;> conv => whnf)
        | (refine go_call [] (hc44) rfl rfl rfl rfl ?_; conv => whnf)
        | (refine go_dsplit2 rfl (fun h => ?_) (fun h => ?_) <;> conv => whnf)
        | (refine go_loadB ?_; conv => whnf)
        | (refine ⟨by kernel_rfl, ?_⟩; conv => whnf)
        | (refine go_ret ?_; conv => whnf)
        | refine go_block ?_
        | (refine go_skip ?_; conv => whnf)
        | (refine go_exit ?_; conv => whnf)
        | refine go_true rfl ?_
        | refine go_false rfl ?_
        | refine go_cond rfl (fun h => ?_) (fun h => ?_)
        | refine ⟨rfl, ?_⟩
        | (refine ⟨trivial, ?_⟩; conv => whnf)
        | (refine ⟨le_of_ble rfl, ?_⟩; conv => whnf)
        | fail
      · exfalso; simp at *; omega
      · exact ret_imm3 rfl rfl rfl rfl rfl rfl (by simp [meanN, hm]) (by simp [meanD, hm]) (by simp [hm]) rfl
    | some v =>
      have hlt := lt_of_at hx
      have hr := row_at Visit.enc hx
      have hmem := List.mem_of_getElem? hx
      obtain ⟨q1, q2, q3, q4, q5⟩ := good_del (hok v hmem) (List.all_eq_true.1 hall v hmem)
      have hSi := hS i
      repeat' first
        | refine go_seq ?_
        | refine go_region ?_
        | (refine go_op rfl ?_; conv => whnf)
        | (refine go_nil ?_; conv => whnf)
        | (refine go_hit rfl rfl rfl ?_; conv => whnf)
        | (refine go_miss rfl rfl rfl ?_)
        | (refine go_undef rfl rfl rfl ?_)
        | (refine go_splitT rfl rfl rfl (fun h => ?_) (fun h => ?_) <;> conv => whnf)
        | (refine go_splitF rfl rfl rfl (fun h => ?_) (fun h => ?_) <;> conv => whnf)
        | (refine go_storeBox rfl rfl rfl rfl rfl rfl ?_; conv => whnf)
        | (refine go_dop rfl ?_; conv => whnf)
        | (refine go_dhit rfl rfl ?_; conv => whnf)
        | (refine go_dmiss rfl rfl ?_; conv => whnf)
        | (refine go_dundef rfl rfl ?_; conv => whnf)
        | (refine go_dend (by kernel_rfl) ?_; conv => whnf)
        | refine go_draw drawsOk ?_
        | (refine go_pickT rfl ?_; conv => whnf)
        | (refine go_pickF rfl ?_; conv => whnf)
        | (refine go_pick rfl (fun h => ?_) (fun h => ?_) <;> conv => whnf)
        | (refine go_idx rfl rfl rfl rfl (by omega) (by assumption) rfl ?_; conv => whnf)
        | (refine go_dsplit2 rfl (fun h => ?_) (fun h => ?_) <;> conv => whnf)
        | (refine go_loadB ?_; conv => whnf)
        | (refine ⟨by kernel_rfl, ?_⟩; conv => whnf)
        | (refine go_ret ?_; conv => whnf)
        | refine go_block ?_
        | (refine go_skip ?_; conv => whnf)
        | (refine go_exit ?_; conv => whnf)
        | refine go_true rfl ?_
        | refine go_false rfl ?_
        | refine go_cond rfl (fun h => ?_) (fun h => ?_)
        | refine ⟨rfl, ?_⟩
        | (refine ⟨trivial, ?_⟩; conv => whnf)
        | (refine ⟨le_of_ble rfl, ?_⟩; conv => whnf)
        | fail
      · refine go_next (i + 1) (by omega) (by omega) (ref_st0 rfl ⟨rfl, ?_, rfl, rfl, next_i (by omega), trivial⟩ rfl)
        show AV.imm (.int .i64 _) = AV.imm (.int .i64 _)
        rw [delS_next hx]
        unfold vDel at *
        rw [wrap_small (n := v.actual - v.planned) (by omega) (by omega), wrap_small (by omega) (by omega)]
      · exfalso; simp at *; omega

theorem c4 (xs : List Visit) (hok : ∀ v ∈ xs, v.ok) (hl : xs.length ≤ 9223372036854775807) : CallOk Try.prog 4 [.imm (.list (xs.map Visit.enc))] { res := [.imm (.bool true)] } := by
  refine callOk_of tyOk Try.func4 rfl rfl (le_of_ble rfl) (le_of_ble rfl) (mutOk_imm rfl _) ?_
  have hw : IntKind.i64.wrap (1048576 - (xs.length : Int)) = 1048576 - xs.length := by rw [IntKind.wrap_i64]; omega
  by_cases hs : xs.length ≤ 1048576
  · have h1 : True := trivial
    repeat' first
      | refine go_seq ?_
      | refine go_region ?_
      | (refine go_op rfl ?_; conv => whnf)
      | (refine go_nil ?_; conv => whnf)
      | (refine go_hit rfl rfl rfl ?_; conv => whnf)
      | (refine go_miss rfl rfl rfl ?_)
      | (refine go_undef rfl rfl rfl ?_)
      | (refine go_splitT rfl rfl rfl (fun h => ?_) (fun h => ?_) <;> conv => whnf)
      | (refine go_splitF rfl rfl rfl (fun h => ?_) (fun h => ?_) <;> conv => whnf)
      | (refine go_storeBox rfl rfl rfl rfl rfl rfl ?_; conv => whnf)
      | (refine go_dop rfl ?_; conv => whnf)
      | (refine go_dhit rfl rfl ?_; conv => whnf)
      | (refine go_dmiss rfl rfl ?_; conv => whnf)
      | (refine go_dundef rfl rfl ?_; conv => whnf)
      | (refine go_dend (by kernel_rfl) ?_; conv => whnf)
      | refine go_draw drawsOk ?_
      | (refine go_pickT rfl ?_; conv => whnf)
      | (refine go_pickF rfl ?_; conv => whnf)
      | (refine go_pick rfl (fun h => ?_) (fun h => ?_) <;> conv => whnf)
      | (refine go_call [] (c13 xs _) rfl rfl rfl rfl ?_; conv => whnf)
      | (refine go_call [] (c15 xs hs) rfl rfl rfl rfl ?_; conv => whnf)
      | (refine go_call [] (c18 xs hok hs) rfl rfl rfl rfl ?_; conv => whnf)
      | (refine go_call [] (c19 xs hok hs) rfl rfl rfl rfl ?_; conv => whnf)
      | (refine go_call [] (c17 xs xs hs) rfl rfl rfl rfl ?_; conv => whnf)
      | (refine go_dsplit2 rfl (fun h => ?_) (fun h => ?_) <;> conv => whnf)
      | (refine go_loadB ?_; conv => whnf)
      | (refine ⟨by kernel_rfl, ?_⟩; conv => whnf)
      | (refine go_ret ?_; conv => whnf)
      | refine go_block ?_
      | (refine go_skip ?_; conv => whnf)
      | (refine go_exit ?_; conv => whnf)
      | refine go_true rfl ?_
      | refine go_false rfl ?_
      | refine go_cond rfl (fun h => ?_) (fun h => ?_)
      | refine ⟨rfl, ?_⟩
      | (refine ⟨trivial, ?_⟩; conv => whnf)
      | (refine ⟨le_of_ble rfl, ?_⟩; conv => whnf)
      | fail
    all_goals first | exact ret_imm rfl rfl rfl rfl rfl rfl | (exfalso; simp at h; done) | (exfalso; rw [zip_self beq_self] at h; simp at h; done)
  · have h1 : True := trivial
    repeat' first
      | refine go_seq ?_
      | refine go_region ?_
      | (refine go_op rfl ?_; conv => whnf)
      | (refine go_nil ?_; conv => whnf)
      | (refine go_hit rfl rfl rfl ?_; conv => whnf)
      | (refine go_miss rfl rfl rfl ?_)
      | (refine go_undef rfl rfl rfl ?_)
      | (refine go_splitT rfl rfl rfl (fun h => ?_) (fun h => ?_) <;> conv => whnf)
      | (refine go_splitF rfl rfl rfl (fun h => ?_) (fun h => ?_) <;> conv => whnf)
      | (refine go_storeBox rfl rfl rfl rfl rfl rfl ?_; conv => whnf)
      | (refine go_dop rfl ?_; conv => whnf)
      | (refine go_dhit rfl rfl ?_; conv => whnf)
      | (refine go_dmiss rfl rfl ?_; conv => whnf)
      | (refine go_dundef rfl rfl ?_; conv => whnf)
      | (refine go_dend (by kernel_rfl) ?_; conv => whnf)
      | refine go_draw drawsOk ?_
      | (refine go_pickT rfl ?_; conv => whnf)
      | (refine go_pickF rfl ?_; conv => whnf)
      | (refine go_pick rfl (fun h => ?_) (fun h => ?_) <;> conv => whnf)
      | (refine go_call [] (c13 xs _) rfl rfl rfl rfl ?_; conv => whnf)
      | (refine go_dsplit2 rfl (fun h => ?_) (fun h => ?_) <;> conv => whnf)
      | (refine go_loadB ?_; conv => whnf)
      | (refine ⟨by kernel_rfl, ?_⟩; conv => whnf)
      | (refine go_ret ?_; conv => whnf)
      | refine go_block ?_
      | (refine go_skip ?_; conv => whnf)
      | (refine go_exit ?_; conv => whnf)
      | refine go_true rfl ?_
      | refine go_false rfl ?_
      | refine go_cond rfl (fun h => ?_) (fun h => ?_)
      | refine ⟨rfl, ?_⟩
      | (refine ⟨trivial, ?_⟩; conv => whnf)
      | (refine ⟨le_of_ble rfl, ?_⟩; conv => whnf)
      | fail
    · exact ret_imm rfl rfl rfl rfl rfl rfl
    · exfalso
      rw [hw] at h
      rw [if_pos (by omega)] at h
      simp at h
end Go.Proofs.Ytnjojepeilgikaa

