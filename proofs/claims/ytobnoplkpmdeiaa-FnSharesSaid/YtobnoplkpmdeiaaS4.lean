/- Fractions (as for the other rows over visits; names for numbers: conv.py). -/
import Derived.Test.YtobnoplkpmdeiaaS2
namespace Go.Proofs.Ytobnoplkpmdeiaa
open Go Go.Am
set_option maxRecDepth 100000
set_option maxHeartbeats 4000000
attribute [local irreducible] amOps amC opCall opIndexAddr opPick retQ opMake opStore amDraw

def gcdI (s n : Int) : Int := (Nat.gcd s.natAbs n.natAbs : Nat)

theorem c53 (a b : Int) : CallOk Try.prog 53 [.imm (.int .i64 a), .imm (.int .i64 b)] { res := [.imm (.int .i64 (if b < a then a else b))] } := by
  refine callOk_of tyOk Try.func53 rfl rfl (le_of_ble rfl) (le_of_ble rfl) (mutOk_imm rfl _) ?_
  repeat' first | refine go_seq ?_ | refine go_region ?_ | ((first | refine go_op rfl ?_ | refine go_nil ?_) <;> conv => whnf) | ((first | refine ⟨by kernel_rfl, ?_⟩ | refine go_ret ?_) <;> conv => whnf) | ((first | refine go_skip ?_) <;> conv => whnf) | refine go_true rfl ?_ | refine go_false rfl ?_ | refine go_cond rfl (fun h => ?_) (fun h => ?_) | refine ⟨rfl, ?_⟩ | ((first | refine ⟨trivial, ?_⟩ | refine ⟨le_of_ble rfl, ?_⟩) <;> conv => whnf) | fail
  all_goals refine ret_imm rfl rfl rfl rfl ?_ rfl
  all_goals first | (simp_all; done) | (simp_all; omega)

theorem natAbs_max (s : Int) (h1 : -9223372036854775807 ≤ s) (h2 : s ≤ 9223372036854775807) : (if IntKind.i64.wrap (0 - s) < s then s else IntKind.i64.wrap (0 - s)) = (s.natAbs : Int) := by
  rw [wrap_small (by omega) (by omega)]
  split <;> omega

theorem c39 (s n : Int) (hs1 : -9223372036854775807 ≤ s) (hs2 : s ≤ 9223372036854775807) (hn1 : 0 < n) (hn2 : n ≤ 9223372036854775807) :
    CallOk Try.prog 39 [.imm (.int .i64 s), .imm (.int .i64 n)] { res := [.imm (.int .i64 (IntKind.i64.wrap (s.tdiv (gcdI s n)))), .imm (.int .i64 (IntKind.i64.wrap (n.tdiv (gcdI s n))))] } := by
  refine callOk_of tyOk Try.func39 rfl rfl (le_of_ble rfl) (le_of_ble rfl) (mutOk_imm rfl _) ?_
  repeat' first | refine go_seq ?_ | refine go_region ?_ | refine go_draw drawsOk ?_ | ((first | refine go_op rfl ?_ | refine go_nil ?_ | refine go_dop rfl ?_ | refine go_dend (by kernel_rfl) ?_ | refine go_call [] (c53 _ _) rfl rfl rfl rfl ?_) <;> conv => whnf) | ((first | refine ⟨by kernel_rfl, ?_⟩ | refine go_ret ?_) <;> conv => whnf) | refine go_block ?_ | ((first | refine go_skip ?_ | refine go_exit ?_) <;> conv => whnf) | refine go_true rfl ?_ | refine go_false rfl ?_ | refine go_cond rfl (fun h => ?_) (fun h => ?_) | refine ⟨rfl, ?_⟩ | ((first | refine ⟨trivial, ?_⟩ | refine ⟨le_of_ble rfl, ?_⟩) <;> conv => whnf) | fail
  refine go_loop (α := Nat × Nat) (fun x => Nat.gcd x.1 x.2 = Nat.gcd s.natAbs n.natAbs) (fun x => x.2) (fun x => st 27 [(0, .imm (.int .i64 s)), (1, .imm (.int .i64 n)), (6, .imm (.int .i64 (x.1 : Nat))), (7, .imm (.int .i64 (x.2 : Nat)))] [] []) (s.natAbs, n.natAbs)
    rfl (ref_st0 rfl ⟨rfl, rfl, ?_, ?_, trivial⟩ rfl) ?_
  · show AV.imm (.int .i64 _) = AV.imm (.int .i64 _)
    rw [natAbs_max s hs1 hs2]
  · show AV.imm (.int .i64 _) = AV.imm (.int .i64 _)
    congr 2; omega
  · rintro ⟨x, y⟩ hg
    simp only at hg
    have hg0 : Nat.gcd s.natAbs n.natAbs ≠ 0 := fun e => by have := Nat.eq_zero_of_gcd_eq_zero_right e; omega
    by_cases hy : y = 0
    · subst hy
      rw [Nat.gcd_zero_right] at hg
      subst hg
      have hx0 : (((Nat.gcd s.natAbs n.natAbs, 0) : Nat × Nat).fst : Int) ≠ 0 := by simpa using hg0
      repeat' first | refine go_seq ?_ | refine go_region ?_ | refine go_draw drawsOk ?_ | ((first | refine go_op rfl ?_ | refine go_nil ?_ | refine go_dop rfl ?_ | refine go_dend (by kernel_rfl) ?_ | refine ⟨hx0, ?_⟩) <;> conv => whnf) | ((first | refine ⟨by kernel_rfl, ?_⟩ | refine go_ret ?_) <;> conv => whnf) | refine go_block ?_ | ((first | refine go_skip ?_ | refine go_exit ?_) <;> conv => whnf) | refine go_true rfl ?_ | refine go_false rfl ?_ | refine go_cond rfl (fun h => ?_) (fun h => ?_) | refine ⟨rfl, ?_⟩ | ((first | refine ⟨trivial, ?_⟩ | refine ⟨le_of_ble rfl, ?_⟩) <;> conv => whnf) | fail
      exact ret_imm2 rfl rfl rfl rfl rfl rfl rfl rfl
    · have hy0 : (((x, y) : Nat × Nat).snd : Int) ≠ 0 := by simpa using hy
      repeat' first | refine go_seq ?_ | refine go_region ?_ | refine go_draw drawsOk ?_ | ((first | refine go_op rfl ?_ | refine go_nil ?_ | refine go_dop rfl ?_ | refine go_dend (by kernel_rfl) ?_ | refine ⟨hy0, ?_⟩) <;> conv => whnf) | ((first | refine ⟨by kernel_rfl, ?_⟩ | refine go_ret ?_) <;> conv => whnf) | refine go_block ?_ | ((first | refine go_skip ?_ | refine go_exit ?_) <;> conv => whnf) | refine go_true rfl ?_ | refine go_false rfl ?_ | refine go_cond rfl (fun h => ?_) (fun h => ?_) | refine ⟨rfl, ?_⟩ | ((first | refine ⟨trivial, ?_⟩ | refine ⟨le_of_ble rfl, ?_⟩) <;> conv => whnf) | fail
      · refine go_next (y, x % y) (by rw [← hg, Nat.gcd_comm y, ← Nat.gcd_rec, Nat.gcd_comm]) (Nat.mod_lt _ (by omega)) (ref_st0 rfl ⟨rfl, rfl, rfl, rfl, trivial⟩ rfl)
      · exfalso; simp at h; omega

theorem natAbs_max' (s : Int) (h1 : -9223372036854775807 ≤ s) (h2 : s ≤ 9223372036854775807) : (if IntKind.i64.wrap (0 - s) > s then IntKind.i64.wrap (0 - s) else s) = (s.natAbs : Int) := by
  rw [wrap_small (by omega) (by omega)]
  split <;> omega

theorem c34 (s n : Int) (hs1 : -9223372036854775807 ≤ s) (hs2 : s ≤ 9223372036854775807) (hn1 : 0 < n) (hn2 : n ≤ 9223372036854775807) :
    CallOk Try.prog 34 [.imm (.int .i64 s), .imm (.int .i64 n)] { res := [.imm (.int .i64 (IntKind.i64.wrap (s.tdiv (gcdI s n)))), .imm (.int .i64 (IntKind.i64.wrap (n.tdiv (gcdI s n)))), .imm (.bool true)] } := by
  refine callOk_of tyOk Try.func34 rfl rfl (le_of_ble rfl) (le_of_ble rfl) (mutOk_imm rfl _) ?_
  repeat' first | refine go_seq ?_ | refine go_region ?_ | refine go_draw drawsOk ?_ | ((first | refine go_op rfl ?_ | refine go_nil ?_ | refine go_dop rfl ?_ | refine go_dend (by kernel_rfl) ?_) <;> conv => whnf) | ((first | refine ⟨by kernel_rfl, ?_⟩ | refine go_ret ?_) <;> conv => whnf) | refine go_block ?_ | ((first | refine go_skip ?_ | refine go_exit ?_) <;> conv => whnf) | refine go_true rfl ?_ | refine go_false rfl ?_ | refine go_cond rfl (fun h => ?_) (fun h => ?_) | refine ⟨rfl, ?_⟩ | ((first | refine ⟨trivial, ?_⟩ | refine ⟨le_of_ble rfl, ?_⟩) <;> conv => whnf) | fail
  refine go_loop (α := Nat × Nat) (fun x => Nat.gcd x.1 x.2 = Nat.gcd s.natAbs n.natAbs) (fun x => x.2) (fun x => st 26 [(0, .imm (.int .i64 s)), (1, .imm (.int .i64 n)), (7, .imm (.int .i64 (x.1 : Nat))), (8, .imm (.int .i64 (x.2 : Nat)))] [] []) (s.natAbs, n.natAbs)
    rfl (ref_st0 rfl ⟨rfl, rfl, ?_, ?_, trivial⟩ rfl) ?_
  · show AV.imm (.int .i64 _) = AV.imm (.int .i64 _)
    rw [← natAbs_max' s hs1 hs2]
    rfl
  · show AV.imm (.int .i64 _) = AV.imm (.int .i64 _)
    congr 2; omega
  · rintro ⟨x, y⟩ hg
    simp only at hg
    have hg0 : Nat.gcd s.natAbs n.natAbs ≠ 0 := fun e => by have := Nat.eq_zero_of_gcd_eq_zero_right e; omega
    by_cases hy : y = 0
    · subst hy
      rw [Nat.gcd_zero_right] at hg
      subst hg
      have hx0 : (((Nat.gcd s.natAbs n.natAbs, 0) : Nat × Nat).fst : Int) ≠ 0 := by simpa using hg0
      repeat' first | refine go_seq ?_ | refine go_region ?_ | refine go_draw drawsOk ?_ | ((first | refine go_op rfl ?_ | refine go_nil ?_ | refine go_dop rfl ?_ | refine go_dend (by kernel_rfl) ?_ | refine ⟨hx0, ?_⟩) <;> conv => whnf) | ((first | refine ⟨by kernel_rfl, ?_⟩ | refine go_ret ?_) <;> conv => whnf) | refine go_block ?_ | ((first | refine go_skip ?_ | refine go_exit ?_) <;> conv => whnf) | refine go_true rfl ?_ | refine go_false rfl ?_ | refine go_cond rfl (fun h => ?_) (fun h => ?_) | refine ⟨rfl, ?_⟩ | ((first | refine ⟨trivial, ?_⟩ | refine ⟨le_of_ble rfl, ?_⟩) <;> conv => whnf) | fail
      exact ret_imm3 rfl rfl rfl rfl rfl rfl rfl rfl rfl rfl
    · have hy0 : (((x, y) : Nat × Nat).snd : Int) ≠ 0 := by simpa using hy
      repeat' first | refine go_seq ?_ | refine go_region ?_ | refine go_draw drawsOk ?_ | ((first | refine go_op rfl ?_ | refine go_nil ?_ | refine go_dop rfl ?_ | refine go_dend (by kernel_rfl) ?_ | refine ⟨hy0, ?_⟩) <;> conv => whnf) | ((first | refine ⟨by kernel_rfl, ?_⟩ | refine go_ret ?_) <;> conv => whnf) | refine go_block ?_ | ((first | refine go_skip ?_ | refine go_exit ?_) <;> conv => whnf) | refine go_true rfl ?_ | refine go_false rfl ?_ | refine go_cond rfl (fun h => ?_) (fun h => ?_) | refine ⟨rfl, ?_⟩ | ((first | refine ⟨trivial, ?_⟩ | refine ⟨le_of_ble rfl, ?_⟩) <;> conv => whnf) | fail
      · refine go_next (y, x % y) (by rw [← hg, Nat.gcd_comm y, ← Nat.gcd_rec, Nat.gcd_comm]) (Nat.mod_lt _ (by omega)) (ref_st0 rfl ⟨rfl, rfl, rfl, rfl, trivial⟩ rfl)
      · exfalso; simp at h; omega


/-! ### The mean delay -/

def vDel (v : Visit) : Int := v.actual - v.planned
def delS (xs : List Visit) : Int := (xs.map vDel).sum

theorem good_del {v : Visit} (hok : v.ok) (h : vGood2 v = true) : -60 ≤ vDel v ∧ vDel v ≤ 600 ∧ i64 (v.actual) ∧ 0 ≤ v.planned ∧ v.planned ≤ 1799 := by
  obtain ⟨h1, h2, h3, h4⟩ := hok
  unfold i64 at *
  simp only [vGood2, inR, IntKind.wrap_i64, Bool.and_eq_true, decide_eq_true_eq] at h
  unfold vDel
  omega

theorem delS_next {xs : List Visit} {i : Nat} {v : Visit} (h : xs[i]? = some v) : delS (xs.take (i + 1)) = delS (xs.take i) + vDel v := by
  unfold delS
  rw [List.take_add_one, h]
  simp

theorem delS_le {xs : List Visit} (hok : ∀ v ∈ xs, v.ok) (h : xs.all vGood2 = true) : ∀ i : Nat, -60 * (i : Int) ≤ delS (xs.take i) ∧ delS (xs.take i) ≤ 600 * (i : Int)
  | 0 => by simp [delS]
  | i + 1 => by
    obtain ⟨h1, h2⟩ := delS_le hok h i
    cases hx : xs[i]? with
    | none =>
      have hl := le_of_at hx
      rw [List.take_of_length_le hl] at h1 h2
      rw [List.take_of_length_le (by omega)]
      omega
    | some v =>
      have hm := List.mem_of_getElem? hx
      obtain ⟨q1, q2, _⟩ := good_del (hok v hm) (List.all_eq_true.1 h v hm)
      rw [delS_next hx]
      omega

def valid (xs : List Visit) : Bool := decide (xs.length ≤ 30) && xs.all vGood2
def meanOk (xs : List Visit) : Bool := valid xs && !decide (xs.length = 0)
def meanN (xs : List Visit) : Int := if meanOk xs then IntKind.i64.wrap ((delS xs).tdiv (gcdI (delS xs) xs.length)) else 0
def meanD (xs : List Visit) : Int := if meanOk xs then IntKind.i64.wrap ((xs.length : Int).tdiv (gcdI (delS xs) xs.length)) else 0

end Go.Proofs.Ytobnoplkpmdeiaa


