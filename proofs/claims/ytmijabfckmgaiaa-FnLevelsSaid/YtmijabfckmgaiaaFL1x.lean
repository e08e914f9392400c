/- Charging: legs, batteries and plans: facts. -/
import Derived.Test.YtmijabfckmgaiaaFL0
import Derived.Test.YtmijabfckmgaiaaC1
namespace Go.Proofs.Ytmijabfckmgaiaa
open Go Go.Am
set_option maxRecDepth 100000
set_option maxHeartbeats 8000000
attribute [local irreducible] amOps amC opCall opIndexAddr opPick retQ opMake opStore amDraw opAppend opLoad opNilCmp opIndex opSlice

theorem legB_0 {xs : List Leg} {l : Leg} (h : xs[0]? = some l) : legB xs 0 = true ↔ ((0 ≤ l.fro ∧ l.fro ≤ 1799) ∧ (0 ≤ l.to ∧ l.to ≤ 1799) ∧ l.fro < l.to ∧ (0 ≤ l.use ∧ l.use ≤ 10000)) := by
  unfold legB
  rw [legAt_of h, show (decide ((0 : Nat) = 0) || decide (0 ≤ brk xs (0 - 1))) = true from rfl]
  simp only [inR, Bool.and_eq_true, decide_eq_true_eq, and_true]
theorem legB_s {xs : List Leg} {l q : Leg} {k : Nat} (h : xs[k + 1]? = some l) (hq : xs[k]? = some q) : legB xs (k + 1) = true ↔ ((0 ≤ l.fro ∧ l.fro ≤ 1799) ∧ (0 ≤ l.to ∧ l.to ≤ 1799) ∧ l.fro < l.to ∧ (0 ≤ l.use ∧ l.use ≤ 10000) ∧ q.to ≤ l.fro) := by
  unfold legB brk
  rw [Nat.add_sub_cancel, legAt_of h, legAt_of hq]
  simp only [inR, Bool.and_eq_true, Bool.or_eq_true, decide_eq_true_eq]
  omega
theorem time_iff (x : Int) : timeOk x = true ↔ (0 ≤ x ∧ x ≤ 1799) := by
  unfold timeOk
  simp only [inR, Bool.and_eq_true, decide_eq_true_eq]
theorem inR_is (x a b : Int) : inR x a b = true ↔ (a ≤ x ∧ x ≤ b) := by
  simp only [inR, Bool.and_eq_true, decide_eq_true_eq]
theorem legsOk_no {xs : List Leg} {i : Nat} (hi : i < xs.length) (h : ¬ legB xs i = true) : legsOk xs = false := by
  unfold legsOk
  rw [legsTo_no hi (by simpa using h), Bool.and_false]

end Go.Proofs.Ytmijabfckmgaiaa

