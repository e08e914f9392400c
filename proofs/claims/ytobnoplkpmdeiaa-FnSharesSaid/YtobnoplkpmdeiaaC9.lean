/- FnShares: the law walked. -/
import Derived.Test.YtobnoplkpmdeiaaC8
import Derived.Test.YtobnoplkpmdeiaaS10
namespace Go.Proofs.Ytobnoplkpmdeiaa
open Go Go.Am
set_option maxRecDepth 100000
set_option maxHeartbeats 4000000
attribute [local irreducible] amOps amC opCall opIndexAddr opPick retQ opMake opStore amDraw opSlice

theorem sh_le {p t : Int} (h0 : 0 ≤ p) (h1 : p ≤ t) (ht : 0 < t) (h2 : t ≤ 1000000) : 0 ≤ shN true p t ∧ shN true p t ≤ shD true p t := by
  obtain ⟨g, x, y, hg, e1, e2, hx, hy, _, _, q1, q2⟩ := gcd_parts h0 ht (by omega) (by omega)
  unfold shN shD
  rw [if_pos rfl, if_pos rfl, q1, q2]
  refine ⟨hx, ?_⟩
  rw [e1, e2] at h1
  exact Int.le_of_mul_le_mul_left h1 hg

theorem sh_one {t : Int} (ht : 0 < t) (h2 : t ≤ 1000000) : shN true t t = 1 ∧ shD true t t = 1 := by
  have hgt : gcdI t t = t := by unfold gcdI; rw [Nat.gcd_self]; omega
  unfold shN shD
  rw [if_pos rfl, hgt, Int.tdiv_self (by omega)]
  decide

theorem sh_mul {p t w n : Int} (h0 : 0 ≤ p) (h1 : p ≤ t) (ht : 0 < t) (h2 : t ≤ 30) (w0 : 0 ≤ w) (w1 : w ≤ 30) (n0 : 0 < n) (n1 : n ≤ 30) (h : w * t ≤ p * n) :
    IntKind.i64.wrap (shN true w n * shD true p t) ≤ IntKind.i64.wrap (shN true p t * shD true w n) := by
  obtain ⟨g, x, y, hg, e1, e2, hx, hy, x2, y2, q1, q2⟩ := gcd_parts h0 ht (by omega) (by omega)
  obtain ⟨g', x', y', hg', e1', e2', hx', hy', x2', y2', q1', q2'⟩ := gcd_parts w0 n0 (by omega) (by omega)
  unfold shN shD
  rw [if_pos rfl, if_pos rfl, if_pos rfl, if_pos rfl, q1, q2, q1', q2']
  rw [mul_small (by omega) (by omega) (by omega) (by omega), mul_small (by omega) (by omega) (by omega) (by omega)]
  rw [e1, e2, e1', e2'] at h
  have h3 : g' * g * (x' * y) ≤ g' * g * (x * y') := by
    have a1 : g' * x' * (g * y) = g' * g * (x' * y) := by rw [Int.mul_assoc, Int.mul_left_comm x', ← Int.mul_assoc]
    have a2 : g * x * (g' * y') = g' * g * (x * y') := by rw [Int.mul_assoc, Int.mul_left_comm x, ← Int.mul_assoc, Int.mul_comm g]
    rwa [a1, a2] at h
  exact Int.le_of_mul_le_mul_left h3 (Int.mul_pos hg' hg)

theorem pun_at {e l : Int} {L : List Visit} (h : punOk e l L = true) : valid L = true ∧ lim e l = true ∧ L.length ≠ 0 := by
  unfold punOk at h
  simp only [Bool.and_eq_true, Bool.not_eq_true', decide_eq_false_iff_not] at h
  exact ⟨h.1.1, h.1.2, h.2⟩

theorem pun_max {e l : Int} {L : List Visit} (h : punOk e l L = true) : punOk 600 600 L = true := by
  obtain ⟨h1, _, h3⟩ := pun_at h
  unfold punOk
  rw [h1, show lim 600 600 = true from rfl, decide_eq_false h3]
  rfl

theorem pun_facts {e l : Int} {L : List Visit} (hok : ∀ v ∈ L, v.ok) (h : punOk e l L = true) :
    (shN true (pSum one' 600 600 L) L.length = 1 ∧ shD true (pSum one' 600 600 L) L.length = 1) ∧
    (0 ≤ shN true (pSum one' e l L) L.length ∧ shN true (pSum one' e l L) L.length ≤ shD true (pSum one' e l L) L.length) ∧
    IntKind.i64.wrap (wsP e l L * shD true (pSum one' e l L) L.length) ≤ IntKind.i64.wrap (shN true (pSum one' e l L) L.length * wsN e l L) ∧
    (perOk e l L = true → 0 ≤ shN true (pSum Visit.persons e l L) (wSum Visit.persons L) ∧ shN true (pSum Visit.persons e l L) (wSum Visit.persons L) ≤ shD true (pSum Visit.persons e l L) (wSum Visit.persons L)) := by
  obtain ⟨h1, h2, h3⟩ := pun_at h
  obtain ⟨h30, hper⟩ := valid_at h1
  have hS := sums_all (wt := one') (e := e) (l := l) (xs := L) (fun v _ => by simp [one'])
  have hw : wSum one' L = L.length := wSum_one _
  rw [hw] at hS
  have hP := sums_all (e := e) (l := l) hper
  have hb := stops_at h1 h3 0 e l
  have hW := wAt_le (d := 0) (e := e) (l := l) (by omega) h30 8
  refine ⟨?_, sh_le hS.1 hS.2.1 (by omega) (by omega), ?_, ?_⟩
  · rw [all_punctual hok h1]; exact sh_one (by omega) (by omega)
  · unfold wsP wsN
    rw [h]
    exact sh_mul hS.1 hS.2.1 (by omega) (by omega) hW.2.2.1 hW.2.2.2.1 (by have := hW.2.2.2.2.2.2 hb; omega) (by omega) (worst_all h1 h3)
  · intro hp
    have h0 : wSum Visit.persons L ≠ 0 := by
      unfold perOk at hp
      simp only [Bool.and_eq_true, Bool.not_eq_true', decide_eq_false_iff_not] at hp
      exact hp.2
    exact sh_le hP.1 hP.2.1 (by omega) (by omega)

theorem c4 (xs : List Int) (hx : areB xs) : CallOk Try.prog 4 [.imm (.list (xs.map byteRow))] { res := [.imm (.bool true)] } := by
  obtain ⟨L, e, la, hok, hl, he, hla, hd⟩ := drawPunctualShare xs hx
  have hl' : L.length ≤ 1048576 := by omega
  have A := c16 L e la hl'
  have A' := c17 L e la hok hl'
  have B := c16 L 600 600 hl'
  have C := c18 L e la hl'
  have C' := c19 L e la hok hl'
  have D' := c20 L e la hl'
  have D'' := c21 L e la hok hl'
  have hf := fun h => pun_facts (e := e) (l := la) hok h
  have hmax := fun h => pun_max (e := e) (l := la) (L := L) h
  refine callOk_of tyOk Try.func4 rfl rfl (le_of_ble rfl) (le_of_ble rfl) (mutOk_imm rfl _) ?_
  have hb := c14 xs
  cases hbig : decide (65536 < ((xs.map byteRow).length : Int)) with
  | true =>
    rw [hbig] at hb
    repeat' first | refine go_seq ?_ | refine go_region ?_ | refine go_miss rfl rfl rfl ?_ | refine go_undef rfl rfl rfl ?_ | ((first | refine go_op rfl ?_ | refine go_nil ?_ | refine go_hit rfl rfl rfl ?_ | refine go_splitT rfl rfl rfl (fun h => ?_) (fun h => ?_) | refine go_splitF rfl rfl rfl (fun h => ?_) (fun h => ?_) | refine go_pickT rfl ?_ | refine go_pickF rfl ?_ | refine go_pick rfl (fun h => ?_) (fun h => ?_) | refine go_call [] (hb) rfl rfl rfl rfl ?_) <;> conv => whnf) | ((first | refine ⟨by kernel_rfl, ?_⟩ | refine go_ret ?_) <;> conv => whnf) | ((first | refine go_skip ?_) <;> conv => whnf) | refine go_true rfl ?_ | refine go_false rfl ?_ | refine go_cond rfl (fun h => ?_) (fun h => ?_) | refine ⟨rfl, ?_⟩ | ((first | refine ⟨trivial, ?_⟩ | refine ⟨le_of_ble rfl, ?_⟩) <;> conv => whnf) | fail
    all_goals exact ret_imm rfl rfl rfl rfl rfl rfl
  | false =>
  rw [hbig] at hb
  cases hp : punOk e la L with
  | false =>
    rw [hp] at A A'
    generalize shN false (pSum (fun _ => 1) e la L) L.length = a at A A'
    generalize shD false (pSum (fun _ => 1) e la L) L.length = b at A A'
    repeat' first | refine go_seq ?_ | refine go_region ?_ | refine go_miss rfl rfl rfl ?_ | refine go_undef rfl rfl rfl ?_ | ((first | refine go_op rfl ?_ | refine go_nil ?_ | refine go_hit rfl rfl rfl ?_ | refine go_splitT rfl rfl rfl (fun h => ?_) (fun h => ?_) | refine go_splitF rfl rfl rfl (fun h => ?_) (fun h => ?_) | refine go_pickT rfl ?_ | refine go_pickF rfl ?_ | refine go_pick rfl (fun h => ?_) (fun h => ?_) | refine go_call [] (hb) rfl rfl rfl rfl ?_ | refine go_call [] (hd) rfl rfl rfl rfl ?_ | refine go_call [] (A) rfl rfl rfl rfl ?_ | refine go_call [] (A') rfl rfl rfl rfl ?_) <;> conv => whnf) | ((first | refine ⟨by kernel_rfl, ?_⟩ | refine go_ret ?_) <;> conv => whnf) | ((first | refine go_skip ?_) <;> conv => whnf) | refine go_true rfl ?_ | refine go_false rfl ?_ | refine go_cond rfl (fun h => ?_) (fun h => ?_) | refine ⟨rfl, ?_⟩ | ((first | refine ⟨trivial, ?_⟩ | refine ⟨le_of_ble rfl, ?_⟩) <;> conv => whnf) | fail
    all_goals first
      | exact ret_imm rfl rfl rfl rfl rfl rfl
      | (exfalso; simp at h; done)
      | (exfalso; have h' := of_decide_eq_false h; omega)
      | (exfalso; have h' := of_decide_eq_true h; omega)
      | (exfalso; rename_i hq; have h' := of_decide_eq_true hq; omega)
      | (exfalso; rename_i hq; have h' := of_decide_eq_false hq; omega)
      | (exfalso; rename_i hq _; have h' := of_decide_eq_true hq; omega)
      | (exfalso; rename_i hq _; have h' := of_decide_eq_false hq; omega)
      | trace_state
  | true =>
    rw [hmax hp] at B
    obtain ⟨⟨f1, f2⟩, f3, f4, f5⟩ := hf hp
    rw [show (fun _ => 1 : Visit → Int) = one' from rfl] at A A' B
    rw [f1, f2] at B
    rw [hp] at A A' C C'
    generalize shN true (pSum one' e la L) L.length = a at A A' f3 f4
    generalize shD true (pSum one' e la L) L.length = b at A A' f3 f4
    generalize wsP e la L = wp at *
    generalize wsN e la L = wn at *
    generalize wsB e la L = wb at *
    cases hq : perOk e la L with
    | false =>
      rw [hq] at D' D''
      generalize shN false (pSum Visit.persons e la L) (wSum Visit.persons L) = x at *
      generalize shD false (pSum Visit.persons e la L) (wSum Visit.persons L) = y at *
      repeat' first | refine go_seq ?_ | refine go_region ?_ | refine go_miss rfl rfl rfl ?_ | refine go_undef rfl rfl rfl ?_ | ((first | refine go_op rfl ?_ | refine go_nil ?_ | refine go_hit rfl rfl rfl ?_ | refine go_splitT rfl rfl rfl (fun h => ?_) (fun h => ?_) | refine go_splitF rfl rfl rfl (fun h => ?_) (fun h => ?_) | refine go_pickT rfl ?_ | refine go_pickF rfl ?_ | refine go_pick rfl (fun h => ?_) (fun h => ?_) | refine go_call [] (hb) rfl rfl rfl rfl ?_ | refine go_call [] (hd) rfl rfl rfl rfl ?_ | refine go_call [] (A) rfl rfl rfl rfl ?_ | refine go_call [] (A') rfl rfl rfl rfl ?_ | refine go_call [] (B) rfl rfl rfl rfl ?_ | refine go_call [] (C) rfl rfl rfl rfl ?_ | refine go_call [] (C') rfl rfl rfl rfl ?_ | refine go_call [] (D') rfl rfl rfl rfl ?_ | refine go_call [] (D'') rfl rfl rfl rfl ?_) <;> conv => whnf) | ((first | refine ⟨by kernel_rfl, ?_⟩ | refine go_ret ?_) <;> conv => whnf) | ((first | refine go_skip ?_) <;> conv => whnf) | refine go_true rfl ?_ | refine go_false rfl ?_ | refine go_cond rfl (fun h => ?_) (fun h => ?_) | refine ⟨rfl, ?_⟩ | ((first | refine ⟨trivial, ?_⟩ | refine ⟨le_of_ble rfl, ?_⟩) <;> conv => whnf) | fail
      all_goals first
        | exact ret_imm rfl rfl rfl rfl rfl rfl
        | (exfalso; simp at h; done)
        | (exfalso; have h' := of_decide_eq_false h; omega)
        | (exfalso; have h' := of_decide_eq_true h; omega)
        | (exfalso; rename_i hq; have h' := of_decide_eq_true hq; omega)
        | (exfalso; rename_i hq; have h' := of_decide_eq_false hq; omega)
        | (exfalso; rename_i hq _; have h' := of_decide_eq_true hq; omega)
        | (exfalso; rename_i hq _; have h' := of_decide_eq_false hq; omega)
        | trace_state
    | true =>
      rw [hq] at D' D''
      have f6 := f5 hq
      generalize shN true (pSum Visit.persons e la L) (wSum Visit.persons L) = x at *
      generalize shD true (pSum Visit.persons e la L) (wSum Visit.persons L) = y at *
      repeat' first | refine go_seq ?_ | refine go_region ?_ | refine go_miss rfl rfl rfl ?_ | refine go_undef rfl rfl rfl ?_ | ((first | refine go_op rfl ?_ | refine go_nil ?_ | refine go_hit rfl rfl rfl ?_ | refine go_splitT rfl rfl rfl (fun h => ?_) (fun h => ?_) | refine go_splitF rfl rfl rfl (fun h => ?_) (fun h => ?_) | refine go_pickT rfl ?_ | refine go_pickF rfl ?_ | refine go_pick rfl (fun h => ?_) (fun h => ?_) | refine go_call [] (hb) rfl rfl rfl rfl ?_ | refine go_call [] (hd) rfl rfl rfl rfl ?_ | refine go_call [] (A) rfl rfl rfl rfl ?_ | refine go_call [] (A') rfl rfl rfl rfl ?_ | refine go_call [] (B) rfl rfl rfl rfl ?_ | refine go_call [] (C) rfl rfl rfl rfl ?_ | refine go_call [] (C') rfl rfl rfl rfl ?_ | refine go_call [] (D') rfl rfl rfl rfl ?_ | refine go_call [] (D'') rfl rfl rfl rfl ?_) <;> conv => whnf) | ((first | refine ⟨by kernel_rfl, ?_⟩ | refine go_ret ?_) <;> conv => whnf) | ((first | refine go_skip ?_) <;> conv => whnf) | refine go_true rfl ?_ | refine go_false rfl ?_ | refine go_cond rfl (fun h => ?_) (fun h => ?_) | refine ⟨rfl, ?_⟩ | ((first | refine ⟨trivial, ?_⟩ | refine ⟨le_of_ble rfl, ?_⟩) <;> conv => whnf) | fail
      all_goals first
        | exact ret_imm rfl rfl rfl rfl rfl rfl
        | (exfalso; simp at h; done)
        | (exfalso; have h' := of_decide_eq_false h; omega)
        | (exfalso; have h' := of_decide_eq_true h; omega)
        | (exfalso; rename_i hq; have h' := of_decide_eq_true hq; omega)
        | (exfalso; rename_i hq; have h' := of_decide_eq_false hq; omega)
        | (exfalso; rename_i hq _; have h' := of_decide_eq_true hq; omega)
        | (exfalso; rename_i hq _; have h' := of_decide_eq_false hq; omega)
        | (refine ret_imm rfl rfl rfl rfl ?_ rfl; rw [decide_eq_true f6.2])
        | (refine ret_imm rfl rfl rfl rfl ?_ rfl; simp; omega)
        | trace_state
end Go.Proofs.Ytobnoplkpmdeiaa

