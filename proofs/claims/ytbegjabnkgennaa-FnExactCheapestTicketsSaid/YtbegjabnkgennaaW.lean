/- The data of the types that these laws take. MADE BY PROGRAM (data.py). -/
import Derived.Test.YtbegjabnkgennaaRows
import Derived.Test.YtbegjabnkgennaaN1
import Derived.Test.YtbegjabnkgennaaAmC
namespace Go.Proofs.Ytbegjabnkgennaa
set_option maxRecDepth 100000
open Go Go.Am Go.ChangeShapes Go.WideShapes Go.ChangeAt Go.RowKit

theorem own : ownKnob Try.prog.godebug = none := by kernel_rfl
theorem laidOut : laidOutB Try.prog = true := by kernel_rfl

theorem wf_i64 {n : Int} (h : (Lit.int .i64 n).wf = true) : i64 n := by
  simpa [Lit.wf, IntKind.min, IntKind.max, IntKind.signed, IntKind.bits, i64] using h

theorem int_of (P : D → Prop) (d : D) (h : WTv Try.prog 3 d) (hP : ∀ n : Int, i64 n → P (.int .i64 n)) : P d := by
  have h1 : WTs Try.prog 3 [d] := by
    unfold WTv at h
    rw [Try.underlying3] at h
    exact h
  obtain ⟨n, e, hn⟩ := wts_int Try.underlying3 h1
  simp at e
  subst e
  exact hP n (wf_i64 hn)

theorem str_of (P : D → Prop) (d : D) (h : WTv Try.prog 9 d) (hP : ∀ s : ByteArray, s.size ≤ maxLen → P (.str s)) : P d := by
  have h1 : WTs Try.prog 9 [d] := by
    unfold WTv at h
    rw [Try.underlying9] at h
    exact h
  obtain ⟨n, e, hn⟩ := wts_str Try.underlying9 h1
  simp at e
  subst e
  exact hP n hn

theorem bool_of (P : D → Prop) (d : D) (h : WTv Try.prog 4 d) (hP : ∀ b : Bool, P (.bool b)) : P d := by
  have h1 : WTs Try.prog 4 [d] := by
    unfold WTv at h
    rw [Try.underlying4] at h
    exact h
  obtain ⟨n, e⟩ := wts_bool Try.underlying4 h1
  simp at e
  subst e
  exact hP n

theorem intRow_of (r : List D) (h : WTs Try.prog 3 r) : ∃ n : Int, i64 n ∧ r = intRow n := by
  obtain ⟨n, e, hn⟩ := wts_int Try.underlying3 h
  exact ⟨n, wf_i64 hn, e⟩

theorem prices_of (r : List D) (h : WTs Try.prog 24 r) : ∃ v : Prices, v.ok ∧ r = v.enc := by
  obtain ⟨h1, h2⟩ := wts_struct Try.underlying24 h
  have hc : Try.prog.cellsOf 24 = 3 := by kernel_rfl
  rw [hc] at h1
  match r, h1 with
  | [a0, a1, a2], _ =>
    have c0 : Try.prog.cellsOf 22 = 1 := by kernel_rfl
    have f0 : WTs Try.prog 22 (([a0, a1, a2].drop 0).take (Try.prog.cellsOf 22)) := h2 0 _ rfl
    rw [c0] at f0
    have c1 : Try.prog.cellsOf 3 = 1 := by kernel_rfl
    have f1 : WTs Try.prog 3 (([a0, a1, a2].drop 1).take (Try.prog.cellsOf 3)) := h2 1 _ rfl
    rw [c1] at f1
    have c2 : Try.prog.cellsOf 3 = 1 := by kernel_rfl
    have f2 : WTs Try.prog 3 (([a0, a1, a2].drop 2).take (Try.prog.cellsOf 3)) := h2 2 _ rfl
    rw [c2] at f2
    obtain ⟨r0, e0, l0, q0⟩ := wts_slice Try.underlying22 f0
    obtain ⟨n0, rfl, w0⟩ := rows_of intRow_of q0
    have l0' : n0.length ≤ 9223372036854775807 := by simpa [maxLen] using l0
    simp at e0
    subst e0
    obtain ⟨n1, e1, w1⟩ := wts_int Try.underlying3 f1
    simp at e1
    subst e1
    obtain ⟨n2, e2, w2⟩ := wts_int Try.underlying3 f2
    simp at e2
    subst e2
    exact ⟨⟨n0, n1, n2⟩, ⟨l0', w0, wf_i64 w1, wf_i64 w2⟩, rfl⟩

theorem ride_of (r : List D) (h : WTs Try.prog 51 r) : ∃ v : Ride, v.ok ∧ r = v.enc := by
  obtain ⟨h1, h2⟩ := wts_struct Try.underlying51 h
  have hc : Try.prog.cellsOf 51 = 3 := by kernel_rfl
  rw [hc] at h1
  match r, h1 with
  | [a0, a1, a2], _ =>
    have c0 : Try.prog.cellsOf 3 = 1 := by kernel_rfl
    have f0 : WTs Try.prog 3 (([a0, a1, a2].drop 0).take (Try.prog.cellsOf 3)) := h2 0 _ rfl
    rw [c0] at f0
    have c1 : Try.prog.cellsOf 3 = 1 := by kernel_rfl
    have f1 : WTs Try.prog 3 (([a0, a1, a2].drop 1).take (Try.prog.cellsOf 3)) := h2 1 _ rfl
    rw [c1] at f1
    have c2 : Try.prog.cellsOf 3 = 1 := by kernel_rfl
    have f2 : WTs Try.prog 3 (([a0, a1, a2].drop 2).take (Try.prog.cellsOf 3)) := h2 2 _ rfl
    rw [c2] at f2
    obtain ⟨n0, e0, w0⟩ := wts_int Try.underlying3 f0
    simp at e0
    subst e0
    obtain ⟨n1, e1, w1⟩ := wts_int Try.underlying3 f1
    simp at e1
    subst e1
    obtain ⟨n2, e2, w2⟩ := wts_int Try.underlying3 f2
    simp at e2
    subst e2
    exact ⟨⟨n0, n1, n2⟩, ⟨wf_i64 w0, wf_i64 w1, wf_i64 w2⟩, rfl⟩

theorem pricesV_of (P : D → Prop) (d : D) (h : WTv Try.prog 24 d) (hP : ∀ v : Prices, v.ok → P (.agg v.enc)) : P d := by
  unfold WTv at h
  rw [Try.underlying24] at h
  obtain ⟨ds, rfl, hw⟩ := h
  obtain ⟨v, hok, rfl⟩ := prices_of ds hw
  exact hP v hok

theorem rides_of (P : D → Prop) (d : D) (h : WTv Try.prog 25 d) (hP : ∀ xs : List Ride, (∀ v ∈ xs, v.ok) → xs.length ≤ 9223372036854775807 → P (.list (xs.map Ride.enc))) : P d := by
  have h1 : WTs Try.prog 25 [d] := by
    unfold WTv at h
    rw [Try.underlying25] at h
    exact h
  obtain ⟨rows, e, hle, hr⟩ := wts_slice Try.underlying25 h1
  simp at e
  subst e
  obtain ⟨xs, rfl, hok⟩ := rows_of ride_of hr
  exact hP xs hok (by simpa [maxLen] using hle)

end Go.Proofs.Ytbegjabnkgennaa

