/- The data of the types that the laws of punctuality take. -/
import Derived.Test.YtnjojepeilgikaaRows
import Derived.Test.YtnjojepeilgikaaV2
import Derived.Test.YtnjojepeilgikaaAm29
namespace Go.Proofs.Ytnjojepeilgikaa
open Go Go.Am Go.ChangeShapes Go.WideShapes Go.ChangeAt Go.RowKit

theorem own : ownKnob Try.prog.godebug = none := by kernel_rfl
theorem laidOut : laidOutB Try.prog = true := by kernel_rfl

theorem wf_i64 {n : Int} (h : (Lit.int .i64 n).wf = true) : i64 n := by
  simpa [Lit.wf, IntKind.min, IntKind.max, IntKind.signed, IntKind.bits, i64] using h

theorem visit_of (r : List D) (h : WTs Try.prog 51 r) : ∃ v : Visit, v.ok ∧ r = v.enc := by
  obtain ⟨h1, h2⟩ := wts_struct Try.underlying51 h
  have hc : Try.prog.cellsOf 51 = 4 := by kernel_rfl
  have hi : Try.prog.cellsOf 3 = 1 := by kernel_rfl
  rw [hc] at h1
  match r, h1 with
  | [a, b, c, d], _ =>
    have f0 : WTs Try.prog 3 (([a, b, c, d].drop 0).take (Try.prog.cellsOf 3)) := h2 0 _ rfl
    have f1 : WTs Try.prog 3 (([a, b, c, d].drop 1).take (Try.prog.cellsOf 3)) := h2 1 _ rfl
    have f2 : WTs Try.prog 3 (([a, b, c, d].drop 2).take (Try.prog.cellsOf 3)) := h2 2 _ rfl
    have f3 : WTs Try.prog 3 (([a, b, c, d].drop 3).take (Try.prog.cellsOf 3)) := h2 3 _ rfl
    rw [hi] at f0 f1 f2 f3
    obtain ⟨n0, e0, w0⟩ := wts_int Try.underlying3 f0
    obtain ⟨n1, e1, w1⟩ := wts_int Try.underlying3 f1
    obtain ⟨n2, e2, w2⟩ := wts_int Try.underlying3 f2
    obtain ⟨n3, e3, w3⟩ := wts_int Try.underlying3 f3
    simp at e0 e1 e2 e3
    subst e0 e1 e2 e3
    exact ⟨⟨n0, n1, n2, n3⟩, ⟨wf_i64 w0, wf_i64 w1, wf_i64 w2, wf_i64 w3⟩, rfl⟩

theorem visits_of (P : D → Prop) (d : D) (h : WTv Try.prog 22 d) (hP : ∀ xs : List Visit, (∀ v ∈ xs, v.ok) → xs.length ≤ 9223372036854775807 → P (.list (xs.map Visit.enc))) : P d := by
  have h1 : WTs Try.prog 22 [d] := by
    unfold WTv at h
    rw [Try.underlying22] at h
    exact h
  obtain ⟨rows, e, hle, hr⟩ := wts_slice Try.underlying22 h1
  simp at e
  subst e
  obtain ⟨xs, rfl, hok⟩ := rows_of visit_of hr
  exact hP xs hok (by simpa [maxLen] using hle)

theorem int_of (P : D → Prop) (d : D) (h : WTv Try.prog 3 d) (hP : ∀ n : Int, i64 n → P (.int .i64 n)) : P d := by
  have h1 : WTs Try.prog 3 [d] := by
    unfold WTv at h
    rw [Try.underlying3] at h
    exact h
  obtain ⟨n, e, hn⟩ := wts_int Try.underlying3 h1
  simp at e
  subst e
  exact hP n (wf_i64 hn)

end Go.Proofs.Ytnjojepeilgikaa

