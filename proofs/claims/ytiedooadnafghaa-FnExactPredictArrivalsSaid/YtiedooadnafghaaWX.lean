/- A datum of the type Match, opened. MADE BY PROGRAM (data.py). -/
import Derived.Test.YtiedooadnafghaaW
import Derived.Test.YtiedooadnafghaaE3
namespace Go.Proofs.Ytiedooadnafghaa
set_option maxRecDepth 100000
open Go Go.Am Go.ChangeShapes Go.WideShapes Go.ChangeAt Go.RowKit

theorem match_of (r : List D) (h : WTs Try.prog 46 r) : ∃ v : Match, v.ok ∧ r = v.enc := by
  obtain ⟨h1, h2⟩ := wts_struct Try.underlying46 h
  have hc : Try.prog.cellsOf 46 = 3 := by kernel_rfl
  rw [hc] at h1
  match r, h1 with
  | [a0, a1, a2], _ =>
    have c0 : Try.prog.cellsOf 3 = 1 := by kernel_rfl
    have f0 : WTs Try.prog 3 (([a0, a1, a2].drop 0).take (Try.prog.cellsOf 3)) := h2 0 _ rfl
    rw [c0] at f0
    have c1 : Try.prog.cellsOf 3 = 1 := by kernel_rfl
    have f1 : WTs Try.prog 3 (([a0, a1, a2].drop 1).take (Try.prog.cellsOf 3)) := h2 1 _ rfl
    rw [c1] at f1
    have c2 : Try.prog.cellsOf 3 = 1 := by kernel_rfl
    have f2 : WTs Try.prog 3 (([a0, a1, a2].drop 2).take (Try.prog.cellsOf 3)) := h2 2 _ rfl
    rw [c2] at f2
    obtain ⟨n0, e0, w0⟩ := wts_int Try.underlying3 f0
    simp at e0
    subst e0
    obtain ⟨n1, e1, w1⟩ := wts_int Try.underlying3 f1
    simp at e1
    subst e1
    obtain ⟨n2, e2, w2⟩ := wts_int Try.underlying3 f2
    simp at e2
    subst e2
    exact ⟨⟨n0, n1, n2⟩, ⟨wf_i64 w0, wf_i64 w1, wf_i64 w2⟩, rfl⟩

theorem matchV_of (P : D → Prop) (d : D) (h : WTv Try.prog 46 d) (hP : ∀ v : Match, v.ok → P (.agg v.enc)) : P d := by
  unfold WTv at h
  rw [Try.underlying46] at h
  obtain ⟨ds, rfl, hw⟩ := h
  obtain ⟨v, hok, rfl⟩ := match_of ds hw
  exact hP v hok

end Go.Proofs.Ytiedooadnafghaa

