/- The data of the types that these laws take. -/
import Derived.Test.YtjebblagiiajaaaRows
import Derived.Test.YtjebblagiiajaaaG3
import Derived.Test.YtjebblagiiajaaaAm29
namespace Go.Proofs.Ytjebblagiiajaaa
set_option maxRecDepth 100000
open Go Go.Am Go.ChangeShapes Go.WideShapes Go.ChangeAt Go.RowKit Go.Lg

theorem own : ownKnob Try.prog.godebug = none := by kernel_rfl
theorem laidOut : laidOutB Try.prog = true := by kernel_rfl

theorem wf_i64 {n : Int} (h : (Lit.int .i64 n).wf = true) : i64 n := by
  simpa [Lit.wf, IntKind.min, IntKind.max, IntKind.signed, IntKind.bits, i64] using h

theorem int_of (P : D → Prop) (d : D) (h : WTv Try.prog 3 d) (hP : ∀ n : Int, i64 n → P (.int .i64 n)) : P d := by
  have h1 : WTs Try.prog 3 [d] := by
    unfold WTv at h
    rw [Try.underlying3] at h
    exact h
  obtain ⟨n, e, hn⟩ := wts_int Try.underlying3 h1
  simp at e
  subst e
  exact hP n (wf_i64 hn)

theorem bool_of (P : D → Prop) (d : D) (h : WTv Try.prog 4 d) (hP : ∀ b : Bool, P (.bool b)) : P d := by
  have h1 : WTs Try.prog 4 [d] := by
    unfold WTv at h
    rw [Try.underlying4] at h
    exact h
  obtain ⟨n, e⟩ := wts_bool Try.underlying4 h1
  simp at e
  subst e
  exact hP n

theorem strl_of (P : D → Prop) (d : D) (h : WTv Try.prog 9 d) (hP : ∀ l : List UInt8, l.length ≤ maxLen → P (.str (ofL l))) : P d := by
  have h1 : WTs Try.prog 9 [d] := by
    unfold WTv at h
    rw [Try.underlying9] at h
    exact h
  obtain ⟨n, e, hn⟩ := wts_str Try.underlying9 h1
  simp at e
  subst e
  exact hP n.data.toList hn

theorem rec_of (r : List D) (h : WTs Try.prog 23 r) : ∃ v : Rec, v.ok ∧ r = v.enc := by
  obtain ⟨h1, h2⟩ := wts_struct Try.underlying23 h
  have hc : Try.prog.cellsOf 23 = 2 := by kernel_rfl
  have hi9 : Try.prog.cellsOf 9 = 1 := by kernel_rfl
  rw [hc] at h1
  match r, h1 with
  | [a, b], _ =>
    have f0 : WTs Try.prog 9 (([a, b].drop 0).take (Try.prog.cellsOf 9)) := h2 0 _ rfl
    have f1 : WTs Try.prog 9 (([a, b].drop 1).take (Try.prog.cellsOf 9)) := h2 1 _ rfl
    rw [hi9] at f0 f1
    obtain ⟨n0, e0, w0⟩ := wts_str Try.underlying9 f0
    obtain ⟨n1, e1, w1⟩ := wts_str Try.underlying9 f1
    simp at e0 e1
    subst e0 e1
    exact ⟨⟨n0.data.toList, n1.data.toList⟩, ⟨w0, w1⟩, rfl⟩

theorem recV_of (P : D → Prop) (d : D) (h : WTv Try.prog 23 d) (hP : ∀ v : Rec, v.ok → P (.agg v.enc)) : P d := by
  unfold WTv at h
  rw [Try.underlying23] at h
  obtain ⟨ds, rfl, hw⟩ := h
  obtain ⟨v, hok, rfl⟩ := rec_of ds hw
  exact hP v hok


end Go.Proofs.Ytjebblagiiajaaa

