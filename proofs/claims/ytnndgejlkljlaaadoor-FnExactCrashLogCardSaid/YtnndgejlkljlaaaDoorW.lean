/- The data of the types that these laws take. -/
import Derived.Test.YtnndgejlkljlaaaDoorRows
import Derived.Test.YtnndgejlkljlaaaDoorCL
import Derived.Test.YtnndgejlkljlaaaDoorAmC
namespace Go.Proofs.YtnndgejlkljlaaaDoor
set_option maxRecDepth 100000
open Go Go.Am Go.ChangeShapes Go.WideShapes Go.ChangeAt Go.RowKit Go.Lg

theorem own : ownKnob Tryd.prog.godebug = none := by kernel_rfl
theorem laidOut : laidOutB Tryd.prog = true := by kernel_rfl

theorem wf_i64 {n : Int} (h : (Lit.int .i64 n).wf = true) : i64 n := by
  simpa [Lit.wf, IntKind.min, IntKind.max, IntKind.signed, IntKind.bits, i64] using h

theorem int_of (P : D → Prop) (d : D) (h : WTv Tryd.prog 3 d) (hP : ∀ n : Int, i64 n → P (.int .i64 n)) : P d := by
  have h1 : WTs Tryd.prog 3 [d] := by
    unfold WTv at h
    rw [Tryd.underlying3] at h
    exact h
  obtain ⟨n, e, hn⟩ := wts_int Tryd.underlying3 h1
  simp at e
  subst e
  exact hP n (wf_i64 hn)

theorem bool_of (P : D → Prop) (d : D) (h : WTv Tryd.prog 4 d) (hP : ∀ b : Bool, P (.bool b)) : P d := by
  have h1 : WTs Tryd.prog 4 [d] := by
    unfold WTv at h
    rw [Tryd.underlying4] at h
    exact h
  obtain ⟨n, e⟩ := wts_bool Tryd.underlying4 h1
  simp at e
  subst e
  exact hP n

theorem strl_of (P : D → Prop) (d : D) (h : WTv Tryd.prog 9 d) (hP : ∀ l : List UInt8, l.length ≤ maxLen → P (.str (ofL l))) : P d := by
  have h1 : WTs Tryd.prog 9 [d] := by
    unfold WTv at h
    rw [Tryd.underlying9] at h
    exact h
  obtain ⟨n, e, hn⟩ := wts_str Tryd.underlying9 h1
  simp at e
  subst e
  exact hP n.data.toList hn

theorem logV_of (r : List D) (h : WTs Tryd.prog 23 r) : ∃ v : LogV, v.ok ∧ r = v.enc := by
  obtain ⟨h1, h2⟩ := wts_struct Tryd.underlying23 h
  have hc : Tryd.prog.cellsOf 23 = 3 := by kernel_rfl
  have hi3 : Tryd.prog.cellsOf 3 = 1 := by kernel_rfl
  have hi9 : Tryd.prog.cellsOf 9 = 1 := by kernel_rfl
  rw [hc] at h1
  match r, h1 with
  | [a, b, c], _ =>
    have f0 : WTs Tryd.prog 9 (([a, b, c].drop 0).take (Tryd.prog.cellsOf 9)) := h2 0 _ rfl
    have f1 : WTs Tryd.prog 9 (([a, b, c].drop 1).take (Tryd.prog.cellsOf 9)) := h2 1 _ rfl
    have f2 : WTs Tryd.prog 3 (([a, b, c].drop 2).take (Tryd.prog.cellsOf 3)) := h2 2 _ rfl
    rw [hi3] at f2
    rw [hi9] at f0 f1
    obtain ⟨n0, e0, w0⟩ := wts_str Tryd.underlying9 f0
    obtain ⟨n1, e1, w1⟩ := wts_str Tryd.underlying9 f1
    obtain ⟨n2, e2, w2⟩ := wts_int Tryd.underlying3 f2
    simp at e0 e1 e2
    subst e0 e1 e2
    exact ⟨⟨n0.data.toList, n1.data.toList, n2⟩, ⟨w0, w1, wf_i64 w2⟩, rfl⟩

theorem logVV_of (P : D → Prop) (d : D) (h : WTv Tryd.prog 23 d) (hP : ∀ v : LogV, v.ok → P (.agg v.enc)) : P d := by
  unfold WTv at h
  rw [Tryd.underlying23] at h
  obtain ⟨ds, rfl, hw⟩ := h
  obtain ⟨v, hok, rfl⟩ := logV_of ds hw
  exact hP v hok


end Go.Proofs.YtnndgejlkljlaaaDoor

