/- The data of the types that these laws take. MADE BY PROGRAM (data.py). -/
import Derived.Test.YtphoamcbapfbkaaDoorRows
import Derived.Test.YtphoamcbapfbkaaDoorK5
import Derived.Test.YtphoamcbapfbkaaDoorAmC
namespace Go.Proofs.YtphoamcbapfbkaaDoor
set_option maxRecDepth 100000
open Go Go.Am Go.ChangeShapes Go.WideShapes Go.ChangeAt Go.RowKit

theorem own : ownKnob Tryd.prog.godebug = none := by kernel_rfl
theorem laidOut : laidOutB Tryd.prog = true := by kernel_rfl

theorem wf_i64 {n : Int} (h : (Lit.int .i64 n).wf = true) : i64 n := by
  simpa [Lit.wf, IntKind.min, IntKind.max, IntKind.signed, IntKind.bits, i64] using h

theorem int_of (P : D → Prop) (d : D) (h : WTv Tryd.prog 3 d) (hP : ∀ n : Int, i64 n → P (.int .i64 n)) : P d := by
  have h1 : WTs Tryd.prog 3 [d] := by
    unfold WTv at h
    rw [Tryd.underlying3] at h
    exact h
  obtain ⟨n, e, hn⟩ := wts_int Tryd.underlying3 h1
  simp at e
  subst e
  exact hP n (wf_i64 hn)

theorem str_of (P : D → Prop) (d : D) (h : WTv Tryd.prog 9 d) (hP : ∀ s : ByteArray, s.size ≤ maxLen → P (.str s)) : P d := by
  have h1 : WTs Tryd.prog 9 [d] := by
    unfold WTv at h
    rw [Tryd.underlying9] at h
    exact h
  obtain ⟨n, e, hn⟩ := wts_str Tryd.underlying9 h1
  simp at e
  subst e
  exact hP n hn

theorem bool_of (P : D → Prop) (d : D) (h : WTv Tryd.prog 4 d) (hP : ∀ b : Bool, P (.bool b)) : P d := by
  have h1 : WTs Tryd.prog 4 [d] := by
    unfold WTv at h
    rw [Tryd.underlying4] at h
    exact h
  obtain ⟨n, e⟩ := wts_bool Tryd.underlying4 h1
  simp at e
  subst e
  exact hP n

theorem intRow_of (r : List D) (h : WTs Tryd.prog 3 r) : ∃ n : Int, i64 n ∧ r = intRow n := by
  obtain ⟨n, e, hn⟩ := wts_int Tryd.underlying3 h
  exact ⟨n, wf_i64 hn, e⟩

theorem boardRow_of (r : List D) (h : WTs Tryd.prog 23 r) : ∃ v : BoardRow, v.ok ∧ r = v.enc := by
  obtain ⟨h1, h2⟩ := wts_struct Tryd.underlying23 h
  have hc : Tryd.prog.cellsOf 23 = 4 := by kernel_rfl
  rw [hc] at h1
  match r, h1 with
  | [a0, a1, a2, a3], _ =>
    have c0 : Tryd.prog.cellsOf 3 = 1 := by kernel_rfl
    have f0 : WTs Tryd.prog 3 (([a0, a1, a2, a3].drop 0).take (Tryd.prog.cellsOf 3)) := h2 0 _ rfl
    rw [c0] at f0
    have c1 : Tryd.prog.cellsOf 3 = 1 := by kernel_rfl
    have f1 : WTs Tryd.prog 3 (([a0, a1, a2, a3].drop 1).take (Tryd.prog.cellsOf 3)) := h2 1 _ rfl
    rw [c1] at f1
    have c2 : Tryd.prog.cellsOf 9 = 1 := by kernel_rfl
    have f2 : WTs Tryd.prog 9 (([a0, a1, a2, a3].drop 2).take (Tryd.prog.cellsOf 9)) := h2 2 _ rfl
    rw [c2] at f2
    have c3 : Tryd.prog.cellsOf 9 = 1 := by kernel_rfl
    have f3 : WTs Tryd.prog 9 (([a0, a1, a2, a3].drop 3).take (Tryd.prog.cellsOf 9)) := h2 3 _ rfl
    rw [c3] at f3
    obtain ⟨n0, e0, w0⟩ := wts_int Tryd.underlying3 f0
    simp at e0
    subst e0
    obtain ⟨n1, e1, w1⟩ := wts_int Tryd.underlying3 f1
    simp at e1
    subst e1
    obtain ⟨n2, e2, w2⟩ := wts_str Tryd.underlying9 f2
    simp at e2
    subst e2
    obtain ⟨n3, e3, w3⟩ := wts_str Tryd.underlying9 f3
    simp at e3
    subst e3
    exact ⟨⟨n0, n1, n2, n3⟩, ⟨wf_i64 w0, wf_i64 w1, w2, w3⟩, rfl⟩

theorem boardRowV_of (P : D → Prop) (d : D) (h : WTv Tryd.prog 23 d) (hP : ∀ v : BoardRow, v.ok → P (.agg v.enc)) : P d := by
  unfold WTv at h
  rw [Tryd.underlying23] at h
  obtain ⟨ds, rfl, hw⟩ := h
  obtain ⟨v, hok, rfl⟩ := boardRow_of ds hw
  exact hP v hok

end Go.Proofs.YtphoamcbapfbkaaDoor

