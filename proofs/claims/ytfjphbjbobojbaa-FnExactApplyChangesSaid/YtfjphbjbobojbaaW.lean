/- The data of the types that these laws take. MADE BY PROGRAM (data.py). -/
import Derived.Test.YtfjphbjbobojbaaRows
import Derived.Test.YtfjphbjbobojbaaN10
import Derived.Test.YtfjphbjbobojbaaAmC
namespace Go.Proofs.Ytfjphbjbobojbaa
set_option maxRecDepth 100000
open Go Go.Am Go.ChangeShapes Go.WideShapes Go.ChangeAt Go.RowKit

theorem own : ownKnob Try.prog.godebug = none := by kernel_rfl
theorem laidOut : laidOutB Try.prog = true := by kernel_rfl

theorem wf_i64 {n : Int} (h : (Lit.int .i64 n).wf = true) : i64 n := by
  simpa [Lit.wf, IntKind.min, IntKind.max, IntKind.signed, IntKind.bits, i64] using h

theorem intRow_of (r : List D) (h : WTs Try.prog 3 r) : ∃ n : Int, i64 n ∧ r = intRow n := by
  obtain ⟨n, e, hn⟩ := wts_int Try.underlying3 h
  exact ⟨n, wf_i64 hn, e⟩

theorem line_of (r : List D) (h : WTs Try.prog 86 r) : ∃ v : Line, v.ok ∧ r = v.enc := by
  obtain ⟨h1, h2⟩ := wts_struct Try.underlying86 h
  have hc : Try.prog.cellsOf 86 = 3 := by kernel_rfl
  rw [hc] at h1
  match r, h1 with
  | [a0, a1, a2], _ =>
    have c0 : Try.prog.cellsOf 9 = 1 := by kernel_rfl
    have f0 : WTs Try.prog 9 (([a0, a1, a2].drop 0).take (Try.prog.cellsOf 9)) := h2 0 _ rfl
    rw [c0] at f0
    have c1 : Try.prog.cellsOf 84 = 1 := by kernel_rfl
    have f1 : WTs Try.prog 84 (([a0, a1, a2].drop 1).take (Try.prog.cellsOf 84)) := h2 1 _ rfl
    rw [c1] at f1
    have c2 : Try.prog.cellsOf 84 = 1 := by kernel_rfl
    have f2 : WTs Try.prog 84 (([a0, a1, a2].drop 2).take (Try.prog.cellsOf 84)) := h2 2 _ rfl
    rw [c2] at f2
    obtain ⟨n0, e0, w0⟩ := wts_str Try.underlying9 f0
    simp at e0
    subst e0
    obtain ⟨r1, e1, l1, q1⟩ := wts_slice Try.underlying84 f1
    obtain ⟨n1, rfl, w1⟩ := rows_of intRow_of q1
    have l1' : n1.length ≤ 9223372036854775807 := by simpa [maxLen] using l1
    simp at e1
    subst e1
    obtain ⟨r2, e2, l2, q2⟩ := wts_slice Try.underlying84 f2
    obtain ⟨n2, rfl, w2⟩ := rows_of intRow_of q2
    have l2' : n2.length ≤ 9223372036854775807 := by simpa [maxLen] using l2
    simp at e2
    subst e2
    exact ⟨⟨n0, n1, n2⟩, ⟨w0, l1', w1, l2', w2⟩, rfl⟩

theorem strRow_of (r : List D) (h : WTs Try.prog 9 r) : ∃ s : ByteArray, s.size ≤ maxLen ∧ r = strRow s := by
  obtain ⟨n, e, hn⟩ := wts_str Try.underlying9 h
  exact ⟨n, hn, e⟩

theorem network_of (r : List D) (h : WTs Try.prog 25 r) : ∃ v : Network, v.ok ∧ r = v.enc := by
  obtain ⟨h1, h2⟩ := wts_struct Try.underlying25 h
  have hc : Try.prog.cellsOf 25 = 2 := by kernel_rfl
  rw [hc] at h1
  match r, h1 with
  | [a0, a1], _ =>
    have c0 : Try.prog.cellsOf 22 = 1 := by kernel_rfl
    have f0 : WTs Try.prog 22 (([a0, a1].drop 0).take (Try.prog.cellsOf 22)) := h2 0 _ rfl
    rw [c0] at f0
    have c1 : Try.prog.cellsOf 23 = 1 := by kernel_rfl
    have f1 : WTs Try.prog 23 (([a0, a1].drop 1).take (Try.prog.cellsOf 23)) := h2 1 _ rfl
    rw [c1] at f1
    obtain ⟨r0, e0, l0, q0⟩ := wts_slice Try.underlying22 f0
    obtain ⟨n0, rfl, w0⟩ := rows_of strRow_of q0
    have l0' : n0.length ≤ 9223372036854775807 := by simpa [maxLen] using l0
    simp at e0
    subst e0
    obtain ⟨r1, e1, l1, q1⟩ := wts_slice Try.underlying23 f1
    obtain ⟨n1, rfl, w1⟩ := rows_of line_of q1
    have l1' : n1.length ≤ 9223372036854775807 := by simpa [maxLen] using l1
    simp at e1
    subst e1
    exact ⟨⟨n0, n1⟩, ⟨l0', w0, l1', w1⟩, rfl⟩

theorem trip_of (r : List D) (h : WTs Try.prog 58 r) : ∃ v : Trip, v.ok ∧ r = v.enc := by
  obtain ⟨h1, h2⟩ := wts_struct Try.underlying58 h
  have hc : Try.prog.cellsOf 58 = 3 := by kernel_rfl
  rw [hc] at h1
  match r, h1 with
  | [a0, a1, a2], _ =>
    have c0 : Try.prog.cellsOf 3 = 1 := by kernel_rfl
    have f0 : WTs Try.prog 3 (([a0, a1, a2].drop 0).take (Try.prog.cellsOf 3)) := h2 0 _ rfl
    rw [c0] at f0
    have c1 : Try.prog.cellsOf 3 = 1 := by kernel_rfl
    have f1 : WTs Try.prog 3 (([a0, a1, a2].drop 1).take (Try.prog.cellsOf 3)) := h2 1 _ rfl
    rw [c1] at f1
    have c2 : Try.prog.cellsOf 3 = 1 := by kernel_rfl
    have f2 : WTs Try.prog 3 (([a0, a1, a2].drop 2).take (Try.prog.cellsOf 3)) := h2 2 _ rfl
    rw [c2] at f2
    obtain ⟨n0, e0, w0⟩ := wts_int Try.underlying3 f0
    simp at e0
    subst e0
    obtain ⟨n1, e1, w1⟩ := wts_int Try.underlying3 f1
    simp at e1
    subst e1
    obtain ⟨n2, e2, w2⟩ := wts_int Try.underlying3 f2
    simp at e2
    subst e2
    exact ⟨⟨n0, n1, n2⟩, ⟨wf_i64 w0, wf_i64 w1, wf_i64 w2⟩, rfl⟩

theorem timetable_of (r : List D) (h : WTs Try.prog 28 r) : ∃ v : Timetable, v.ok ∧ r = v.enc := by
  obtain ⟨h1, h2⟩ := wts_struct Try.underlying28 h
  have hc : Try.prog.cellsOf 28 = 3 := by kernel_rfl
  rw [hc] at h1
  match r, h1 with
  | [a0, a1, a2], _ =>
    have c0 : Try.prog.cellsOf 25 = 2 := by kernel_rfl
    have f0 : WTs Try.prog 25 (([a0, a1, a2].drop 0).take (Try.prog.cellsOf 25)) := h2 0 _ rfl
    rw [c0] at f0
    obtain ⟨n0, w0, e0⟩ := network_of _ f0
    have e0' : [a0, a1, a2] = n0.enc ++ [a0, a1, a2].drop 2 := by rw [← e0]; rfl
    rw [e0']
    have c1 : Try.prog.cellsOf 26 = 1 := by kernel_rfl
    have f1 : WTs Try.prog 26 (([a0, a1, a2].drop 2).take (Try.prog.cellsOf 26)) := h2 1 _ rfl
    rw [c1] at f1
    obtain ⟨r1, e1, l1, q1⟩ := wts_slice Try.underlying26 f1
    obtain ⟨n1, rfl, w1⟩ := rows_of trip_of q1
    have l1' : n1.length ≤ 9223372036854775807 := by simpa [maxLen] using l1
    simp at e1
    subst e1
    exact ⟨⟨n0, n1⟩, ⟨w0, l1', w1⟩, rfl⟩

theorem change_of (r : List D) (h : WTs Try.prog 60 r) : ∃ v : Change, v.ok ∧ r = v.enc := by
  obtain ⟨h1, h2⟩ := wts_struct Try.underlying60 h
  have hc : Try.prog.cellsOf 60 = 5 := by kernel_rfl
  rw [hc] at h1
  match r, h1 with
  | [a0, a1, a2, a3, a4], _ =>
    have c0 : Try.prog.cellsOf 3 = 1 := by kernel_rfl
    have f0 : WTs Try.prog 3 (([a0, a1, a2, a3, a4].drop 0).take (Try.prog.cellsOf 3)) := h2 0 _ rfl
    rw [c0] at f0
    have c1 : Try.prog.cellsOf 58 = 3 := by kernel_rfl
    have f1 : WTs Try.prog 58 (([a0, a1, a2, a3, a4].drop 1).take (Try.prog.cellsOf 58)) := h2 1 _ rfl
    rw [c1] at f1
    obtain ⟨n1, w1, e1⟩ := trip_of _ f1
    simp only [List.drop_succ_cons, List.drop_zero, List.take_succ_cons, List.take_zero] at e1
    have c2 : Try.prog.cellsOf 3 = 1 := by kernel_rfl
    have f2 : WTs Try.prog 3 (([a0, a1, a2, a3, a4].drop 4).take (Try.prog.cellsOf 3)) := h2 2 _ rfl
    rw [c2] at f2
    obtain ⟨n0, e0, w0⟩ := wts_int Try.underlying3 f0
    simp at e0
    subst e0
    obtain ⟨n2, e2, w2⟩ := wts_int Try.underlying3 f2
    simp at e2
    subst e2
    refine ⟨⟨n0, n1, n2⟩, ⟨wf_i64 w0, w1, wf_i64 w2⟩, ?_⟩
    show _ = D.int .i64 n0 :: (n1.enc ++ [D.int .i64 n2])
    rw [← e1]
    rfl

theorem timetableV_of (P : D → Prop) (d : D) (h : WTv Try.prog 28 d) (hP : ∀ v : Timetable, v.ok → P (.agg v.enc)) : P d := by
  unfold WTv at h
  rw [Try.underlying28] at h
  obtain ⟨ds, rfl, hw⟩ := h
  obtain ⟨v, hok, rfl⟩ := timetable_of ds hw
  exact hP v hok

theorem changes_of (P : D → Prop) (d : D) (h : WTv Try.prog 29 d) (hP : ∀ xs : List Change, (∀ v ∈ xs, v.ok) → xs.length ≤ 9223372036854775807 → P (.list (xs.map Change.enc))) : P d := by
  have h1 : WTs Try.prog 29 [d] := by
    unfold WTv at h
    rw [Try.underlying29] at h
    exact h
  obtain ⟨rows, e, hle, hr⟩ := wts_slice Try.underlying29 h1
  simp at e
  subst e
  obtain ⟨xs, rfl, hok⟩ := rows_of change_of hr
  exact hP xs hok (by simpa [maxLen] using hle)

end Go.Proofs.Ytfjphbjbobojbaa

