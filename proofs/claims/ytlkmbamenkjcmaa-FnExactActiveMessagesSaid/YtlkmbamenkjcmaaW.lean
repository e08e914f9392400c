/- The data of the types that these laws take. -/
import Derived.Test.YtlkmbamenkjcmaaRows
import Derived.Test.YtlkmbamenkjcmaaM2
import Derived.Test.YtlkmbamenkjcmaaAm29
namespace Go.Proofs.Ytlkmbamenkjcmaa
set_option maxRecDepth 100000
open Go Go.Am Go.ChangeShapes Go.WideShapes Go.ChangeAt Go.RowKit

theorem own : ownKnob Try.prog.godebug = none := by kernel_rfl
theorem laidOut : laidOutB Try.prog = true := by kernel_rfl

theorem wf_i64 {n : Int} (h : (Lit.int .i64 n).wf = true) : i64 n := by
  simpa [Lit.wf, IntKind.min, IntKind.max, IntKind.signed, IntKind.bits, i64] using h

theorem int_of (P : D → Prop) (d : D) (h : WTv Try.prog 3 d) (hP : ∀ n : Int, i64 n → P (.int .i64 n)) : P d := by
  have h1 : WTs Try.prog 3 [d] := by
    unfold WTv at h
    rw [Try.underlying3] at h
    exact h
  obtain ⟨n, e, hn⟩ := wts_int Try.underlying3 h1
  simp at e
  subst e
  exact hP n (wf_i64 hn)

theorem str_of (P : D → Prop) (d : D) (h : WTv Try.prog 9 d) (hP : ∀ s : ByteArray, s.size ≤ maxLen → P (.str s)) : P d := by
  have h1 : WTs Try.prog 9 [d] := by
    unfold WTv at h
    rw [Try.underlying9] at h
    exact h
  obtain ⟨n, e, hn⟩ := wts_str Try.underlying9 h1
  simp at e
  subst e
  exact hP n hn

theorem message_of (r : List D) (h : WTs Try.prog 23 r) : ∃ v : Message, v.ok ∧ r = v.enc := by
  obtain ⟨h1, h2⟩ := wts_struct Try.underlying23 h
  have hc : Try.prog.cellsOf 23 = 6 := by kernel_rfl
  have hi3 : Try.prog.cellsOf 3 = 1 := by kernel_rfl
  have hi9 : Try.prog.cellsOf 9 = 1 := by kernel_rfl
  rw [hc] at h1
  match r, h1 with
  | [a, b, c, d, e, f], _ =>
    have f0 : WTs Try.prog 3 (([a, b, c, d, e, f].drop 0).take (Try.prog.cellsOf 3)) := h2 0 _ rfl
    have f1 : WTs Try.prog 9 (([a, b, c, d, e, f].drop 1).take (Try.prog.cellsOf 9)) := h2 1 _ rfl
    have f2 : WTs Try.prog 9 (([a, b, c, d, e, f].drop 2).take (Try.prog.cellsOf 9)) := h2 2 _ rfl
    have f3 : WTs Try.prog 3 (([a, b, c, d, e, f].drop 3).take (Try.prog.cellsOf 3)) := h2 3 _ rfl
    have f4 : WTs Try.prog 3 (([a, b, c, d, e, f].drop 4).take (Try.prog.cellsOf 3)) := h2 4 _ rfl
    have f5 : WTs Try.prog 3 (([a, b, c, d, e, f].drop 5).take (Try.prog.cellsOf 3)) := h2 5 _ rfl
    rw [hi3] at f0 f3 f4 f5
    rw [hi9] at f1 f2
    obtain ⟨n0, e0, w0⟩ := wts_int Try.underlying3 f0
    obtain ⟨n1, e1, w1⟩ := wts_str Try.underlying9 f1
    obtain ⟨n2, e2, w2⟩ := wts_str Try.underlying9 f2
    obtain ⟨n3, e3, w3⟩ := wts_int Try.underlying3 f3
    obtain ⟨n4, e4, w4⟩ := wts_int Try.underlying3 f4
    obtain ⟨n5, e5, w5⟩ := wts_int Try.underlying3 f5
    simp at e0 e1 e2 e3 e4 e5
    subst e0 e1 e2 e3 e4 e5
    exact ⟨⟨n0, n1, n2, n3, n4, n5⟩, ⟨wf_i64 w0, w1, w2, wf_i64 w3, wf_i64 w4, wf_i64 w5⟩, rfl⟩

theorem messages_of (P : D → Prop) (d : D) (h : WTv Try.prog 40 d) (hP : ∀ xs : List Message, (∀ v ∈ xs, v.ok) → xs.length ≤ 9223372036854775807 → P (.list (xs.map Message.enc))) : P d := by
  have h1 : WTs Try.prog 40 [d] := by
    unfold WTv at h
    rw [Try.underlying40] at h
    exact h
  obtain ⟨rows, e, hle, hr⟩ := wts_slice Try.underlying40 h1
  simp at e
  subst e
  obtain ⟨xs, rfl, hok⟩ := rows_of message_of hr
  exact hP xs hok (by simpa [maxLen] using hle)

theorem messageV_of (P : D → Prop) (d : D) (h : WTv Try.prog 23 d) (hP : ∀ v : Message, v.ok → P (.agg v.enc)) : P d := by
  unfold WTv at h
  rw [Try.underlying23] at h
  obtain ⟨ds, rfl, hw⟩ := h
  obtain ⟨v, hok, rfl⟩ := message_of ds hw
  exact hP v hok

end Go.Proofs.Ytlkmbamenkjcmaa

