/- The data of the types that these laws take. MADE BY PROGRAM (data.py). -/
import Derived.Test.YtbjjhiihoiogoaaRows
import Derived.Test.YtbjjhiihoiogoaaHM
import Derived.Test.YtbjjhiihoiogoaaAmC
namespace Go.Proofs.Ytbjjhiihoiogoaa
set_option maxRecDepth 100000
open Go Go.Am Go.ChangeShapes Go.WideShapes Go.ChangeAt Go.RowKit

theorem own : ownKnob Try.prog.godebug = none := by kernel_rfl
theorem laidOut : laidOutB Try.prog = true := by kernel_rfl

theorem wf_i64 {n : Int} (h : (Lit.int .i64 n).wf = true) : i64 n := by
  simpa [Lit.wf, IntKind.min, IntKind.max, IntKind.signed, IntKind.bits, i64] using h

theorem int_of (P : D → Prop) (d : D) (h : WTv Try.prog 3 d) (hP : ∀ n : Int, i64 n → P (.int .i64 n)) : P d := by
  have h1 : WTs Try.prog 3 [d] := by
    unfold WTv at h
    rw [Try.underlying3] at h
    exact h
  obtain ⟨n, e, hn⟩ := wts_int Try.underlying3 h1
  simp at e
  subst e
  exact hP n (wf_i64 hn)

theorem str_of (P : D → Prop) (d : D) (h : WTv Try.prog 9 d) (hP : ∀ s : ByteArray, s.size ≤ maxLen → P (.str s)) : P d := by
  have h1 : WTs Try.prog 9 [d] := by
    unfold WTv at h
    rw [Try.underlying9] at h
    exact h
  obtain ⟨n, e, hn⟩ := wts_str Try.underlying9 h1
  simp at e
  subst e
  exact hP n hn

theorem bool_of (P : D → Prop) (d : D) (h : WTv Try.prog 4 d) (hP : ∀ b : Bool, P (.bool b)) : P d := by
  have h1 : WTs Try.prog 4 [d] := by
    unfold WTv at h
    rw [Try.underlying4] at h
    exact h
  obtain ⟨n, e⟩ := wts_bool Try.underlying4 h1
  simp at e
  subst e
  exact hP n

theorem intRow_of (r : List D) (h : WTs Try.prog 3 r) : ∃ n : Int, i64 n ∧ r = intRow n := by
  obtain ⟨n, e, hn⟩ := wts_int Try.underlying3 h
  exact ⟨n, wf_i64 hn, e⟩

theorem message_of (r : List D) (h : WTs Try.prog 161 r) : ∃ v : Message, v.ok ∧ r = v.enc := by
  obtain ⟨h1, h2⟩ := wts_struct Try.underlying161 h
  have hc : Try.prog.cellsOf 161 = 6 := by kernel_rfl
  rw [hc] at h1
  match r, h1 with
  | [a0, a1, a2, a3, a4, a5], _ =>
    have c0 : Try.prog.cellsOf 3 = 1 := by kernel_rfl
    have f0 : WTs Try.prog 3 (([a0, a1, a2, a3, a4, a5].drop 0).take (Try.prog.cellsOf 3)) := h2 0 _ rfl
    rw [c0] at f0
    have c1 : Try.prog.cellsOf 9 = 1 := by kernel_rfl
    have f1 : WTs Try.prog 9 (([a0, a1, a2, a3, a4, a5].drop 1).take (Try.prog.cellsOf 9)) := h2 1 _ rfl
    rw [c1] at f1
    have c2 : Try.prog.cellsOf 9 = 1 := by kernel_rfl
    have f2 : WTs Try.prog 9 (([a0, a1, a2, a3, a4, a5].drop 2).take (Try.prog.cellsOf 9)) := h2 2 _ rfl
    rw [c2] at f2
    have c3 : Try.prog.cellsOf 3 = 1 := by kernel_rfl
    have f3 : WTs Try.prog 3 (([a0, a1, a2, a3, a4, a5].drop 3).take (Try.prog.cellsOf 3)) := h2 3 _ rfl
    rw [c3] at f3
    have c4 : Try.prog.cellsOf 3 = 1 := by kernel_rfl
    have f4 : WTs Try.prog 3 (([a0, a1, a2, a3, a4, a5].drop 4).take (Try.prog.cellsOf 3)) := h2 4 _ rfl
    rw [c4] at f4
    have c5 : Try.prog.cellsOf 3 = 1 := by kernel_rfl
    have f5 : WTs Try.prog 3 (([a0, a1, a2, a3, a4, a5].drop 5).take (Try.prog.cellsOf 3)) := h2 5 _ rfl
    rw [c5] at f5
    obtain ⟨n0, e0, w0⟩ := wts_int Try.underlying3 f0
    simp at e0
    subst e0
    obtain ⟨n1, e1, w1⟩ := wts_str Try.underlying9 f1
    simp at e1
    subst e1
    obtain ⟨n2, e2, w2⟩ := wts_str Try.underlying9 f2
    simp at e2
    subst e2
    obtain ⟨n3, e3, w3⟩ := wts_int Try.underlying3 f3
    simp at e3
    subst e3
    obtain ⟨n4, e4, w4⟩ := wts_int Try.underlying3 f4
    simp at e4
    subst e4
    obtain ⟨n5, e5, w5⟩ := wts_int Try.underlying3 f5
    simp at e5
    subst e5
    exact ⟨⟨n0, n1, n2, n3, n4, n5⟩, ⟨wf_i64 w0, w1, w2, wf_i64 w3, wf_i64 w4, wf_i64 w5⟩, rfl⟩

theorem messages_of (P : D → Prop) (d : D) (h : WTv Try.prog 83 d) (hP : ∀ xs : List Message, (∀ v ∈ xs, v.ok) → xs.length ≤ 9223372036854775807 → P (.list (xs.map Message.enc))) : P d := by
  have h1 : WTs Try.prog 83 [d] := by
    unfold WTv at h
    rw [Try.underlying83] at h
    exact h
  obtain ⟨rows, e, hle, hr⟩ := wts_slice Try.underlying83 h1
  simp at e
  subst e
  obtain ⟨xs, rfl, hok⟩ := rows_of message_of hr
  exact hP xs hok (by simpa [maxLen] using hle)

end Go.Proofs.Ytbjjhiihoiogoaa

