/- The data of the types that these laws take. MADE BY PROGRAM (data.py). -/
import Derived.Test.YteoiohkdhdpkoaaRows
import Derived.Test.YteoiohkdhdpkoaaC3
import Derived.Test.YteoiohkdhdpkoaaAmC
namespace Go.Proofs.Yteoiohkdhdpkoaa
set_option maxRecDepth 100000
open Go Go.Am Go.ChangeShapes Go.WideShapes Go.ChangeAt Go.RowKit

theorem own : ownKnob Try.prog.godebug = none := by kernel_rfl
theorem laidOut : laidOutB Try.prog = true := by kernel_rfl

theorem wf_i64 {n : Int} (h : (Lit.int .i64 n).wf = true) : i64 n := by
  simpa [Lit.wf, IntKind.min, IntKind.max, IntKind.signed, IntKind.bits, i64] using h

theorem int_of (P : D → Prop) (d : D) (h : WTv Try.prog 3 d) (hP : ∀ n : Int, i64 n → P (.int .i64 n)) : P d := by
  have h1 : WTs Try.prog 3 [d] := by
    unfold WTv at h
    rw [Try.underlying3] at h
    exact h
  obtain ⟨n, e, hn⟩ := wts_int Try.underlying3 h1
  simp at e
  subst e
  exact hP n (wf_i64 hn)

theorem str_of (P : D → Prop) (d : D) (h : WTv Try.prog 9 d) (hP : ∀ s : ByteArray, s.size ≤ maxLen → P (.str s)) : P d := by
  have h1 : WTs Try.prog 9 [d] := by
    unfold WTv at h
    rw [Try.underlying9] at h
    exact h
  obtain ⟨n, e, hn⟩ := wts_str Try.underlying9 h1
  simp at e
  subst e
  exact hP n hn

theorem bool_of (P : D → Prop) (d : D) (h : WTv Try.prog 4 d) (hP : ∀ b : Bool, P (.bool b)) : P d := by
  have h1 : WTs Try.prog 4 [d] := by
    unfold WTv at h
    rw [Try.underlying4] at h
    exact h
  obtain ⟨n, e⟩ := wts_bool Try.underlying4 h1
  simp at e
  subst e
  exact hP n

theorem intRow_of (r : List D) (h : WTs Try.prog 3 r) : ∃ n : Int, i64 n ∧ r = intRow n := by
  obtain ⟨n, e, hn⟩ := wts_int Try.underlying3 h
  exact ⟨n, wf_i64 hn, e⟩

theorem byteRow_of (r : List D) (h : WTs Try.prog 5 r) : ∃ n : Int, (0 ≤ n ∧ n ≤ 255) ∧ r = byteRow n := by
  obtain ⟨n, e, hn⟩ := wts_int Try.underlying5 h
  refine ⟨n, ?_, e⟩
  simpa [Lit.wf, IntKind.min, IntKind.max, IntKind.signed, IntKind.bits] using hn

theorem bytes_of (P : D → Prop) (d : D) (h : WTv Try.prog 22 d) (hP : ∀ xs : List Int, areB xs → P (.list (xs.map byteRow))) : P d := by
  have h1 : WTs Try.prog 22 [d] := by
    unfold WTv at h
    rw [Try.underlying22] at h
    exact h
  obtain ⟨rows, e, _, hr⟩ := wts_slice Try.underlying22 h1
  simp at e
  subst e
  obtain ⟨xs, rfl, hok⟩ := rows_of byteRow_of hr
  exact hP xs hok
end Go.Proofs.Yteoiohkdhdpkoaa

