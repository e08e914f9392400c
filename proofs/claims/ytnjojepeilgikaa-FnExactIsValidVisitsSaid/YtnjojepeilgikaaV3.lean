/- PROVED: FnExactIsValidVisitsSaid: whatever the visits, the program's IsValidVisits answers as the reference's does, and the visits stay as they were. Conditions: none. -/
import Derived.Test.YtnjojepeilgikaaRows
import Derived.Test.YtnjojepeilgikaaV2
import Derived.Test.YtnjojepeilgikaaAm29
namespace Go.Proofs.Ytnjojepeilgikaa
open Go Go.Am Go.ChangeShapes Go.WideShapes Go.ChangeAt Go.RowKit

theorem own : ownKnob Try.prog.godebug = none := by kernel_rfl
theorem laidOut : laidOutB Try.prog = true := by kernel_rfl

theorem wf_i64 {n : Int} (h : (Lit.int .i64 n).wf = true) : i64 n := by
  simpa [Lit.wf, IntKind.min, IntKind.max, IntKind.signed, IntKind.bits, i64] using h

theorem visit_of (r : List D) (h : WTs Try.prog 51 r) : ∃ v : Visit, v.ok ∧ r = v.enc := by
  obtain ⟨h1, h2⟩ := wts_struct Try.underlying51 h
  have hc : Try.prog.cellsOf 51 = 4 := by kernel_rfl
  have hi : Try.prog.cellsOf 3 = 1 := by kernel_rfl
  rw [hc] at h1
  match r, h1 with
  | [a, b, c, d], _ =>
    have f0 : WTs Try.prog 3 (([a, b, c, d].drop 0).take (Try.prog.cellsOf 3)) := h2 0 _ rfl
    have f1 : WTs Try.prog 3 (([a, b, c, d].drop 1).take (Try.prog.cellsOf 3)) := h2 1 _ rfl
    have f2 : WTs Try.prog 3 (([a, b, c, d].drop 2).take (Try.prog.cellsOf 3)) := h2 2 _ rfl
    have f3 : WTs Try.prog 3 (([a, b, c, d].drop 3).take (Try.prog.cellsOf 3)) := h2 3 _ rfl
    rw [hi] at f0 f1 f2 f3
    obtain ⟨n0, e0, w0⟩ := wts_int Try.underlying3 f0
    obtain ⟨n1, e1, w1⟩ := wts_int Try.underlying3 f1
    obtain ⟨n2, e2, w2⟩ := wts_int Try.underlying3 f2
    obtain ⟨n3, e3, w3⟩ := wts_int Try.underlying3 f3
    simp at e0 e1 e2 e3
    subst e0 e1 e2 e3
    exact ⟨⟨n0, n1, n2, n3⟩, ⟨wf_i64 w0, wf_i64 w1, wf_i64 w2, wf_i64 w3⟩, rfl⟩

theorem call3 (dds : List D) (hl : dds.length = 1) (h : ∀ (j : Nat) t dd, [22][j]? = some t → dds[j]? = some dd → WTv Try.prog t dd) : CallOk Try.prog 3 (dds.map .imm) { res := [.imm (.bool true)] } := by
  match dds, hl with
  | [d], _ =>
    have h0 := h 0 22 d rfl rfl
    have h1 : WTs Try.prog 22 [d] := by
      unfold WTv at h0
      rw [Try.underlying22] at h0
      exact h0
    obtain ⟨rows, e, hle, hr⟩ := wts_slice Try.underlying22 h1
    simp at e
    subst e
    obtain ⟨xs, rfl, hok⟩ := rows_of visit_of hr
    exact c3 xs hok (by simpa [maxLen] using hle)

set_option maxRecDepth 100000 in
theorem lifted (os : Os) (started : os.Started) (H : Type) (enc : TypeId × Value → H) :
    ReturnsInHanded {} Try.checked os 3 .any (Rows.fnExactIsValidVisitsSpec.pre6 enc Try.prog Try.f3 Rows.fnExactIsValidVisitsRow.domain false) (Rows.fnExactIsValidVisitsSpec.post enc Try.prog Try.f3 false true false false) := by
  refine returnsInHanded_of_change (C := Try.checked) own started (by kernel_rfl) Try.func3
    (ChangeSpec.witness6 (enc := enc) (C := Try.checked) false ⟨#[], #[.slice none 0 0], []⟩ 8 (by kernel_rfl) (by kernel_rfl) (by kernel_rfl) (by kernel_rfl)) ?_
  intro W base args ds gs before hval hW _ _
  exact law_step (f := Try.f3) (ts := [22]) (tb := 4) rfl rfl Try.underlying4 rfl (fun ds hds => by
    match ds, hds with
    | [d], _ => rfl) laidOut (by kernel_rfl) call3 hval hW

theorem proved : Rows.FnExactIsValidVisitsSaid :=
  OpenClaim.holds_of_wide 3 Try.f3 rfl rfl rfl rfl rfl rfl rfl ⟨rfl, rfl, rfl, rfl, rfl⟩ rfl rfl rfl rfl rfl (by kernel_rfl) Try.func3 (by kernel_rfl)
    (of_decide_eq_true (by kernel_rfl)) (by unfold Func.isWrapper; first | (rw [if_pos (by decide +kernel)]; kernel_rfl) | (rw [if_neg (by decide +kernel)]; exact ⟨rfl, rfl⟩))
    (fun os started H enc _ => lifted os started H enc)

#print axioms proved
end Go.Proofs.Ytnjojepeilgikaa

