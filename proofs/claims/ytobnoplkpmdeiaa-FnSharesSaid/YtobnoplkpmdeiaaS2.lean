/- Visits in range (as for the other rows over visits; names for numbers: conv.py). -/
import Derived.Test.YtobnoplkpmdeiaaS1
namespace Go.Proofs.Ytobnoplkpmdeiaa
open Go Go.Am
set_option maxRecDepth 100000
attribute [local irreducible] amOps amC opCall opIndexAddr opPick retQ opMake opStore amDraw

def Visit.ok (v : Visit) : Prop := i64 v.stop ∧ i64 v.planned ∧ i64 v.actual ∧ i64 v.persons

theorem good_same (v : Visit) (h : v.ok) : vGood1 v = vGood2 v := by
  obtain ⟨h1, h2, h3, h4⟩ := h
  unfold i64 at *
  rw [Bool.eq_iff_iff]
  simp only [vGood1, vGood2, inR, IntKind.wrap_i64, Bool.and_eq_true, decide_eq_true_eq]
  omega

theorem all_same {α : Type} {p q : α → Bool} : ∀ {xs : List α}, (∀ x ∈ xs, p x = q x) → xs.all p = xs.all q
  | [], _ => rfl
  | x :: xs, h => by
    simp only [List.all_cons]
    rw [h x (by simp), all_same (fun y hy => h y (by simp [hy]))]

end Go.Proofs.Ytobnoplkpmdeiaa


