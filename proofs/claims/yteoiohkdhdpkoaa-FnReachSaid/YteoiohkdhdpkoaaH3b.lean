/- Lines told by their blocks, opened. -/
import Derived.Test.YteoiohkdhdpkoaaH3
namespace Go.Proofs.Yteoiohkdhdpkoaa
open Go Go.Am

theorem lines_open {ls : List Line} {v : Value} {w : World} {F : Nat → Prop} (h : ExtAt (LinesI ls v) w F) :
    ∃ (x : { q : List (Cell × Cell) // ZOk ls q }) (F0 F1 : Nat → Prop), (∀ b, F0 b ∨ F1 b → F b) ∧ (∀ b, ¬ (F0 b ∧ F1 b)) ∧ ExtAt (FlatI 44 3 (lRows (nmL ls) x.1) v) w F0 ∧ ExtAt (InnI 3 1 (flatZ x.1)) w F1 := by
  obtain ⟨zs, F0, F1, h1, h2, h3, h4, h5⟩ := h.now
  exact ⟨⟨zs, h1⟩, F0, F1, h2, h3, h4.ext, h5.ext⟩
end Go.Proofs.Yteoiohkdhdpkoaa

