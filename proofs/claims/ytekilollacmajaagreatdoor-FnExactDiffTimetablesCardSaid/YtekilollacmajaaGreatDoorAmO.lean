/- The abstract machine: slices.SortFunc of nothing. -/
import Derived.Test.YtekilollacmajaaGreatDoorAmP
import Derived.Shelf.SlSortCmp.NoneTotal
namespace Go.Am
open Go Go.Sort Go.Proofs Go.Shelf

theorem callOk_sortFn0 {P : Program} {ρ : Ren} (L : SlLaysF0.n6 P ρ) (he : Am.Enters P (ρ.f 6)) (ety sz : Nat) (d : D) :
    CallOk P (ρ.f 6) [.arr ety sz [], .imm d] { res := [], muts := [.arr ety sz []] } := by
  refine callOk_lent0 (es := [d]) he (by simp) fun w ad cap vs hs hv => ?_
  have hvs : vs = #[.slice ad 0 cap, vs.getD 1 Go.undef] := args2 (by simpa using hs) hv rfl
  rw [hvs]
  refine (AnyF.slices_SortFunc_none L ad cap (vs.getD 1 Go.undef) w).mono ?_
  rintro e w' ⟨rfl, rfl⟩
  exact ⟨rfl, rfl, rfl, rfl, Nat.le_refl _, fun _ _ _ => rfl, Nat.le_refl _⟩

end Go.Am

