/- The abstract machine, part 36: strings.Contains and the search for one byte, as contracts. -/
import Derived.Test.YtjebblagiiajaaaAm35
import Derived.Shelf.Strings.Search3
namespace Go.Am
open Go Go.Proofs Go.Shelf

theorem callOk_sliteIndex {P : Program} {ρ : Ren} (L : Lays.n219 P ρ) (he : Enters P (ρ.f 219)) (s : ByteArray) (c : UInt8) :
    CallOk P (ρ.f 219) [.imm (.str s), .imm (.str ⟨#[c]⟩)] { res := [.imm (.int .i64 (Lib.indexByte s.data.toList c))] } := by
  refine callOk_imm (ds := [.str s, .str ⟨#[c]⟩]) he (by simp) rfl ?_
  intro w vs hs hv _
  obtain ⟨B, h0⟩ := hv 0 _ rfl
  obtain ⟨B', h1⟩ := hv 1 _ rfl
  have := args2 hs (rep_str h0) (rep_str h1)
  subst this
  refine (Any.stringslite_Index_one L s c w).mono ?_
  rintro e w' ⟨rfl, rfl⟩
  exact ⟨_, rfl, ⟨rfl, fun t h => by cases h⟩, ⟨fun _ => False, .int _ _⟩, .refl _⟩

theorem callOk_containsOne {P : Program} {ρ : Ren} (L : Lays.n144 P ρ) (he : Enters P (ρ.f 144)) (s : ByteArray) (c : UInt8) :
    CallOk P (ρ.f 144) [.imm (.str s), .imm (.str ⟨#[c]⟩)] { res := [.imm (.bool (decide (0 ≤ Lib.indexByte s.data.toList c)))] } := by
  refine callOk_imm (ds := [.str s, .str ⟨#[c]⟩]) he (by simp) rfl ?_
  intro w vs hs hv _
  obtain ⟨B, h0⟩ := hv 0 _ rfl
  obtain ⟨B', h1⟩ := hv 1 _ rfl
  have := args2 hs (rep_str h0) (rep_str h1)
  subst this
  refine (Any.strings_Contains_one L s c w).mono ?_
  rintro e w' ⟨rfl, rfl⟩
  exact ⟨_, rfl, ⟨rfl, fun t h => by cases h⟩, ⟨fun _ => False, .bool _⟩, .refl _⟩
end Go.Am
