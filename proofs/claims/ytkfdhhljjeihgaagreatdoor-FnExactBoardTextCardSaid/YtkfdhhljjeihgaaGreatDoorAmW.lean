/- The abstract machine: strings.Repeat of one byte as a contract. -/
import Derived.Test.YtkfdhhljjeihgaaGreatDoorAmD
import Derived.Test.YtkfdhhljjeihgaaGreatDoorAmX
import Derived.Shelf.Strings.Repeat
import Derived.Below
namespace Go.Am
open Go Go.Proofs Go.Shelf Go.RowKit

theorem repeatL_byte (b : UInt8) : ∀ c, Lib.repeatL [b] c = List.replicate c b
  | 0 => rfl
  | c + 1 => by
    show [b] ++ Lib.repeatL [b] c = _
    rw [repeatL_byte b c]
    rfl

theorem callOk_repeat1 {P : Program} {ρ : Ren} (L : Lays.n105 P ρ) (X : Builder.Extra P ρ) (he : Enters P (ρ.f 105)) (b : UInt8) (c : Nat) (hc : c ≤ 1048576) :
    CallOk P (ρ.f 105) [.imm (.str ⟨#[b]⟩), .imm (.int .i64 (c : Int))] { res := [.imm (.str ⟨(List.replicate c b).toArray⟩)] } := by
  refine callOk_imm (ds := [.str ⟨#[b]⟩, .int .i64 (c : Int)]) he (by simp) rfl ?_
  intro w vs hs hv _
  obtain ⟨B, h0⟩ := hv 0 _ rfl
  obtain ⟨B', h1⟩ := hv 1 _ rfl
  have e0 := rep_str h0
  have e1 := rep_int h1
  rw [argsD2 hs e0 e1]
  have hsz : (ByteArray.mk #[b]).size = 1 := rfl
  refine (calls_drawn (Any.strings_Repeat L X ⟨#[b]⟩ c w (by omega) (by rw [hsz]; omega))).mono ?_
  rintro e w' ⟨⟨rfl, hb⟩, hd⟩
  exact ⟨_, rfl, ⟨rfl, fun t h => by cases h⟩, ⟨fun _ => False, by rw [show Lib.repeatL (ByteArray.mk #[b]).data.toList c = List.replicate c b from repeatL_byte b c]; exact .str _⟩, ⟨hb.os, hb.tape, hb.output, hb.size, hb.block, hd _ rfl⟩⟩
end Go.Am

