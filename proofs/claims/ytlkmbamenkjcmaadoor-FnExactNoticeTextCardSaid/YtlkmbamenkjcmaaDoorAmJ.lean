/- The abstract machine: strings.Join as a contract. -/
import Derived.Test.YtlkmbamenkjcmaaDoorAmD
import Derived.Shelf.Strings.OnBuilder
import Derived.Below
namespace Go.Am
open Go Go.Proofs Go.Shelf Go.RowKit

theorem flat_strs (xs : List ByteArray) : (xs.map fun s => [D.str s]).flatten = xs.map D.str := by
  induction xs with
  | nil => rfl
  | cons x xs ih => simp [ih]

theorem callOk_join {P : Program} {ρ : Ren} (L : Lays.n156 P ρ) (X : Builder.Extra P ρ) (he : Enters P (ρ.f 156)) (xs : List ByteArray) (sep : ByteArray) (hN : xs.length ≤ 140737488355328)
    (hlen : (Lib.join (xs.map (·.data.toList)) sep.data.toList).length ≤ 140737488355328) :
    CallOk P (ρ.f 156) [.imm (.list (xs.map fun s => [D.str s])), .imm (.str sep)] { res := [.imm (.str ⟨(Lib.join (xs.map (·.data.toList)) sep.data.toList).toArray⟩)] } := by
  refine callOk_imm (ds := [.list (xs.map fun s => [D.str s]), .str sep]) he (by simp) rfl ?_
  intro w vs hs hv _
  obtain ⟨B, h0⟩ := hv 0 _ rfl
  obtain ⟨B', h1⟩ := hv 1 _ rfl
  have e1 := rep_str h1
  have fin : ∀ v, vs.getD 0 Go.undef = v → (Calls P (ρ.f 156) #[v, .string sep] w fun e w' => e = .returned (.string ⟨(Lib.join (xs.map (·.data.toList)) sep.data.toList).toArray⟩) ∧ Below w.heap.size w w') →
      Calls P (ρ.f 156) vs w fun e w' => ∃ v, e = .returned v ∧ (v.oneCell' = true ∧ ∀ t, v ≠ .tuple t) ∧ (∃ B, Rep w' B v (.str ⟨(Lib.join (xs.map (·.data.toList)) sep.data.toList).toArray⟩)) ∧ Kept w w' := by
    intro v hv0 hcall
    rw [args2 hs hv0 e1]
    refine hcall.mono ?_
    rintro e w' ⟨rfl, hb⟩
    exact ⟨_, rfl, ⟨rfl, fun t h => by cases h⟩, ⟨fun _ => False, .str _⟩, ⟨hb.os, hb.tape, hb.output, hb.size, hb.block⟩⟩
  generalize hx : vs.getD 0 Go.undef = v0 at h0
  generalize hr : (D.list (xs.map fun s => [D.str s])) = d0 at h0
  cases h0 with
  | nil a c =>
    have hxs : xs = [] := by injection hr with hr; simpa using hr
    subst hxs
    exact fin _ hx ((Any.strings_Join_none L X a c sep w).mono fun e w' ⟨he, hw⟩ => ⟨he, hw ▸ Below.refl _ _⟩)
  | list ad n c rows sz g hn hc hrl hb _ hsp hcell hrep =>
    injection hr with hr
    subst hr
    have hnx : n = xs.length := by rw [hn, List.length_map]
    subst hnx
    obtain ⟨bk, o, spot⟩ := ad
    simp only at hsp hb
    subst hsp
    refine fin _ hx (Any.strings_Join L X bk o c xs sep w (fun j x hj => ?_) hb hN hc hlen)
    have hf : ((xs.map fun s => [D.str s]).flatten)[j]? = some (.str x) := by rw [flat_strs, List.getElem?_map, hj]; rfl
    have h2 := hcell j _ hf
    rw [rep_str (hrep j _ hf), add_spot rfl] at h2
    exact h2
  | _ => first | done | cases hr
end Go.Am

