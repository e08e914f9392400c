/- Lines of very values as plain rows. -/
import Derived.Test.YteoiohkdhdpkoaaH3c
import Derived.Test.YteoiohkdhdpkoaaAmHE
namespace Go.Proofs.Yteoiohkdhdpkoaa
open Go Go.Am

theorem flatZ_inv : ∀ {zs : List (Cell × Cell)} {i : Nat} {z : Cell × Cell}, zs[i]? = some z → (flatZ zs)[2 * i]? = some z.1 ∧ (flatZ zs)[2 * i + 1]? = some z.2 := fun h => flatZ_at h
theorem lines_plain {ls : List Line} {zs : List (Cell × Cell)} (hz : ZOk ls zs) : PlainRows (InnI 3 1 (flatZ zs)) (lRows (nmL ls) zs) (ls.map Line.enc) := by
  refine ⟨by rw [lRows_len hz, List.length_map], fun i r' hr => ?_⟩
  rw [List.getElem?_map, Option.map_eq_some_iff] at hr
  obtain ⟨l, hl, rfl⟩ := hr
  have hil := (List.getElem?_eq_some_iff.1 hl).1
  have hzl := hz.len
  obtain ⟨z, hzz⟩ : ∃ z, zs[i]? = some z := ⟨_, List.getElem?_eq_getElem (by omega)⟩
  obtain ⟨a1, a2⟩ := hz.at hzz hl
  obtain ⟨f1, f2⟩ := flatZ_at hzz
  refine ⟨lRow l.name z, lRows_at (nmL_at hl) hzz, .inl rfl, .inr ⟨z.1.1, rfl, fun w F B h hB => ?_⟩, .inr ⟨z.2.1, rfl, fun w F B h hB => ?_⟩, trivial⟩
  · obtain ⟨G, g1, _, g3⟩ := h.now
    rw [← a1]
    exact (g3 _ _ f1).rep fun b hb => hB b (g1 _ b hb)
  · obtain ⟨G, g1, _, g3⟩ := h.now
    rw [← a2]
    exact (g3 _ _ f2).rep fun b hb => hB b (g1 _ b hb)
theorem lines_plainO {ls : List Line} {zs : List (Cell × Cell)} (hz : ZOk ls zs) {k : Nat} {z : Cell × Cell} {l : Line} (hk : zs[k]? = some z) (hlk : ls[k]? = some l) : PlainRows (InnO2 3 1 (flatZ zs) (2 * k) (2 * k + 1)) (lRows (nmL ls) zs) ((ls.map Line.enc).set k (lRow l.name z)) := by
  refine ⟨by rw [lRows_len hz, List.length_set, List.length_map], fun i r' hr => ?_⟩
  have hkl := (List.getElem?_eq_some_iff.1 hlk).1
  rw [List.getElem?_set] at hr
  by_cases e : k = i
  · subst e
    rw [if_pos rfl, if_pos (by rw [List.length_map]; exact hkl)] at hr
    injection hr with hr
    subst hr
    exact ⟨lRow l.name z, lRows_at (nmL_at hlk) hk, .inl rfl, .inl rfl, .inl rfl, trivial⟩
  rw [if_neg e] at hr
  rw [List.getElem?_map, Option.map_eq_some_iff] at hr
  obtain ⟨l, hl, rfl⟩ := hr
  have hil := (List.getElem?_eq_some_iff.1 hl).1
  have hzl := hz.len
  obtain ⟨z, hzz⟩ : ∃ z, zs[i]? = some z := ⟨_, List.getElem?_eq_getElem (by omega)⟩
  obtain ⟨a1, a2⟩ := hz.at hzz hl
  obtain ⟨f1, f2⟩ := flatZ_at hzz
  refine ⟨lRow l.name z, lRows_at (nmL_at hl) hzz, .inl rfl, .inr ⟨z.1.1, rfl, fun w F B h hB => ?_⟩, .inr ⟨z.2.1, rfl, fun w F B h hB => ?_⟩, trivial⟩
  · obtain ⟨G, g1, _, g3⟩ := h.now
    rw [← a1]
    exact (g3 _ _ (by omega) (by omega) f1).rep fun b hb => hB b (g1 _ b hb)
  · obtain ⟨G, g1, _, g3⟩ := h.now
    rw [← a2]
    exact (g3 _ _ (by omega) (by omega) f2).rep fun b hb => hB b (g1 _ b hb)
theorem set_self {α : Type} {rows : List α} {i : Nat} {r : α} (h : rows[i]? = some r) : rows.set i r = rows := by
  refine List.ext_getElem? fun j => ?_
  rw [List.getElem?_set]
  by_cases e : i = j
  · subst e
    rw [if_pos rfl, if_pos (List.getElem?_eq_some_iff.1 h).1, h]
  · rw [if_neg e]
end Go.Proofs.Yteoiohkdhdpkoaa

