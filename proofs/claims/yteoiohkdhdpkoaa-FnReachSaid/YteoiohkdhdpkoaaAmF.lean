/- The abstract machine: an array in a variable's cell, given up. -/
import Derived.Test.YteoiohkdhdpkoaaAmC
/-! A cell that holds an array of this call's own may be taken for plain data; the array is given up. -/
namespace Go.Am
open Go

theorem ref_freezeBox {σ : S} {b id j len ty' sz : Nat} {ty : TypeId} {cells : List AV} {rows : List (List D)} (hb : σ.m b = some (.box ty cells)) (hj : cells[j]? = some (.own id 0 len)) (hid : σ.m id = some (.arr ty' sz rows)) :
    Ref σ { σ with m := upd (upd σ.m id (some .gone)) b (some (.box ty (cells.set j (.imm (.list ((rows.drop 0).take len)))))) } := by
  intro w0 A locs β a w h
  have hne : b ≠ id := fun e => by rw [e, hid] at hb; cases hb
  have hk := h.kill hid
  have hmb : (upd σ.m id (some .gone)) b = some (.box ty cells) := by rw [upd_other _ _ hne]; exact hb
  obtain ⟨l, cs, q1, q2, q3, q4⟩ := h.ob b _ hb
  have hview : Rep w (Bl A β (upd σ.m id (some .gone))) (cs.getD j Go.undef) (.list ((rows.drop 0).take len)) := by
    refine own_view h hid (q4 j _ hj) (fun x hx hB hB' => hB ?_) (fun l' hl' hB' => ?_)
    · rcases hB' with hA | ⟨i, o, l2, h1, h2, h3, h4⟩
      · exact .inl hA
      · by_cases hi : i = id
        · subst hi; rw [upd_same] at h1; injection h1 with h1; subst h1; cases h2
        · rw [upd_other _ _ hi] at h1
          exact .inr ⟨i, o, l2, h1, h2, h3, h4⟩
    · rcases hB' with hA | ⟨i, o, l2, h1, h2, h3, h4⟩
      · exact (h.new id _ l' hid rfl hl' _ l'.self).2.1 hA
      · by_cases hi : i = id
        · subst hi; rw [upd_same] at h1; injection h1 with h1; subst h1; cases h2
        · rw [upd_other _ _ hi] at h1
          exact hi (h.inj i id o _ l2 l' l'.b h1 h2 h3 hid rfl hl' h4 l'.self)
  obtain ⟨m1, hm1⟩ : ∃ m1, m1 = upd σ.m id (some .gone) := ⟨_, rfl⟩
  rw [← hm1] at hk hmb hview ⊢
  obtain ⟨m', hm'⟩ : ∃ m', m' = upd m1 b (some (.box ty (cells.set j (.imm (.list ((rows.drop 0).take len)))))) := ⟨_, rfl⟩
  have hmb' : m' b = some (.box ty (cells.set j (.imm (.list ((rows.drop 0).take len))))) := by rw [hm']; exact upd_same _ _ _
  have hmo : ∀ i, i ≠ b → m' i = m1 i := fun i hi => by rw [hm', upd_other _ _ hi]
  rw [← hm']
  have back : ∀ i o, m' i = some o → o.live = true → ∃ o0, m1 i = some o0 ∧ o0.live = true := by
    intro i o h1 h2
    by_cases hi : i = b
    · rw [hi]; exact ⟨_, hmb, rfl⟩
    · rw [hmo i hi] at h1; exact ⟨o, h1, h2⟩
  have kk : Keeps w (Bl A β m1) w (Bl A β m') := by
    refine ⟨Nat.le_refl _, fun _ _ _ => rfl, fun x _ hx hx' => hx ?_⟩
    rcases hx' with hA | ⟨i, o, l2, h1, h2, h3, h4⟩
    · exact .inl hA
    · obtain ⟨o0, p1, p2⟩ := back i o h1 h2
      exact .inr ⟨i, o0, l2, p1, p2, h3, h4⟩
  have gg : Goes β m1 β m' := fun i o ho => by
    by_cases hi : i = b
    · subst hi
      rw [hmb] at ho
      injection ho with ho
      subst ho
      exact ⟨_, hmb', by simp [O.sub], fun _ => rfl⟩
    · exact ⟨o, by rw [hmo i hi]; exact ho, o.sub_refl, fun _ => rfl⟩
  have := hk.move (m' := m') (w' := w) (β' := β) kk gg (fun _ _ _ => rfl) ?_ ?_ ?_ h.fr
  · exact ⟨β, this⟩
  · intro i o ho hl
    by_cases hi : i = b
    · subst hi
      right
      rw [hmb'] at ho
      injection ho with ho
      subst ho
      refine ⟨l, cs, q1, q2, by simpa using q3, fun k av hk' => ?_⟩
      rw [List.getElem?_set] at hk'
      split at hk'
      · rename_i hjk
        subst hjk
        split at hk'
        · injection hk' with hk'
          subst hk'
          exact Rep.keep kk hview
        · cases hk'
      · obtain ⟨l1, cs1, p1, p2, p3, p4⟩ := hk.ob i _ hmb
        rw [q1] at p1
        injection p1 with p1
        subst p1
        rw [q2] at p2
        injection p2 with p2
        injection p2 with p2
        subst p2
        exact (p4 k av hk').keep kk gg
    · left
      rw [hmo i hi] at ho
      exact ⟨ho, fun _ _ _ _ => rfl⟩
  · intro i i' o o' l1 l2 x h1 h2 h3 h4 h5 h6 h7 h8
    obtain ⟨o0, p1, p2⟩ := back i o h1 h2
    obtain ⟨o1, p3, p4⟩ := back i' o' h4 h5
    exact hk.inj i i' o0 o1 l1 l2 x p1 p2 h3 p3 p4 h6 h7 h8
  · intro i o l1 h1 h2 h3 x hx
    obtain ⟨o0, p1, p2⟩ := back i o h1 h2
    exact hk.new i o0 l1 p1 p2 h3 x hx
end Go.Am

