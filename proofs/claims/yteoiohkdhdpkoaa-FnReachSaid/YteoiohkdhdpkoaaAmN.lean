/- The abstract machine: the nil slice in a variable's cell, as an empty array of this call's own. -/
import Derived.Test.YteoiohkdhdpkoaaAmV
/-! A cell that holds the very nil slice may be taken for an empty array. -/
namespace Go.Am
open Go

theorem ref_nilBox {σ : S} {b q j : Nat} {ty e sz : Nat} {cells : List AV} (hb : σ.m b = some (.box ty cells)) (hj : cells[j]? = some (.imm (.other (.slice none 0 0)))) (hq : σ.m q = none) (hsz : 0 < sz) :
    Ref σ { σ with m := upd (upd σ.m q (some (.arr e sz []))) b (some (.box ty (cells.set j (.own q 0 0)))) } := by
  intro w0 A locs β a w h
  have hqb : b ≠ q := fun e => by rw [e, hq] at hb; cases hb
  have hβ : ∀ id, id ≠ q → upd β q none id = β id := fun id hid => upd_other _ _ hid
  have hβq : upd β q none q = none := upd_same _ _ _
  obtain ⟨m', hm'⟩ : ∃ m', m' = upd (upd σ.m q (some (.arr e sz []))) b (some (.box ty (cells.set j (.own q 0 0)))) := ⟨_, rfl⟩
  have hmb : m' b = some (.box ty (cells.set j (.own q 0 0))) := by rw [hm']; exact upd_same _ _ _
  have hmq : m' q = some (.arr e sz []) := by rw [hm', upd_other _ _ (Ne.symm hqb)]; exact upd_same _ _ _
  have hmo : ∀ id, id ≠ b → id ≠ q → m' id = σ.m id := fun id h1 h2 => by rw [hm', upd_other _ _ h1, upd_other _ _ h2]
  rw [← hm']
  -- an object behind has one ahead
  have back : ∀ id o l, m' id = some o → o.live = true → upd β q none id = some l → id ≠ q ∧ β id = some l ∧ ∃ o0, σ.m id = some o0 ∧ o0.live = true := by
    intro id o l h1 h2 h3
    have hidq : id ≠ q := fun e => by rw [e, hβq] at h3; cases h3
    rw [hβ id hidq] at h3
    refine ⟨hidq, h3, ?_⟩
    by_cases hidb : id = b
    · rw [hidb]; exact ⟨_, hb, rfl⟩
    · rw [hmo id hidb hidq] at h1
      exact ⟨o, h1, h2⟩
  have kk : Keeps w (Bl A β σ.m) w (Bl A (upd β q none) m') := by
    refine ⟨Nat.le_refl _, fun _ _ _ => rfl, fun x _ hx hx' => hx ?_⟩
    rcases hx' with hA | ⟨id, o, l, h1, h2, h3, h4⟩
    · exact .inl hA
    · obtain ⟨_, q2, o0, q3, q4⟩ := back id o l h1 h2 h3
      exact .inr ⟨id, o0, l, q3, q4, q2, h4⟩
  have gg : Goes β σ.m (upd β q none) m' := fun id o ho => by
    have hidq : id ≠ q := fun e => by rw [e, hq] at ho; cases ho
    by_cases hidb : id = b
    · subst hidb
      rw [hb] at ho
      injection ho with ho
      subst ho
      exact ⟨_, hmb, by simp [O.sub], fun _ => hβ _ hidq⟩
    · exact ⟨o, by rw [hmo id hidb hidq]; exact ho, o.sub_refl, fun _ => hβ _ hidq⟩
  refine ⟨upd β q none, h.move kk gg (fun id o ho => hβ id fun e => by rw [e, hq] at ho; cases ho) ?_ ?_ ?_ h.fr⟩
  · intro id o ho hl
    by_cases hidb : id = b
    · subst hidb
      right
      rw [hmb] at ho
      injection ho with ho
      subst ho
      obtain ⟨l, cs, q1, q2, q3, q4⟩ := h.ob id _ hb
      refine ⟨l, cs, by rw [hβ id hqb]; exact q1, q2, by simpa using q3, fun k av hk => ?_⟩
      rw [List.getElem?_set] at hk
      split at hk
      · rename_i hjk
        subst hjk
        split at hk
        · injection hk with hk
          subst hk
          have hr : Rep w (Bl A β σ.m) (cs.getD j Go.undef) (.other (.slice none 0 0)) := q4 j _ hj
          simp only [AvRep0, hmq]
          refine ⟨by simp, .inl ⟨hβq, ?_⟩⟩
          generalize cs.getD j Go.undef = v at hr
          cases hr
          rfl
        · cases hk
      · exact (q4 k av hk).keep kk gg
    · by_cases hidq : id = q
      · right
        subst hidq
        rw [hmq] at ho
        injection ho with ho
        subst ho
        exact ⟨by simp, hsz, .inl ⟨hβq, rfl⟩⟩
      · left
        rw [hmo id hidb hidq] at ho
        exact ⟨ho, fun _ _ _ _ => rfl⟩
  · intro id id' o o' l l' x h1 h2 h3 h4 h5 h6 h7 h8
    obtain ⟨_, q2, o0, q3, q4⟩ := back id o l h1 h2 h3
    obtain ⟨_, p2, p0, p3, p4⟩ := back id' o' l' h4 h5 h6
    exact h.inj id id' o0 p0 l l' x q3 q4 q2 p3 p4 p2 h7 h8
  · intro id o l h1 h2 h3 x hx
    obtain ⟨_, q2, o0, q3, q4⟩ := back id o l h1 h2 h3
    exact h.new id o0 l q3 q4 q2 x hx
end Go.Am

