/- The abstract machine: objects that are told by their blocks alone change their blocks; steps of another kind. -/
import Derived.Test.YtfjphbjbobojbaaAmC
namespace Go.Am
open Go

/-- The names in 'ids' are given up. -/
def goneM (m : Nat → Option O) (ids : List Nat) : Nat → Option O := fun i => if i ∈ ids then some .gone else m i
theorem goneM_in {m : Nat → Option O} {ids : List Nat} {i : Nat} (h : i ∈ ids) : goneM m ids i = some .gone := if_pos h
theorem goneM_out {m : Nat → Option O} {ids : List Nat} {i : Nat} (h : i ∉ ids) : goneM m ids i = m i := if_neg h

section
variable {w0 w : World} {A : Nat → Prop} {locs : List (Option Loc)} {β : Nat → Option Loc} {σ : S} {a : Act}

/-- A block belongs to one of these objects. -/
def OfIds (β : Nat → Option Loc) (m : Nat → Option O) (ids : List Nat) (b : Nat) : Prop := ∃ id ∈ ids, ∃ o l, m id = some o ∧ o.live = true ∧ β id = some l ∧ l.has b

theorem Fr.regroup (h : Sim w0 A locs β σ a w) {w' : World} {ids : List Nat} (hsz : w.heap.size ≤ w'.heap.size) (hos : w'.os = w.os) (htp : w'.tape = w.tape) (hout : w'.output = w.output) (hdr : w.drawn ≤ w'.drawn)
    (hw : ∀ b, b < w.heap.size → ¬ OfIds β σ.m ids b → w'.heap[b]? = w.heap[b]?) : Fr w0 locs w' := by
  refine ⟨hos.trans h.fr.os, htp.trans h.fr.tape, hout.trans h.fr.output, Nat.le_trans h.fr.size hsz, fun b hb hl => ?_, h.fr.tb, Nat.le_trans h.fr.drawn hdr⟩
  refine (hw b (Nat.lt_of_lt_of_le hb h.fr.size) ?_).trans (h.fr.blk b hb hl)
  rintro ⟨id, _, o, l, h1, h2, h3, h4⟩
  rcases (h.new id o l h1 h2 h3 b h4).2.2 with h5 | ⟨l0, h5, h6⟩
  · omega
  · exact hl l0 h5 h6

/-- Objects are given up; a new one lies in their blocks and in new ones. -/
theorem Sim.regroup (h : Sim w0 A locs β σ a w) {w' : World} {ids : List Nat} {id' : Nat} {o' : O} {l' : Loc} (hid : σ.m id' = none) (hids : ∀ id ∈ ids, ∃ o, σ.m id = some o)
    (hsz : w.heap.size ≤ w'.heap.size) (hos : w'.os = w.os) (htp : w'.tape = w.tape) (hout : w'.output = w.output) (hdr : w.drawn ≤ w'.drawn)
    (hw : ∀ b, b < w.heap.size → ¬ OfIds β σ.m ids b → w'.heap[b]? = w.heap[b]?)
    (hl' : ∀ b, l'.has b → b < w'.heap.size ∧ (w.heap.size ≤ b ∨ OfIds β σ.m ids b))
    (ho : ∀ (B' : Nat → Prop) (β' : Nat → Option Loc) (m' : Nat → Option O), Keeps w (Bl A β σ.m) w' B' → Goes β σ.m β' m' → β' id' = some l' → m' id' = some o' → ObRep w' B' β' m' id' o') :
    Sim w0 A locs (upd β id' (some l')) { σ with m := upd (goneM σ.m ids) id' (some o') } a w' := by
  have hnid : id' ∉ ids := fun e => by obtain ⟨o, ho⟩ := hids id' e; rw [hid] at ho; cases ho
  have hcase : ∀ i o, upd (goneM σ.m ids) id' (some o') i = some o → o.live = true → (i = id' ∧ o = o') ∨ (i ≠ id' ∧ i ∉ ids ∧ σ.m i = some o) := fun i o hi hl => by
    by_cases e : i = id'
    · subst e; rw [upd_same] at hi; injection hi with hi; exact .inl ⟨rfl, hi.symm⟩
    · rw [upd_other _ _ e] at hi
      by_cases e2 : i ∈ ids
      · rw [goneM_in e2] at hi; injection hi with hi; subst hi; cases hl
      · rw [goneM_out e2] at hi; exact .inr ⟨e, e2, hi⟩
  have hβn : upd β id' (some l') id' = some l' := upd_same _ _ _
  have hβo : ∀ i, i ≠ id' → upd β id' (some l') i = β i := fun i hi => upd_other _ _ hi
  have hne : ∀ i o, σ.m i = some o → i ≠ id' := fun i o hi e => by subst e; rw [hid] at hi; cases hi
  have k : Keeps w (Bl A β σ.m) w' (Bl A (upd β id' (some l')) (upd (goneM σ.m ids) id' (some o'))) := by
    refine ⟨hsz, fun b hb hB => hw b hb ?_, fun b hb hB hB' => hB ?_⟩
    · rintro ⟨id, _, o, l, h1, h2, h3, h4⟩
      exact hB (.inr ⟨id, o, l, h1, h2, h3, h4⟩)
    · rcases hB' with hA | ⟨i, o, l, h1, h2, h3, h4⟩
      · exact .inl hA
      · rcases hcase i o h1 h2 with ⟨rfl, rfl⟩ | ⟨h5, h6, h7⟩
        · rw [hβn] at h3
          injection h3 with h3
          subst h3
          rcases (hl' b h4).2 with h8 | ⟨id, _, o2, l2, k1, k2, k3, k4⟩
          · omega
          · exact .inr ⟨id, o2, l2, k1, k2, k3, k4⟩
        · rw [hβo i h5] at h3
          exact .inr ⟨i, o, l, h7, h2, h3, h4⟩
  have g : Goes β σ.m (upd β id' (some l')) (upd (goneM σ.m ids) id' (some o')) := fun id o ho => by
    have h1 := hne id o ho
    by_cases e : id ∈ ids
    · exact ⟨.gone, by rw [upd_other _ _ h1]; exact goneM_in e, o.sub_gone, fun hl => by cases hl⟩
    · exact ⟨o, by rw [upd_other _ _ h1, goneM_out e]; exact ho, o.sub_refl, fun _ => hβo id h1⟩
  refine h.move k g (fun id o ho => hβo id (hne id o ho)) (fun id o hm hl => ?_) ?_ ?_ (Fr.regroup h hsz hos htp hout hdr hw)
  · rcases hcase id o hm hl with ⟨rfl, rfl⟩ | ⟨h5, h6, h7⟩
    · exact .inr (ho _ _ _ k g hβn (upd_same _ _ _))
    · refine .inl ⟨h7, fun l hβ b hb => hw b (h.new id o l h7 hl hβ b hb).1 ?_⟩
      rintro ⟨id2, hin, o2, l2, h1, h2, h3, h4⟩
      exact h6 (h.inj id id2 o o2 l l2 b h7 hl hβ h1 h2 h3 hb h4 ▸ hin)
  · intro id id2 o o2 l l2 b h1 h2 h3 h4 h5 h6 hb hb2
    have key : ∀ i oi li, i ≠ id' → i ∉ ids → σ.m i = some oi → oi.live = true → β i = some li → li.has b → l'.has b → False := fun i oi li q1 q2 q3 q4 q5 q6 q7 => by
      rcases (hl' b q7).2 with h8 | ⟨ix, hin, ox, lx, k1, k2, k3, k4⟩
      · have := (h.new i oi li q3 q4 q5 b q6).1
        omega
      · exact q2 (h.inj i ix oi ox li lx b q3 q4 q5 k1 k2 k3 q6 k4 ▸ hin)
    rcases hcase id o h1 h2 with ⟨rfl, rfl⟩ | ⟨h7, h8, h9⟩
    · rw [hβn] at h3; injection h3 with h3; subst h3
      rcases hcase id2 o2 h4 h5 with ⟨rfl, rfl⟩ | ⟨k7, k8, k9⟩
      · rfl
      · rw [hβo id2 k7] at h6
        exact (key id2 o2 l2 k7 k8 k9 h5 h6 hb2 hb).elim
    · rw [hβo id h7] at h3
      rcases hcase id2 o2 h4 h5 with ⟨rfl, rfl⟩ | ⟨k7, k8, k9⟩
      · rw [hβn] at h6; injection h6 with h6; subst h6
        exact (key id o l h7 h8 h9 h2 h3 hb hb2).elim
      · rw [hβo id2 k7] at h6
        exact h.inj id id2 o o2 l l2 b h9 h2 h3 k9 h5 h6 hb hb2
  · intro id o l h1 h2 h3 b hb
    rcases hcase id o h1 h2 with ⟨rfl, rfl⟩ | ⟨h7, h8, h9⟩
    · rw [hβn] at h3; injection h3 with h3; subst h3
      obtain ⟨q1, q2⟩ := hl' b hb
      refine ⟨q1, ?_⟩
      rcases q2 with q2 | ⟨ix, _, ox, lx, k1, k2, k3, k4⟩
      · refine ⟨fun hA => ?_, .inl (Nat.le_trans h.fr.size q2)⟩
        have := h.lt b hA
        omega
      · exact (h.new ix ox lx k1 k2 k3 b k4).2
    · rw [hβo id h7] at h3
      obtain ⟨n1, n2, n3⟩ := h.new id o l h9 h2 h3 b hb
      exact ⟨Nat.lt_of_lt_of_le n1 hsz, n2, n3⟩

end
end Go.Am

