/- The abstract machine: objects joined on the way; a cell of an array that is told by its blocks is written. -/
import Derived.Test.YteoiohkdhdpkoaaAmHQ
namespace Go.Am
open Go

section
variable {t : Nat → AV} {m : Nat → Option O} {ep n : Nat} {pm : List Nat} {G : S → Prop}
theorem gx_join (hC : Cv G) {id1 id2 id3 : Nat} {I1 I2 I3 : World → (Nat → Prop) → Prop} (h1 : m id1 = some (.ext I1)) (h2 : m id2 = some (.ext I2)) (hne : Nat.beq id1 id2 = false) (hf : m id3 = none)
    (hI : ∀ w F1 F2, ExtAt I1 w F1 → ExtAt I2 w F2 → (∀ b, ¬ (F1 b ∧ F2 b)) → ExtAt I3 w fun b => F1 b ∨ F2 b)
    (h : forceM m [(id1, .gone), (id2, .gone), (id3, .ext I3)] fun m' => G ⟨t, m', ep, n, pm⟩) : G ⟨t, m, ep, n, pm⟩ := by
  rw [forceM_eq] at h
  refine hC Unit ⟨t, m, ep, n, pm⟩ (fun _ => ⟨t, upm m [(id1, .gone), (id2, .gone), (id3, .ext I3)], ep, n, pm⟩) ?_ (fun _ => h)
  intro w0 A locs β a w hS
  obtain ⟨β', h3⟩ := ref_joinX (σ := ⟨t, m, ep, n, pm⟩) h1 h2 hne hf hI w0 A locs β a w hS
  exact ⟨(), β', h3⟩
end
section
variable {P : Program} {T : TypeId → Option TI} {t : Nat → AV} {m : Nat → Option O} {ep n : Nat} {pm : List Nat} {k : S → Prop}
variable {ops : Array Oper} {rest : List Oper} {dst : Option Nat} {op : Op} {oty : TypeId} {pos : String} {after : Array Edge}
theorem go_join (hT : TOk P T) {id1 id2 id3 : Nat} {I1 I2 I3 : World → (Nat → Prop) → Prop} (h1 : m id1 = some (.ext I1)) (h2 : m id2 = some (.ext I2)) (hne : Nat.beq id1 id2 = false) (hf : m id3 = none)
    (hI : ∀ w F1 F2, ExtAt I1 w F1 → ExtAt I2 w F2 → (∀ b, ¬ (F1 b ∧ F2 b)) → ExtAt I3 w fun b => F1 b ∨ F2 b)
    (h : forceM m [(id1, .gone), (id2, .gone), (id3, .ext I3)] fun m' => amOps P T ops (⟨dst, op, oty, pos, after, none⟩ :: rest) ⟨t, m', ep, n, pm⟩ k) : amOps P T ops (⟨dst, op, oty, pos, after, none⟩ :: rest) ⟨t, m, ep, n, pm⟩ k :=
  gx_join (cv_ops hT rfl) h1 h2 hne hf hI h
theorem ret_join {Q : Exit → S → Prop} {id1 id2 id3 : Nat} {I1 I2 I3 : World → (Nat → Prop) → Prop} (h1 : m id1 = some (.ext I1)) (h2 : m id2 = some (.ext I2)) (hne : Nat.beq id1 id2 = false) (hf : m id3 = none)
    (hI : ∀ w F1 F2, ExtAt I1 w F1 → ExtAt I2 w F2 → (∀ b, ¬ (F1 b ∧ F2 b)) → ExtAt I3 w fun b => F1 b ∨ F2 b)
    (h : forceM m [(id1, .gone), (id2, .gone), (id3, .ext I3)] fun m' => amC P T .ret Q ⟨t, m', ep, n, pm⟩) : amC P T .ret Q ⟨t, m, ep, n, pm⟩ :=
  gx_join cv_ret h1 h2 hne hf hI h
end

theorem set_flat {α : Type} {sz : Nat} : ∀ (rows : List (List α)), (∀ r ∈ rows, r.length = sz) → ∀ (i c : Nat) (r : List α) (x : α), rows[i]? = some r → c < sz → (rows.set i (r.set c x)).flatten = rows.flatten.set (i * sz + c) x
  | [], _, i, c, r, x, h, _ => by simp at h
  | r0 :: rs, hsz, 0, c, r, x, h, hc => by
    simp at h
    subst h
    have hl := hsz r0 (by simp)
    simp only [List.set_cons_zero, List.flatten_cons, Nat.zero_mul, Nat.zero_add]
    rw [List.set_append_left _ _ (by omega)]
  | r0 :: rs, hsz, i + 1, c, r, x, h, hc => by
    have hl := hsz r0 (by simp)
    have ih := set_flat rs (fun r hr => hsz r (by simp [hr])) i c r x (by simpa using h) hc
    simp only [List.set_cons_succ, List.flatten_cons]
    have e : (i + 1) * sz + c = r0.length + (i * sz + c) := by rw [hl, Nat.add_mul]; omega
    rw [ih, e, List.set_append_right _ _ (by omega)]
    congr 2
    omega

theorem FlatI.write {ty sz : Nat} {rows : List (List D)} {b o len cap i c : Nat} {w : World} {F : Nat → Prop} {r : List D} {dd : D} (hr : rows[i]? = some r) (hc : c < sz) (h : FlatI ty sz rows (.slice (some ⟨b, o, none⟩) len cap) w F) :
    F b ∧ ∃ (cs : Array Value) (tb : TypeId), w.heap[b]? = some (.cells cs tb (0, 0)) ∧ o + i * sz + c < cs.size ∧
      ∀ (w' : World) (u : Value), (∀ (w2 : World) (B : Nat → Prop), Rep w2 B u dd) → w'.heap[b]? = some (.cells (cs.setIfInBounds (o + i * sz + c) u) tb (0, 0)) → (∀ b', b' ≠ b → w'.heap[b']? = w.heap[b']?) →
        ExtAt (FlatI ty sz (rows.set i (r.set c dd)) (.slice (some ⟨b, o, none⟩) len cap)) w' F := by
  obtain ⟨h1, h2, h3⟩ := h
  have hil := (List.getElem?_eq_some_iff.1 hr).1
  have hrl := h1 r (List.mem_of_getElem? hr)
  rcases h3 with ⟨rfl, _⟩ | ⟨b', base, tot, cs, ad, q1, e, q3, q4, q5, q6, q7, q8⟩
  · simp at hil
  · injection e with e1 e2 e3
    injection e1 with e1
    subst e1
    have hpos : 0 < tot := by omega
    have had := q3 hpos
    injection had with a1 a2
    subst a1 a2
    have hmul : (i + 1) * sz ≤ tot * sz := Nat.mul_le_mul_right _ (by omega)
    rw [Nat.add_mul] at hmul
    refine ⟨q1, cs, ty, q4, by omega, fun w' u hu e5 e6 => FlatI.ext ⟨fun r' hr' => ?_, h2, .inr ⟨b, o, tot, _, _, q1, ?_, fun _ => rfl, e5, by simpa using q5, by simpa using q6, q7, fun j d hj w2 B => ?_⟩⟩⟩
    · rcases List.mem_or_eq_of_mem_set hr' with h5 | rfl
      · exact h1 r' h5
      · simpa using hrl
    · rw [e2, e3]; simp
    · rw [set_flat rows h1 i c r dd hr hc, List.getElem?_set] at hj
      by_cases ej : i * sz + c = j
      · rw [if_pos ej] at hj
        split at hj
        · injection hj with hj
          subst hj ej
          have hlt : o + i * sz + c < cs.size := by omega
          rw [show o + (i * sz + c) = o + i * sz + c from by omega]
          simp [Array.getD, hlt]
          exact hu _ _
        · cases hj
      · rw [if_neg ej] at hj
        have hne : o + i * sz + c ≠ o + j := by omega
        have := q8 j d hj w2 B
        simpa [Array.getD_eq_getD_getElem?, Array.getElem?_setIfInBounds, hne] using this
theorem FlatI.shapeX {ty sz : Nat} {rows : List (List D)} {v : Value} {w : World} {F : Nat → Prop} (h : FlatI ty sz rows v w F) : ShapeX v rows.length := by
  rcases h.shape with ⟨e1, e2⟩ | ⟨ad, cap, e1, e2⟩
  · exact ⟨none, 0, by rw [e1, e2]; rfl, fun h => by rw [e1] at h; simp at h⟩
  · refine ⟨some ad, cap, e1, fun hp => ?_⟩
    have := e2 fun e => by rw [e] at hp; simp at hp
    exact ⟨ad.block, ad.off, by cases ad; simp at this ⊢; exact this⟩
end Go.Am

