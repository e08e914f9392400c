/- The abstract machine: a part of an array of our own, told by its blocks. -/
import Derived.Test.YteoiohkdhdpkoaaAmHC
namespace Go.Am
open Go
section
variable {P : Program} {T : TypeId → Option TI} {t : Nat → AV} {m : Nat → Option O} {ep n : Nat} {pm : List Nat} {G : S → Prop}
theorem flat_lenS {sz : Nat} : ∀ {rows : List (List D)}, (∀ r ∈ rows, r.length = sz) → rows.flatten.length = rows.length * sz
  | [], _ => by simp
  | r :: rs, h => by
    have h1 := h r (List.mem_cons_self ..)
    have h2 := flat_lenS (rows := rs) fun x hx => h x (List.mem_cons_of_mem _ hx)
    rw [List.flatten_cons, List.length_append, h1, h2, List.length_cons, Nat.add_mul]
    omega
/-- A part of an array of our own becomes the very value of its slice, and its blocks. -/
theorem gx_exactD (hC : Cv G) {s id id' off len ty sz : Nat} {rows rows2 : List (List D)} (hs : t s = .own id off len) (hm : m id = some (.arr ty sz rows)) (hr : (rows.drop off).take len = rows2) (hl : rows2.length = len) (hg : rows2.all (fun r => r.all D.gr) = true) (hf : m id' = none)
    (h : ∀ (oad : Option Addr) (cap : Nat), forceM m [(id, .gone), (id', .ext (FlatI ty sz rows2 (.slice oad rows2.length cap)))] fun m' => G ⟨putT t (some s) (.imm (.other (.slice oad rows2.length cap))), m', ep, n, pm⟩) :
    G ⟨t, m, ep, n, pm⟩ := by
  simp only [forceM_eq] at h
  refine hC { v : Value // ∃ (oad : Option Addr) (cap : Nat), v = .slice oad rows2.length cap } ⟨t, m, ep, n, pm⟩ (fun v => ⟨putT t (some s) (.imm (.other v.1)), upm m [(id, .gone), (id', .ext (FlatI ty sz rows2 v.1))], ep, n, pm⟩) ?_ (fun ⟨v, oad, cap, e⟩ => by subst e; exact h oad cap)
  intro w0 A locs β a w hS
  have hv := hS.slot s
  rw [show (⟨t, m, ep, n, pm⟩ : S).t s = .own id off len from hs] at hv
  have hv : AvRep0 w (Bl A β m) β m (.own id off len) (a.tmps.getD s Go.undef) := hv
  have hfl : FlatI ty sz rows2 (a.tmps.getD s Go.undef) w (OfIds β m [id]) := by
    obtain ⟨h1, h2, h3⟩ := hS.ob id _ hm
    simp only [AvRep0, hm] at hv
    obtain ⟨hle, hv⟩ := hv
    subst hr
    have hsz : ∀ r ∈ (rows.drop off).take len, r.length = sz := fun r hr => h1 r (List.mem_of_mem_drop (List.mem_of_mem_take hr))
    have hgr : ∀ (j : Nat) (d : D), ((rows.drop off).take len).flatten[j]? = some d → d.gr = true := fun j d hj => by
      obtain ⟨r, hr, hd⟩ := List.mem_flatten.1 (List.mem_of_getElem? hj)
      exact List.all_eq_true.1 (List.all_eq_true.1 hg r hr) d hd
    have hpre : ∀ (j : Nat) (d : D), ((rows.drop off).take len).flatten[j]? = some d → rows.flatten[off * sz + j]? = some d := fun j d hj => by
      have e : rows.flatten = (rows.take off).flatten ++ (((rows.drop off).take len).flatten ++ ((rows.drop off).drop len).flatten) := by
        rw [← List.flatten_append, List.take_append_drop, ← List.flatten_append, List.take_append_drop]
      have e2 : (rows.take off).flatten.length = off * sz := by
        rw [flat_lenS fun r hr => h1 r (List.mem_of_mem_take hr), List.length_take, Nat.min_eq_left (by omega)]
      rw [e, List.getElem?_append_right (by omega), e2, Nat.add_sub_cancel_left, List.getElem?_append_left (List.getElem?_eq_some_iff.1 hj).1]
      exact hj
    refine ⟨hsz, h2, ?_⟩
    rcases hv with ⟨hβ, e⟩ | ⟨l, ad, hβ, e, hot, had⟩
    · rcases h3 with ⟨_, hrn⟩ | ⟨l, cs, hβ', _⟩
      · exact .inl ⟨by rw [hrn]; simp, e⟩
      · rw [hβ] at hβ'; cases hβ'
    · rcases h3 with ⟨hβ', _⟩ | ⟨l', cs, hβ', q1, q2, q3, q4, q5⟩
      · rw [hβ] at hβ'; cases hβ'
      · rw [hβ] at hβ'; injection hβ' with hβ'; subst hβ'
        refine .inr ⟨l.b, l.base + off * sz, l.tot - off, cs, ad, ⟨id, by simp, _, l, hm, rfl, hβ, l.self⟩, by rw [hl]; exact e, fun h0 => had (by omega), q1, ?_, by rw [hl]; omega, by omega, fun j d hj w2 B => ?_⟩
        · rw [q2, Nat.sub_mul]
          have := Nat.mul_le_mul_right sz hot
          omega
        · rw [Nat.add_assoc]
          exact (q5 _ d (hpre j d hj)).gr (hgr j d hj)
  obtain ⟨β', h1, _⟩ := hS.exts (w' := w) (ids := [id]) [(id', FlatI ty sz rows2 (a.tmps.getD s Go.undef), OfIds β m [id])] (by simp) (fun x hx => by rw [List.mem_singleton] at hx; subst hx; exact hf) (fun i hi => by rw [List.mem_singleton] at hi; subst hi; exact ⟨_, hm⟩) (StepFr.refl _ _)
    (fun x hx => by rw [List.mem_singleton] at hx; subst hx; exact ⟨hfl.ext, fun b hb => ⟨OfIds.lt hS hb, .inr hb⟩⟩) (fun x hx y hy b _ _ => by rw [List.mem_singleton] at hx hy; subst hx hy; rfl)
  refine ⟨⟨a.tmps.getD s Go.undef, ?_⟩, β', h1.slotAs (s := s) (av := .imm (.other (a.tmps.getD s Go.undef))) (.other _)⟩
  rcases hfl.2.2 with ⟨e1, e2⟩ | ⟨b, base, tot, cs, ad, _, e2, _⟩
  · exact ⟨none, 0, by rw [e2, e1]; rfl⟩
  · exact ⟨some ad, tot, e2⟩
end
section
variable {P : Program} {T : TypeId → Option TI} {t : Nat → AV} {m : Nat → Option O} {ep n : Nat} {pm : List Nat} {k : S → Prop}
variable {ops : Array Oper} {rest : List Oper} {dst : Option Nat} {op : Op} {oty : TypeId} {pos : String} {after : Array Edge}
theorem go_exactD (hT : TOk P T) {s id id' off len ty sz : Nat} {rows rows2 : List (List D)} (hs : t s = .own id off len) (hm : m id = some (.arr ty sz rows)) (hr : (rows.drop off).take len = rows2) (hl : rows2.length = len) (hg : rows2.all (fun r => r.all D.gr) = true) (hf : m id' = none)
    (h : ∀ (oad : Option Addr) (cap : Nat), forceM m [(id, .gone), (id', .ext (FlatI ty sz rows2 (.slice oad rows2.length cap)))] fun m' => amOps P T ops (⟨dst, op, oty, pos, after, none⟩ :: rest) ⟨putT t (some s) (.imm (.other (.slice oad rows2.length cap))), m', ep, n, pm⟩ k) :
    amOps P T ops (⟨dst, op, oty, pos, after, none⟩ :: rest) ⟨t, m, ep, n, pm⟩ k := gx_exactD (cv_ops hT rfl) hs hm hr hl hg hf h
end
end Go.Am

