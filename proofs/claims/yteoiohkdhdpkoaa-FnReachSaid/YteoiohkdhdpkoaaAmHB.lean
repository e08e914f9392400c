/- The abstract machine: a call that is walked in place, with objects of the caller's. -/
import Derived.Test.YteoiohkdhdpkoaaAmHS
namespace Go.Am
open Go

/-- Values that name no object but these. -/
def ref0 (L : List Nat) : AV → Bool
  | .own id _ _ => L.contains id
  | .box id _ => L.contains id
  | .eptr id _ _ => L.contains id
  | .clo _ ids => ids.all L.contains
  | .tv id _ => L.contains id
  | .tup _ => false
  | .mix _ => false
  | _ => true
def refOk (L : List Nat) : AV → Bool
  | .mix l => l.all (ref0 L)
  | a => ref0 L a
def obOk (L : List Nat) : O → Bool
  | .box _ cells => cells.all (ref0 L)
  | _ => true

section
variable {w : World} {B B2 : Nat → Prop} {β β2 : Nat → Option Loc} {m m2 : Nat → Option O} {L : List Nat}
variable (hL : ∀ id ∈ L, m2 id = m id ∧ β2 id = β id) (hB : ∀ b, B2 b → B b)

include hL in
theorem BoxAt.over {id off : Nat} {v : Value} (hid : id ∈ L) (h : BoxAt β m id off v) : BoxAt β2 m2 id off v := by
  obtain ⟨e1, e2⟩ := hL id hid
  unfold BoxAt at h ⊢
  rw [e1, e2]
  exact h
include hL hB in
theorem AvRep0.over {av : AV} {v : Value} (hr : ref0 L av = true) (h : AvRep0 w B β m av v) : AvRep0 w B2 β2 m2 av v := by
  have kk : Keeps w B w B2 := ⟨Nat.le_refl _, fun _ _ _ => rfl, fun b _ hn hb => hn (hB b hb)⟩
  cases av with
  | dead => trivial
  | undef => exact h
  | imm d => exact Rep.keep kk h
  | own id off len =>
    obtain ⟨e1, e2⟩ := hL id (by simpa [ref0] using hr)
    simp only [AvRep0, e1, e2] at h ⊢
    exact h
  | box id off => exact BoxAt.over hL (by simpa [ref0] using hr) h
  | eptr id row off =>
    obtain ⟨e1, e2⟩ := hL id (by simpa [ref0] using hr)
    simp only [AvRep0, e1, e2] at h ⊢
    exact h
  | clo f ids =>
    obtain ⟨vs, h1, h2, h3⟩ := h
    refine ⟨vs, h1, h2, fun i id hi => BoxAt.over hL ?_ (h3 i id hi)⟩
    have := List.all_eq_true.1 hr id (List.mem_of_getElem? hi)
    simpa using this
  | tv id d =>
    obtain ⟨e1, e2⟩ := hL id (by simpa [ref0] using hr)
    simp only [AvRep0, e1, e2] at h ⊢
    exact h
  | tup l => cases hr
  | mix l => cases hr
include hL hB in
theorem AvRep.over {av : AV} {v : Value} (hr : refOk L av = true) (h : AvRep w B β m av v) : AvRep w B2 β2 m2 av v := by
  cases av with
  | mix l =>
    obtain ⟨vs, h1, h2, h3⟩ := h
    exact ⟨vs, h1, h2, fun i a hi => AvRep0.over hL hB (List.all_eq_true.1 hr a (List.mem_of_getElem? hi)) (h3 i a hi)⟩
  | tup l => cases hr
  | dead => trivial
  | undef => exact h
  | imm d => exact AvRep0.over (w := w) (av := .imm d) hL hB hr h
  | own a b c => exact AvRep0.over (w := w) (av := .own a b c) hL hB hr h
  | box a b => exact AvRep0.over (w := w) (av := .box a b) hL hB hr h
  | eptr a b c => exact AvRep0.over (w := w) (av := .eptr a b c) hL hB hr h
  | clo a b => exact AvRep0.over (w := w) (av := .clo a b) hL hB hr h
  | tv a b => exact AvRep0.over (w := w) (av := .tv a b) hL hB hr h
include hL hB in
theorem ObRep.over {id : Nat} {o : O} (hid : id ∈ L) (hr : obOk L o = true) (h : ObRep w B β m id o) : ObRep w B2 β2 m2 id o := by
  have kk : Keeps w B w B2 := ⟨Nat.le_refl _, fun _ _ _ => rfl, fun b _ hn hb => hn (hB b hb)⟩
  obtain ⟨_, e2⟩ := hL id hid
  cases o with
  | gone => trivial
  | box ty cells =>
    obtain ⟨l, cs, q1, q2, q3, q4⟩ := h
    exact ⟨l, cs, e2.trans q1, q2, q3, fun j a hj => AvRep0.over hL hB (List.all_eq_true.1 hr a (List.mem_of_getElem? hj)) (q4 j a hj)⟩
  | arr ty sz rows =>
    obtain ⟨q1, q2, q3⟩ := h
    refine ⟨q1, q2, ?_⟩
    rcases q3 with ⟨q3, q4⟩ | ⟨l, cs, q3, q4, q5, q6, q7, q8⟩
    · exact .inl ⟨e2.trans q3, q4⟩
    · exact .inr ⟨l, cs, e2.trans q3, q4, q5, q6, q7, fun j d hj => (q8 j d hj).keep kk⟩
  | reg c =>
    rcases h with q | ⟨l, r, q1, q2, q3, q4⟩
    · exact .inl (e2.trans q)
    · exact .inr ⟨l, r, e2.trans q1, q2, q3, q4⟩
  | cel sz rows =>
    obtain ⟨q1, q2, q3⟩ := h
    refine ⟨q1, q2, ?_⟩
    rcases q3 with ⟨q3, q4⟩ | ⟨l, g, q3, q4⟩
    · exact .inl ⟨e2.trans q3, q4⟩
    · exact .inr ⟨l, g, e2.trans q3, fun j d hj => ⟨(q4 j d hj).1, (q4 j d hj).2.keep kk⟩⟩
  | ext I =>
    have h : ExtAt I w (foot (β id)) := h
    show ExtAt I w (foot (β2 id))
    rw [e2]
    exact h
end

/-- Objects by their names. -/
def pickK (m : Nat → Option O) : List Nat → (List (Nat × O) → Prop) → Prop
  | [], K => K []
  | id :: r, K => match m id with
    | some o => pickK m r fun ups => K ((id, o) :: ups)
    | none => False
theorem pickK_ex {m : Nat → Option O} : ∀ {ids : List Nat} {K : List (Nat × O) → Prop}, pickK m ids K → ∃ ups : List (Nat × O), ups.map (·.1) = ids ∧ (∀ x ∈ ups, m x.1 = some x.2) ∧ K ups
  | [], K, h => ⟨[], rfl, (fun x hx => by cases hx), h⟩
  | id :: r, K, h => by
    unfold pickK at h
    split at h
    · rename_i o ho
      obtain ⟨ups, h1, h2, h3⟩ := pickK_ex h
      refine ⟨(id, o) :: ups, by simp [h1], fun x hx => ?_, h3⟩
      rcases List.mem_cons.1 hx with rfl | hx
      · exact ho
      · exact h2 x hx
    · exact h.elim
def forceL : List AV → (List AV → Prop) → Prop
  | [], K => K []
  | a :: r, K => forceV a fun v => forceL r fun l => K (v :: l)
theorem forceL_eq : ∀ (l : List AV) (K : List AV → Prop), forceL l K = K l
  | [], K => rfl
  | a :: r, K => by
    show (forceV a fun v => forceL r fun l => K (v :: l)) = _
    rw [forceV_eq, forceL_eq r]
def argsT (avs : List AV) (i : Nat) : AV := match avs[i]? with | some a => a | none => .undef

theorem lookM_in {M : Nat → Option O} : ∀ {ups : List (Nat × O)}, (∀ x ∈ ups, M x.1 = some x.2) → ∀ {id : Nat}, id ∈ ups.map (·.1) → lookM ups id = M id
  | [], _, id, h => by cases h
  | (j, o) :: r, h, id, hid => by
    unfold lookM
    by_cases e : id = j
    · rw [if_pos e, e]; exact (h (j, o) (by simp)).symm
    · rw [if_neg e]
      exact lookM_in (fun x hx => h x (by simp [hx])) (by simpa [e] using hid)
theorem lookM_out : ∀ {ups : List (Nat × O)} {id : Nat}, id ∉ ups.map (·.1) → lookM ups id = none
  | [], id, _ => rfl
  | (j, o) :: r, id, hid => by
    unfold lookM
    rw [if_neg fun e => hid (by simp [e])]
    exact lookM_out fun h => hid (by simp only [List.map_cons, List.mem_cons]; exact .inr h)
theorem upm_in {M : Nat → Option O} : ∀ {ups : List (Nat × O)} {m : Nat → Option O}, (∀ x ∈ ups, M x.1 = some x.2) → ∀ {id : Nat}, (id ∈ ups.map (·.1) ∨ m id = M id) → upm m ups id = M id
  | [], m, _, id, h => by
    rcases h with h | h
    · cases h
    · exact h
  | (j, o) :: r, m, h, id, hid => by
    show upm (upd m j (some o)) r id = _
    refine upm_in (fun x hx => h x (by simp [hx])) ?_
    by_cases e : id = j
    · right
      subst e
      rw [upd_same]
      exact (h (id, o) (by simp)).symm
    · rcases hid with hid | hid
      · left; simpa [e] using hid
      · right; rw [upd_other _ _ e]; exact hid

/-- What was lent is of its make. -/
def SubL (m : Nat → Option O) : List (Nat × O) → Prop
  | [] => True
  | (id, o') :: r => (match m id with | some o => o.sub o' | none => False) ∧ SubL m r
theorem subL_at {m : Nat → Option O} : ∀ {ups : List (Nat × O)}, SubL m ups → ∀ x ∈ ups, ∃ o, m x.1 = some o ∧ o.sub x.2
  | [], _, x, hx => by cases hx
  | (id, o') :: r, h, x, hx => by
    obtain ⟨h1, h2⟩ := h
    rcases List.mem_cons.1 hx with rfl | hx
    · split at h1
      · rename_i o ho; exact ⟨o, ho, h1⟩
      · exact h1.elim
    · exact subL_at h2 x hx

/-- The caller's state behind a call that was walked in place. -/
theorem Sim.back {w0 w w' : World} {A : Nat → Prop} {locs : List (Option Loc)} {β β' : Nat → Option Loc} {σ σC : S} {a aC : Act} {L N : List Nat} (hs : Sim w0 A locs β σ a w)
    (hlv : ∀ id ∈ L, ∃ o, σ.m id = some o ∧ o.live = true) (hC : Sim w (calleeA A β σ.m L) (L.map β) β' σC aC w') (hpm : σC.pm = L)
    {upL upN : List (Nat × O)} (eL : upL.map (·.1) = L) (eN : upN.map (·.1) = N) (hupL : ∀ x ∈ upL, σC.m x.1 = some x.2) (hupN : ∀ x ∈ upN, σC.m x.1 = some x.2)
    (hN : ∀ id ∈ N, σ.m id = none) (hsub : ∀ x ∈ upL, ∃ o, σ.m x.1 = some o ∧ o.sub x.2) (hob : ∀ x ∈ upL ++ upN, obOk (L ++ N) x.2 = true) :
    ∃ β'', Sim w0 A locs β'' { σ with m := upm σ.m (upL ++ upN) } a w' ∧ ∀ (av : AV) (v : Value), refOk (L ++ N) av = true → AvRep w' (Bl (calleeA A β σ.m L) β' σC.m) β' σC.m av v → AvRep w' (Bl A β'' (upm σ.m (upL ++ upN))) β'' (upm σ.m (upL ++ upN)) av v := by
  have hup : ∀ x ∈ upL ++ upN, σC.m x.1 = some x.2 := fun x hx => by
    rcases List.mem_append.1 hx with hx | hx
    · exact hupL x hx
    · exact hupN x hx
  have eLN : (upL ++ upN).map (·.1) = L ++ N := by rw [List.map_append, eL, eN]
  have mI : ∀ id ∈ L ++ N, upm σ.m (upL ++ upN) id = σC.m id := fun id hid => upm_in hup (.inl (by rw [eLN]; exact hid))
  have mO : ∀ id, id ∉ L ++ N → upm σ.m (upL ++ upN) id = σ.m id := fun id hid => upm_other _ (by rw [eLN]; exact hid)
  have hβL : ∀ id ∈ L, β' id = β id := fun id hid => by
    obtain ⟨i, hi⟩ := List.getElem?_of_mem hid
    have := (hC.pm.2 i id (by rw [hpm]; exact hi)).1
    rw [List.getElem?_map, hi] at this
    injection this with this
    exact this.symm
  obtain ⟨β'', hβ''⟩ : ∃ β'' : Nat → Option Loc, β'' = fun id => if id ∈ L ++ N then β' id else β id := ⟨_, rfl⟩
  have bI : ∀ id ∈ L ++ N, β'' id = β' id := fun id hid => by rw [hβ'']; exact if_pos hid
  have bO : ∀ id, id ∉ L ++ N → β'' id = β id := fun id hid => by rw [hβ'']; exact if_neg hid
  have bS : ∀ id o, σ.m id = some o → β'' id = β id := fun id o ho => by
    by_cases h1 : id ∈ L
    · rw [bI id (by simp [h1]), hβL id h1]
    · refine bO id fun h2 => ?_
      rcases List.mem_append.1 h2 with h2 | h2
      · exact h1 h2
      · rw [hN id h2] at ho; cases ho
  -- a block of what was lent
  have lent : ∀ l, some l ∈ L.map β → ∃ id ∈ L, ∃ o, σ.m id = some o ∧ o.live = true ∧ β id = some l := fun l hl => by
    obtain ⟨id, hid, e⟩ := List.mem_map.1 hl
    obtain ⟨o, h1, h2⟩ := hlv id hid
    exact ⟨id, hid, o, h1, h2, e⟩
  have newb : ∀ id o l, σC.m id = some o → o.live = true → β' id = some l → ∀ b, l.has b → w.heap.size ≤ b ∨ ∃ id3 ∈ L, ∃ o3 l3, σ.m id3 = some o3 ∧ o3.live = true ∧ β id3 = some l3 ∧ l3.has b := fun id o l h1 h2 h3 b hb => by
    rcases (hC.new id o l h1 h2 h3 b hb).2.2 with h4 | ⟨l0, h4, h5⟩
    · exact .inl h4
    · obtain ⟨id3, q1, o3, q2, q3, q4⟩ := lent l0 h4
      exact .inr ⟨id3, q1, o3, l0, q2, q3, q4, h5⟩
  have hin : ∀ id o, upm σ.m (upL ++ upN) id = some o → (id ∈ L ++ N ∧ σC.m id = some o ∧ β'' id = β' id) ∨ (id ∉ L ++ N ∧ σ.m id = some o ∧ β'' id = β id) := fun id o ho => by
    by_cases h : id ∈ L ++ N
    · rw [mI id h] at ho; exact .inl ⟨h, ho, bI id h⟩
    · rw [mO id h] at ho; exact .inr ⟨h, ho, bO id h⟩
  have hA2 : ∀ b, A b → calleeA A β σ.m L b := fun b hb => by
    refine ⟨.inl hb, fun id hid l hl hbb => ?_⟩
    obtain ⟨o, h1, h2⟩ := hlv id hid
    exact (hs.new id o l h1 h2 hl b hbb).2.1 hb
  have hoth : ∀ id o l b, id ∉ L → σ.m id = some o → o.live = true → β id = some l → l.has b → calleeA A β σ.m L b := fun id o l b h0 h1 h2 h3 h4 => by
    refine ⟨.inr ⟨id, o, l, h1, h2, h3, h4⟩, fun id2 hid2 l2 hl2 hb2 => ?_⟩
    obtain ⟨o2, q1, q2⟩ := hlv id2 hid2
    exact h0 (hs.inj id id2 o o2 l l2 b h1 h2 h3 q1 q2 hl2 h4 hb2 ▸ hid2)
  have hBB : ∀ b, Bl A β'' (upm σ.m (upL ++ upN)) b → Bl (calleeA A β σ.m L) β' σC.m b := fun b hb => by
    rcases hb with hb | ⟨id, o, l, h1, h2, h3, h4⟩
    · exact .inl (hA2 b hb)
    · rcases hin id o h1 with ⟨_, q2, q3⟩ | ⟨q1, q2, q3⟩
      · exact .inr ⟨id, o, l, q2, h2, q3 ▸ h3, h4⟩
      · exact .inl (hoth id o l b (fun h => q1 (by simp [h])) q2 h2 (q3 ▸ h3) h4)
  have hsame : ∀ b, b < w.heap.size → (∀ id ∈ L, ∀ o l, σ.m id = some o → o.live = true → β id = some l → ¬ l.has b) → w'.heap[b]? = w.heap[b]? := fun b hb hn => by
    refine hC.fr.blk b hb fun l hl hbb => ?_
    obtain ⟨id, h1, o, h2, h3, h4⟩ := lent l hl
    exact hn id h1 o l h2 h3 h4 hbb
  have kk : Keeps w (Bl A β σ.m) w' (Bl A β'' (upm σ.m (upL ++ upN))) := by
    refine ⟨hC.fr.size, fun b hb hB => hsame b hb fun id hid o l h1 h2 h3 h4 => hB (.inr ⟨id, o, l, h1, h2, h3, h4⟩), fun b hb hB hB' => hB ?_⟩
    rcases hB' with hB' | ⟨id, o, l, h1, h2, h3, h4⟩
    · exact .inl hB'
    · rcases hin id o h1 with ⟨_, q2, q3⟩ | ⟨q1, q2, q3⟩
      · rcases newb id o l q2 h2 (q3 ▸ h3) b h4 with h5 | ⟨id3, _, o3, l3, p1, p2, p3, p4⟩
        · omega
        · exact .inr ⟨id3, o3, l3, p1, p2, p3, p4⟩
      · exact .inr ⟨id, o, l, q2, h2, q3 ▸ h3, h4⟩
  have gg : Goes β σ.m β'' (upm σ.m (upL ++ upN)) := fun id o ho => by
    by_cases h1 : id ∈ L
    · rw [← eL] at h1
      obtain ⟨x, hx, rfl⟩ := List.mem_map.1 h1
      obtain ⟨o0, q1, q2⟩ := hsub x hx
      rw [ho] at q1
      injection q1 with q1
      subst q1
      exact ⟨x.2, by rw [mI x.1 (by rw [← eL]; simp [h1])]; exact hupL x hx, q2, fun _ => bS _ _ ho⟩
    · have hn : id ∉ L ++ N := fun h2 => by
        rcases List.mem_append.1 h2 with h2 | h2
        · exact h1 h2
        · rw [hN id h2] at ho; cases ho
      exact ⟨o, by rw [mO id hn]; exact ho, o.sub_refl, fun _ => bS _ _ ho⟩
  have over : ∀ id ∈ L ++ N, upm σ.m (upL ++ upN) id = σC.m id ∧ β'' id = β' id := fun id hid => ⟨mI id hid, bI id hid⟩
  refine ⟨β'', hs.move kk gg bS (fun id o ho hl => ?_) ?_ ?_ ?_, fun av v hr h => AvRep.over over hBB hr h⟩
  · rcases hin id o ho with ⟨q1, q2, q3⟩ | ⟨q1, q2, q3⟩
    · right
      have hmem : ∃ x ∈ upL ++ upN, x.1 = id := by
        rw [← eLN] at q1
        obtain ⟨x, hx, e⟩ := List.mem_map.1 q1
        exact ⟨x, hx, e⟩
      obtain ⟨x, hx, rfl⟩ := hmem
      have : o = x.2 := by have := hup x hx; rw [q2] at this; injection this
      subst this
      exact ObRep.over over hBB q1 (hob x hx) (hC.ob x.1 x.2 q2)
    · refine .inl ⟨q2, fun l hl' b hb => hsame b (hs.new id o l q2 hl hl' b hb).1 fun id2 hid2 o2 l2 p1 p2 p3 p4 => ?_⟩
      exact q1 (hs.inj id id2 o o2 l l2 b q2 hl hl' p1 p2 p3 hb p4 ▸ by simp [hid2])
  · intro id id' o o' l l' b h1 h2 h3 h4 h5 h6 h7 h8
    have mixd : ∀ i j oi oj li lj, i ∈ L ++ N → σC.m i = some oi → oi.live = true → β' i = some li → j ∉ L ++ N → σ.m j = some oj → oj.live = true → β j = some lj → li.has b → lj.has b → False := fun i j oi oj li lj _ p2 p3 p4 p5 p6 p7 p8 p9 p10 => by
      rcases newb i oi li p2 p3 p4 b p9 with h9 | ⟨id3, r0, o3, l3, r1, r2, r3, r4⟩
      · have := (hs.new j oj lj p6 p7 p8 b p10).1; omega
      · exact p5 (hs.inj j id3 oj o3 lj l3 b p6 p7 p8 r1 r2 r3 p10 r4 ▸ by simp [r0])
    rcases hin id o h1 with ⟨q1, q2, q3⟩ | ⟨q1, q2, q3⟩ <;> rcases hin id' o' h4 with ⟨r1, r2, r3⟩ | ⟨r1, r2, r3⟩
    · exact hC.inj id id' o o' l l' b q2 h2 (q3 ▸ h3) r2 h5 (r3 ▸ h6) h7 h8
    · exact (mixd id id' o o' l l' q1 q2 h2 (q3 ▸ h3) r1 r2 h5 (r3 ▸ h6) h7 h8).elim
    · exact (mixd id' id o' o l' l r1 r2 h5 (r3 ▸ h6) q1 q2 h2 (q3 ▸ h3) h8 h7).elim
    · exact hs.inj id id' o o' l l' b q2 h2 (q3 ▸ h3) r2 h5 (r3 ▸ h6) h7 h8
  · intro id o l h1 h2 h3 b hb
    rcases hin id o h1 with ⟨q1, q2, q3⟩ | ⟨q1, q2, q3⟩
    · obtain ⟨n1, n2, n3⟩ := hC.new id o l q2 h2 (q3 ▸ h3) b hb
      refine ⟨n1, fun hA => n2 (hA2 b hA), ?_⟩
      rcases newb id o l q2 h2 (q3 ▸ h3) b hb with h4 | ⟨id3, _, o3, l3, p1, p2, p3, p4⟩
      · exact .inl (Nat.le_trans hs.fr.size h4)
      · exact (hs.new id3 o3 l3 p1 p2 p3 b p4).2.2
    · obtain ⟨n1, n2, n3⟩ := hs.new id o l q2 h2 (q3 ▸ h3) b hb
      exact ⟨Nat.lt_of_lt_of_le n1 hC.fr.size, n2, n3⟩
  · refine ⟨hC.fr.os.trans hs.fr.os, hC.fr.tape.trans hs.fr.tape, hC.fr.output.trans hs.fr.output, Nat.le_trans hs.fr.size hC.fr.size, fun b hb hl => ?_, hs.fr.tb, Nat.le_trans hs.fr.drawn hC.fr.drawn⟩
    rw [hsame b (Nat.lt_of_lt_of_le hb hs.fr.size) fun id hid o l h1 h2 h3 h4 => ?_]
    · exact hs.fr.blk b hb hl
    · rcases (hs.new id o l h1 h2 h3 b h4).2.2 with h5 | ⟨l0, h5, h6⟩
      · omega
      · exact hl l0 h5 h6

section
variable {P : Program} {T : TypeId → Option TI} {t : Nat → AV} {m : Nat → Option O} {ep n : Nat} {pm : List Nat} {k : S → Prop}
variable {ops : Array Oper} {rest : List Oper} {d : Nat} {oty : TypeId} {pos : String} {after : Array Edge} {g : Option (Nat × Bool)}

def inOk (L : List Nat) (ups : List (Nat × O)) (avs : List AV) : Bool := avs.all (refOk L) && ups.all fun x => x.2.live && obOk L x.2
def notDead : AV → Bool
  | .dead => false
  | _ => true
def outOk (L N : List Nat) (m : Nat → Option O) (ups : List (Nat × O)) (avs : List AV) : Bool :=
  (match avs with | [a] => refOk (L ++ N) a && notDead a | l => l.all fun a => ref0 (L ++ N) a && notDead a) && (ups.all fun x => obOk (L ++ N) x.2) && N.all fun id => (m id).isNone

/-- How the caller goes on. -/
def InlR (P : Program) (T : TypeId → Option TI) (ops : Array Oper) (rest : List Oper) (t : Nat → AV) (m : Nat → Option O) (ep n : Nat) (pm : List Nat) (k : S → Prop) (L : List Nat) (d : Nat) (fn : Func) (σ : S) : Prop :=
  ∃ N : List Nat, σ.pm = L ∧ pickK σ.m L fun upL => pickK σ.m N fun upN => forceL (fn.results.toList.map (retAV T σ)) fun avs => outOk L N m (upL ++ upN) avs = true ∧ SubL m upL ∧
    forceM m (upL ++ upN) fun m' => amOps P T ops rest ⟨putT t (some d) (packAV avs), m', ep, n, pm⟩ k
def inlQ (P : Program) (T : TypeId → Option TI) (ops : Array Oper) (rest : List Oper) (t : Nat → AV) (m : Nat → Option O) (ep n : Nat) (pm : List Nat) (k : S → Prop) (L : List Nat) (d : Nat) (fn : Func) : Exit → S → Prop
  | .normal, σ => InlR P T ops rest t m ep n pm k L d fn σ
  | .ret, σ => InlR P T ops rest t m ep n pm k L d fn σ
  | _, _ => False

theorem ext_inline (hT : TOk P T) {f : FuncId} {fn : Func} {c : Code} (hf : P.funcs[f]? = some fn) (hn : (fn.name == "runtime.NumGoroutine") = false) (hb : fn.body = some c) (L : List Nat) (e0 : Nat) {args : Array Operand} {ts : Array TypeId} (hln : Nat.ble args.size fn.ntmps = true) (hd : dstOk (some d) n = true)
    (h : pickK m L fun ups => forceL (args.toList.map (evT t)) fun avs => inOk L ups avs = true ∧ amC P T c (inlQ P T ops rest t m ep n pm k L d fn) ⟨argsT avs, lookM ups, e0, fn.ntmps, L⟩) :
    ExtOp P ⟨some d, .call { callee := .value (.func f), args := args, argTypes := ts }, oty, pos, after, g⟩ ⟨t, m, ep, n, pm⟩ fun σ' => amOps P T ops rest σ' k := by
  intro w0 A locs β a w hs next Q hnext
  obtain ⟨ups, e1, e2, h⟩ := pickK_ex h
  rw [forceL_eq] at h
  obtain ⟨hin, hwalk⟩ := h
  unfold inOk at hin
  rw [Bool.and_eq_true, List.all_eq_true, List.all_eq_true] at hin
  obtain ⟨hin1, hin2⟩ := hin
  have hups : ∀ x ∈ ups, x.2.live = true ∧ obOk L x.2 = true := fun x hx => by
    have := hin2 x hx
    rwa [Bool.and_eq_true] at this
  have hlv : ∀ id ∈ L, ∃ o, m id = some o ∧ o.live = true := fun id hid => by
    rw [← e1] at hid
    obtain ⟨x, hx, rfl⟩ := List.mem_map.1 hid
    exact ⟨x.2, e2 x hx, (hups x hx).1⟩
  have m2I : ∀ id ∈ L, lookM ups id = m id := fun id hid => lookM_in e2 (by rw [e1]; exact hid)
  have m2O : ∀ id o, lookM ups id = some o → id ∈ L ∧ m id = some o ∧ obOk L o = true := fun id o ho => by
    by_cases hid : id ∈ L
    · rw [m2I id hid] at ho
      rw [← e1] at hid
      obtain ⟨x, hx, rfl⟩ := List.mem_map.1 hid
      have := e2 x hx
      rw [ho] at this
      injection this with this
      subst this
      exact ⟨by rw [← e1]; exact hid, ho, (hups x hx).2⟩
    · rw [lookM_out (by rw [e1]; exact hid)] at ho; cases ho
  have hBB : ∀ b, Bl (calleeA A β m L) β (lookM ups) b → Bl A β m b := fun b hb => by
    rcases hb with hb | ⟨id, o, l, h1, h2, h3, h4⟩
    · exact hb.1
    · exact .inr ⟨id, o, l, (m2O id o h1).2.1, h2, h3, h4⟩
  have over : ∀ id ∈ L, lookM ups id = m id ∧ β id = β id := fun id hid => ⟨m2I id hid, rfl⟩
  have hlen : (args.map a.eval).size = args.size := Array.size_map
  have hsim : Sim w (calleeA A β m L) (L.map β) β ⟨argsT (args.toList.map (evT t)), lookM ups, e0, fn.ntmps, L⟩ { tmps := args.map a.eval ++ Array.replicate (fn.ntmps - (args.map a.eval).size) Go.undef, defers := [] } w := by
    have hln' := Nat.le_of_ble_eq_true hln
    refine { size := by simp; omega, defers := rfl, slot := fun i => ?_, ob := fun id o ho => ?_, inj := fun id id' o o' l l' b h1 h2 h3 h4 h5 h6 => ?_, new := fun id o l h1 h2 h3 b hbb => ?_, fr := Fr.refl _ _ (hs.tb fun l hl => ?_), lt := fun b hbb => hs.live_lt b hbb.1, pm := ⟨by simp, fun i id hi => ?_⟩ }
    · show AvRep w _ _ (lookM ups) (argsT (args.toList.map (evT t)) i) _
      by_cases hi : i < args.size
      · have ei : (args.map a.eval ++ Array.replicate (fn.ntmps - (args.map a.eval).size) Go.undef).getD i Go.undef = a.eval args[i] := by
          simp [Array.getD_eq_getD_getElem?, Array.getElem?_append_left, hi]
        have ea : argsT (args.toList.map (evT t)) i = evT t args[i] := by
          unfold argsT
          simp [hi]
        rw [ei, ea]
        exact AvRep.over over hBB (hin1 _ (by simp only [List.mem_map]; exact ⟨args[i], by simp, rfl⟩)) (evT_eval hs args[i])
      · have ei : (args.map a.eval ++ Array.replicate (fn.ntmps - (args.map a.eval).size) Go.undef).getD i Go.undef = Go.undef := by
          simp only [Array.getD_eq_getD_getElem?, Array.getElem?_append_right (by rw [hlen]; omega : (args.map a.eval).size ≤ i), Array.getElem?_replicate]
          split <;> rfl
        have ea : argsT (args.toList.map (evT t)) i = .undef := by
          unfold argsT
          rw [List.getElem?_eq_none (by simp; omega)]
        rw [ei, ea]
        rfl
    · obtain ⟨q1, q2, q3⟩ := m2O id o ho
      exact ObRep.over over hBB q1 q3 (hs.ob id o q2)
    · exact hs.inj id id' o o' l l' b (m2O id o h1).2.1 h2 h3 (m2O id' o' h4).2.1 h5 h6
    · obtain ⟨q1, q2, _⟩ := m2O id o h1
      obtain ⟨n1, _, _⟩ := hs.new id o l q2 h2 h3 b hbb
      exact ⟨n1, fun hA => hA.2 id q1 l h3 hbb, .inr ⟨l, List.mem_map.2 ⟨id, q1, h3⟩, hbb⟩⟩
    · obtain ⟨id, hid, e⟩ := List.mem_map.1 hl
      obtain ⟨o, h1, h2⟩ := hlv id hid
      exact ⟨id, o, h1, h2, e⟩
    · have hi : L[i]? = some id := hi
      refine ⟨by rw [List.getElem?_map, hi]; rfl, ?_⟩
      obtain ⟨o, h1, _⟩ := hlv id (List.mem_of_getElem? hi)
      exact ⟨o, by show lookM ups id = _; rw [m2I id (List.mem_of_getElem? hi)]; exact h1⟩
  unfold Oper.wp
  have hrun : (execOp a.eval ⟨some d, .call { callee := .value (.func f), args := args, argTypes := ts }, oty, pos, after, g⟩).run P w = .ok (.enter f (args.map a.eval)) w := by
    have hcf : ∀ (vs : Array Value), (callFunc f vs).run P w = .ok (.enter f vs) w := fun vs => by
      have hb' : ¬ fn.body = none := fun e => by rw [hb] at e; cases e
      have hname' : ¬ fn.name = "runtime.NumGoroutine" := by simpa using hn
      simp [callFunc, hf, hname', hb']
    have hfe : a.eval (.func f) = .func (.func f) #[] #[] := rfl
    simp only [execOp, resolve, Deferred.ofValue, hfe, Sem.run_bind, Sem.run_pure, Result.andThen_ok, invoke, Array.empty_append, hcf, Array.append_empty]
  rw [hrun, Oper.upon_enter]
  have hcalls : Calls P f (args.map a.eval) w fun e w' => ∃ (v : Value) (σ2 : S) (β2 : Nat → Option Loc) (av : AV), e = .returned v ∧ Sim w0 A locs β2 ⟨t, σ2.m, ep, n, pm⟩ a w' ∧ AvRep w' (Bl A β2 σ2.m) β2 σ2.m av v ∧ amOps P T ops rest ⟨putT t (some d) av, σ2.m, ep, n, pm⟩ k := by
    refine calls_of_wp hf hb (wp_mono (amC_sound hT c _ _ hwalk β _ w hsim) ?_)
    rintro e a' w' ⟨σ', β', h1, h2⟩
    have hret : (e = .normal ∨ e = .ret) ∧ InlR P T ops rest t m ep n pm k L d fn σ' := by
      cases e with
      | normal => exact ⟨.inl rfl, h1⟩
      | ret => exact ⟨.inr rfl, h1⟩
      | _ => exact h1.elim
    obtain ⟨he, N, hpm, hr⟩ := hret
    obtain ⟨upL, u1, u2, hr⟩ := pickK_ex hr
    obtain ⟨upN, v1, v2, hr⟩ := pickK_ex hr
    rw [forceL_eq] at hr
    obtain ⟨hout, hsub, hk⟩ := hr
    rw [forceM_eq] at hk
    unfold outOk at hout
    rw [Bool.and_eq_true, Bool.and_eq_true, List.all_eq_true, List.all_eq_true] at hout
    obtain ⟨⟨hav, hob⟩, hN⟩ := hout
    obtain ⟨β2, hs2, hval⟩ := hs.back (σ := ⟨t, m, ep, n, pm⟩) (N := N) hlv h2 hpm u1 v1 u2 v2 (fun id hid => by have := hN id hid; simpa using this) (subL_at hsub) hob
    have hnd : ∀ rv ∈ fn.results.toList, retAV T σ' rv ≠ .dead := fun rv hrv e => by
      have hm : retAV T σ' rv ∈ fn.results.toList.map (retAV T σ') := List.mem_map_of_mem hrv
      rw [e] at hm
      revert hav
      split
      · rename_i a0 h0
        rw [h0, List.mem_singleton] at hm
        rw [← hm]
        intro hav
        simp [notDead] at hav
      · intro hav
        have := List.all_eq_true.1 hav _ hm
        simp [notDead] at this
    have hrest : ∀ rvs : List ResultVar, (∀ rv ∈ rvs, retAV T σ' rv ≠ .dead) → ∃ us : List Value, us.length = rvs.length ∧ ∀ (j : Nat) (rv : ResultVar), rvs[j]? = some rv → (retSem a' rv).run P w' = .ok (us.getD j Go.undef) w' ∧ AvRep w' (Bl (calleeA A β m L) β' σ'.m) β' σ'.m (retAV T σ' rv) (us.getD j Go.undef) := by
      intro rvs
      induction rvs with
      | nil => exact fun _ => ⟨[], rfl, fun j rv hj => by simp at hj⟩
      | cons x l ih =>
        intro hnd
        obtain ⟨us, h3, h4⟩ := ih fun rv' hrv => hnd rv' (by simp [hrv])
        obtain ⟨v, h5, h6⟩ := ret_val hT h2 x (hnd x (by simp))
        refine ⟨v :: us, by simp [h3], fun j rv' hj => ?_⟩
        cases j with
        | zero => simp at hj; subst hj; exact ⟨by simpa using h5, by simpa using h6⟩
        | succ j => simpa using h4 j rv' (by simpa using hj)
    obtain ⟨us, hul, hus⟩ := hrest fn.results.toList hnd
    have hrun2 : (results fn a'.tmps).run P w' = .ok (packR us.toArray) w' := by
      have hm := mapM_run (P := P) (w := w') (retSem a') fn.results.toList us hul.symm (fun j rv' hj => (hus j rv' hj).1)
      rw [results_eq]
      simp only [Array.mapM_eq_mapM_toList, Sem.run_bind, Sem.run_map, hm, Result.andThen_ok, Sem.run_pure]
      show _ = Result.ok (packR us.toArray) w'
      unfold packR
      split
      · rename_i h1
        have h1' : us.length = 1 := by simpa using h1
        match us, h1' with
        | [x], _ => rfl
      · rfl
    have hrep : AvRep w' (Bl A β2 (upm m (upL ++ upN))) β2 (upm m (upL ++ upN)) (packAV (fn.results.toList.map (retAV T σ'))) (packR us.toArray) := by
      revert hav
      generalize hl : fn.results.toList.map (retAV T σ') = avs
      have hal : avs.length = us.length := by rw [← hl, List.length_map, hul]
      have hat : ∀ (j : Nat) (av : AV), avs[j]? = some av → AvRep w' (Bl (calleeA A β m L) β' σ'.m) β' σ'.m av (us.getD j Go.undef) := fun j av hj => by
        rw [← hl, List.getElem?_map, Option.map_eq_some_iff] at hj
        obtain ⟨rv, hrv, rfl⟩ := hj
        exact (hus j rv hrv).2
      intro hav
      match avs, hav, hal, hat with
      | [a0], hav, hal, hat =>
        rw [Bool.and_eq_true] at hav
        match us, hal with
        | [u], _ => exact hval a0 u hav.1 (hat 0 a0 rfl)
      | [], _, hal, _ =>
        match us, hal with
        | [], _ => rfl
      | a0 :: a1 :: r, hav, hal, hat =>
        refine packAV_rep (by simp [← hal]) fun j av hj => ?_
        have hav := List.all_eq_true.1 hav av (List.mem_of_getElem? hj)
        rw [Bool.and_eq_true] at hav
        have h7 : refOk (L ++ N) av = true := by
          cases av <;> first | exact hav.1 | (simp [ref0] at hav)
        have h8 := hval av (us.getD j Go.undef) h7 (hat j av hj)
        have e9 : us.toArray.getD j Go.undef = us.getD j Go.undef := by simp [Array.getD_eq_getD_getElem?, List.getD_eq_getElem?_getD]
        rw [e9]
        cases av <;> first | exact h8 | (simp [ref0] at hav)
    have fin : ∃ (v : Value) (σ2 : S) (β2 : Nat → Option Loc) (av : AV), Ending.returned (packR us.toArray) = .returned v ∧ Sim w0 A locs β2 ⟨t, σ2.m, ep, n, pm⟩ a w' ∧ AvRep w' (Bl A β2 σ2.m) β2 σ2.m av v ∧ amOps P T ops rest ⟨putT t (some d) av, σ2.m, ep, n, pm⟩ k :=
      ⟨_, ⟨t, upm m (upL ++ upN), ep, n, pm⟩, β2, _, rfl, hs2, hrep, hk⟩
    rcases he with rfl | rfl
    · exact ⟨h2.defers, _, hrun2, fin⟩
    · exact ⟨h2.defers, _, hrun2, fin⟩
  refine hcalls.mono ?_
  rintro e w' ⟨v, σ2, β2, av, rfl, hs2, hv, hk⟩
  refine hnext _ hk β2 _ _ ?_
  exact hs2.put (dst := some d) (dst_lt' hd) hv

/-- The end of a function that is walked in place. -/
theorem inl_ret {L : List Nat} {fn : Func} {σ : S} (N : List Nat) (hp : σ.pm = L) (h : pickK σ.m L fun upL => pickK σ.m N fun upN => forceL (fn.results.toList.map (retAV T σ)) fun avs => outOk L N m (upL ++ upN) avs = true ∧ SubL m upL ∧
    forceM m (upL ++ upN) fun m' => amOps P T ops rest ⟨putT t (some d) (packAV avs), m', ep, n, pm⟩ k) : inlQ P T ops rest t m ep n pm k L d fn .ret σ := ⟨N, hp, h⟩
theorem inl_nrm {L : List Nat} {fn : Func} {σ : S} (N : List Nat) (hp : σ.pm = L) (h : pickK σ.m L fun upL => pickK σ.m N fun upN => forceL (fn.results.toList.map (retAV T σ)) fun avs => outOk L N m (upL ++ upN) avs = true ∧ SubL m upL ∧
    forceM m (upL ++ upN) fun m' => amOps P T ops rest ⟨putT t (some d) (packAV avs), m', ep, n, pm⟩ k) : inlQ P T ops rest t m ep n pm k L d fn .normal σ := ⟨N, hp, h⟩
end
end Go.Am

