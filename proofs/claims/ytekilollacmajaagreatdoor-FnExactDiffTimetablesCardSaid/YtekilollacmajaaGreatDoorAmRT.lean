/- The abstract machine: a copy of nested data is a region of its caller's, where package variables lie in memory. -/
import Derived.Test.YtekilollacmajaaGreatDoorAmR
namespace Go.Am
open Go

/-- Data of a kind that no package variable holds. -/
inductive NoTab : D → Prop where
  | int (k : IntKind) (n : Int) : k ≠ .u64 → NoTab (.int k n)
  | bool (b : Bool) : NoTab (.bool b)
  | str (s : ByteArray) : NoTab (.str s)
  | list (rows : List (List D)) : (∀ r ∈ rows, r ≠ []) → (∀ r ∈ rows, ∀ d ∈ r, NoTab d) → NoTab (.list rows)
  | agg (cs : List D) : (∀ d ∈ cs, NoTab d) → NoTab (.agg cs)

/-- The block of a package variable. -/
def IsTab (b : Nat) : Prop := ∃ cs, (b, cs) ∈ tabs
/-- The package variables hold words of 64 bits without a sign. -/
def TabU : Prop := ∀ g cs, (g, cs) ∈ tabs → ∀ j, cs.getD j Go.undef = Go.undef ∨ ∃ n, cs.getD j Go.undef = .int .u64 n

theorem Rep.noTab {w : World} {B T : Nat → Prop} {v : Value} {d : D} (h : Rep w B v d) (hn : NoTab d)
    (hT : ∀ b, T b → ∃ cs ty fz, w.heap[b]? = some (.cells cs ty fz) ∧ ∀ j, cs.getD j Go.undef = Go.undef ∨ ∃ n, cs.getD j Go.undef = .int .u64 n) : Rep w (fun b => B b ∨ T b) v d := by
  induction h with
  | int k n => exact .int k n
  | bool b => exact .bool b
  | str s => exact .str s
  | other v => cases hn
  | nil a c => exact .nil a c
  | list ad n c rows sz g hnl hc hr hb hB hs hcell hrep ih =>
    cases hn with
    | list _ hne hall =>
    cases rows with
    | nil => simp only [List.length_nil] at hnl; subst hnl; exact .nil _ _
    | cons r rest =>
      cases r with
      | nil => exact absurd rfl (hne [] (by simp))
      | cons d0 r0 =>
        have hj0 : ((d0 :: r0) :: rest).flatten[0]? = some d0 := by simp
        have hnd : NoTab d0 := hall (d0 :: r0) (by simp) d0 (by simp)
        refine .list ad n c _ sz g hnl hc hr hb ?_ hs hcell fun j d hj => ih j d hj ?_
        · rintro (h1 | h1)
          · exact hB h1
          · obtain ⟨cs, ty, fz, e, hu⟩ := hT _ h1
            have hc0 := (hcell 0 d0 hj0).1
            have hr0 := hrep 0 d0 hj0
            have hval : ∃ j, g 0 = cs.getD j Go.undef ∧ cs[j]? = some (g 0) := by
              rw [add_spot hs] at hc0
              unfold World.cell? at hc0
              rw [e] at hc0
              simp only [Option.isSome_none, Bool.false_eq_true, if_false] at hc0
              refine ⟨ad.off + 0, ?_, ?_⟩
              · rw [Array.getD_eq_getD_getElem?, hc0]; rfl
              · exact hc0
            obtain ⟨j, e1, e2⟩ := hval
            rcases hu j with h2 | ⟨n, h2⟩
            · rw [← e1] at h2
              rw [h2] at hr0
              cases hnd <;> cases hr0
            · rw [← e1] at h2
              rw [h2] at hr0
              cases hnd with
              | int k m hk => cases hr0; exact hk rfl
              | bool b => cases hr0
              | str s => cases hr0
              | list rows h1 h2 => cases hr0
              | agg cs h1 => cases hr0
        · obtain ⟨r1, hr1, hd1⟩ := List.mem_flatten.1 (List.mem_of_getElem? hj)
          exact hall r1 hr1 d hd1
  | agg vs ds hs _ ih =>
    cases hn with
    | agg _ hall => exact .agg vs ds hs fun j d hj => ih j d hj (hall d (List.mem_of_getElem? hj))
  | fn f vs ds hs _ ih => cases hn
  | ptr ad ds g hb hB hs hcell _ ih => cases hn

/-- A function that copies nested data it was lent to read: what it hands back is new memory, a region of the caller's. -/
theorem callOk_copyT (hu : TabU) {P : Program} {f : FuncId} {d d' : D} (hnt : NoTab d) (h : CallOk P f [.reg true d] { res := [.imm d'], muts := [.reg true], sep := false }) : CallOk P f [.imm d] { res := [.reg d'] } := by
  obtain ⟨hE, _, _, hC⟩ := h
  refine ⟨hE, by simp, mutOk_imm rfl _, ?_⟩
  intro w A locs β vs h hs
  have hl : locs = [] := List.eq_nil_of_length_eq_zero h.pm.1.symm
  subst hl
  have hA : ∀ b, Bl A β (inM [.imm d]) b → A b := by
    rintro b (hA | ⟨id, o, l, h1, _⟩)
    · exact hA
    · exfalso
      unfold inM at h1
      match id with
      | 0 => cases h1
      | n + 1 => cases h1
  have h0 : Rep w (Bl A β (inM [.imm d])) (vs.getD 0 Go.undef) d := h.slot 0
  have hT := h.fr.tb
  have h0' : Rep w (fun b => Bl A β (inM [.imm d]) b ∨ IsTab b) (vs.getD 0 Go.undef) d := h0.noTab hnt (fun b ⟨g, hg⟩ => by
    obtain ⟨⟨ty, fz, e⟩, _⟩ := hT b g hg
    exact ⟨g, ty, fz, e, hu b g hg⟩)
  let F : Nat → Prop := fun b => b < w.heap.size ∧ ¬ A b ∧ ¬ IsTab b
  obtain ⟨ol, hol⟩ := regLoc_ex F w
  have hm1 : ∀ id o, inM [.reg true d] id = some o → id = 0 ∧ o = .reg true := fun id o hid => by
    match id with
    | 0 => injection hid with hid; exact ⟨rfl, hid.symm⟩
    | n + 1 => cases hid
  have hTl : Tb w [ol] := fun g cs hg => ⟨(hT g cs hg).1, fun l hl hh => by
    simp only [List.mem_singleton] at hl
    rw [← hl] at hol
    exact (hol.has.1 hh).2.2 ⟨cs, hg⟩⟩
  have hS1 : Sim w (fun b => A b ∨ IsTab b) [ol] (fun i => if i = 0 then ol else none) (inS [.reg true d] vs.size) ⟨vs, []⟩ w := by
    refine { size := rfl, defers := rfl, slot := ?_, ob := ?_, inj := ?_, new := ?_, fr := Fr.refl _ _ hTl, lt := fun b hb => ?_, pm := ?_ }
    · intro i
      match i with
      | 0 =>
        refine tv_mk (c := true) rfl ?_
        show RegRd ol _ _
        refine hol.rd (h0'.keep ⟨Nat.le_refl _, fun _ _ _ => rfl, fun b _ hb hb' => hb hb'⟩) fun b hb hn => ⟨hb, fun ha => hn (.inl (.inl ha)), fun ha => hn (.inr ha)⟩
      | n + 1 =>
        show vs.getD (n + 1) Go.undef = Go.undef
        have : vs.size ≤ n + 1 := by rw [hs]; simp
        simp [Array.getD, Nat.not_lt.2 this]
    · intro id o hid
      obtain ⟨rfl, rfl⟩ := hm1 id o hid
      exact hol.ob rfl (Nat.le_refl _) fun _ _ => rfl
    · intro id id' o o' l l' b h1 _ _ h2 _ _ _ _
      rw [(hm1 id o h1).1, (hm1 id' o' h2).1]
    · intro id o l h1 _ h3 b hb
      obtain ⟨rfl, rfl⟩ := hm1 id o h1
      have h3 : ol = some l := h3
      rw [h3] at hol
      have hF := hol.has.1 hb
      exact ⟨hF.1, (fun ha => ha.elim hF.2.1 hF.2.2), .inr ⟨l, by rw [h3]; simp, hb⟩⟩
    · rcases hb with hb | ⟨cs, hb⟩
      · exact h.lt b hb
      · obtain ⟨⟨ty, fz, e⟩, _⟩ := hT b cs hb
        exact lt_of_cells e
    · refine ⟨rfl, fun i id hi => ?_⟩
      match i with
      | 0 => injection hi with hi; subst hi; exact ⟨rfl, _, rfl⟩
      | n + 1 => cases hi
  refine (hC w (fun b => A b ∨ IsTab b) [ol] _ vs hS1 hs).mono ?_
  rintro e w' ⟨vals, β', rfl, hS⟩
  have hβ0 : β' 0 = ol := by
    have := (hS.pm.2 0 0 rfl).1
    injection this with this
    exact this.symm
  have hsame : ∀ b, b < w.heap.size → w'.heap[b]? = w.heap[b]? := fun b hb => by
    by_cases hF : F b
    · rcases hS.ob 0 (.reg true) rfl with hn | ⟨l, r, h1, h2, h3, h4⟩
      · rw [hβ0] at hn
        rcases hol with ⟨_, hno⟩ | ⟨b0, _, e⟩
        · exact absurd hF (hno b)
        · rw [hn] at e; cases e
      · rw [hβ0] at h1
        rcases hol with ⟨e, _⟩ | ⟨b0, _, e⟩
        · rw [h1] at e; cases e
        · rw [h1] at e; injection e with e; subst e
          injection h2 with h2; subst h2
          rcases h4 b hF with h5 | ⟨h5, _⟩
          · exact h5
          · cases h5
    · refine hS.fr.blk b hb fun l hlm hh => hF ?_
      simp only [List.mem_singleton] at hlm
      rw [← hlm] at hol
      exact hol.has.1 hh
  have hslot : Rep w' (Bl (sepA w (fun b => A b ∨ IsTab b) [ol] false) β' (outM [.reg true d] { res := [.imm d'], muts := [.reg true], sep := false })) (vals.getD 0 Go.undef) d' := hS.slot 0
  have hnew : ∀ b, b < w.heap.size → Bl (sepA w (fun b => A b ∨ IsTab b) [ol] false) β' (outM [.reg true d] { res := [.imm d'], muts := [.reg true], sep := false }) b := fun b hb => by
    by_cases ha : A b ∨ IsTab b
    · exact .inl (.inl ha)
    · have hF : F b := ⟨hb, fun h => ha (.inl h), fun h => ha (.inr h)⟩
      cases hol' : ol with
      | none =>
        rw [hol'] at hol
        rcases hol with ⟨_, hno⟩ | ⟨b0, _, e⟩
        · exact absurd hF (hno b)
        · cases e
      | some l =>
        rw [hol'] at hol
        exact .inr ⟨0, .reg true, l, rfl, rfl, by rw [hβ0, hol'], hol.has.2 hF⟩
  let F2 : Nat → Prop := fun b => w.heap.size ≤ b ∧ b < w'.heap.size
  obtain ⟨ol2, hol2⟩ := regLoc_ex F2 w'
  have hm2 : ∀ id o, outM [.imm d] { res := [.reg d'] } id = some o → id = 1000 ∧ o = .reg true := fun id o hid => by
    unfold outM at hid
    split at hid
    · match id with
      | 0 => cases hid
      | n + 1 => cases hid
    · rename_i h1000
      have : ∃ k, id = 1000 + k := ⟨id - 1000, by omega⟩
      obtain ⟨k, rfl⟩ := this
      rw [Nat.add_sub_cancel_left] at hid
      match k with
      | 0 => injection hid with hid; exact ⟨rfl, hid.symm⟩
      | n + 1 => cases hid
  refine ⟨vals, fun i => if i = 1000 then ol2 else none, rfl, ?_⟩
  refine { size := hS.size, defers := rfl, slot := ?_, ob := ?_, inj := ?_, new := ?_, fr := ⟨hS.fr.os, hS.fr.tape, hS.fr.output, hS.fr.size, fun b hb _ => hsame b hb, hT, hS.fr.drawn⟩, lt := ?_, pm := ⟨rfl, fun i id hi => by cases hi⟩ }
  · intro i
    match i with
    | 0 =>
      refine tv_mk (c := true) rfl ?_
      show RegRd ol2 _ _
      exact hol2.rd hslot fun b hb hn => ⟨Nat.not_lt.1 fun hlt => hn (hnew b hlt), hb⟩
    | n + 1 => exact hS.slot (n + 1)
  · intro id o hid
    obtain ⟨rfl, rfl⟩ := hm2 id o hid
    exact hol2.ob rfl (Nat.le_refl _) fun _ _ => rfl
  · intro id id' o o' l l' b h1 _ _ h2 _ _ _ _
    rw [(hm2 id o h1).1, (hm2 id' o' h2).1]
  · intro id o l h1 _ h3 b hb
    obtain ⟨rfl, rfl⟩ := hm2 id o h1
    have h3 : ol2 = some l := h3
    rw [h3] at hol2
    have hF := hol2.has.1 hb
    refine ⟨hF.2, ?_, .inl hF.1⟩
    rintro (ha | ⟨_, hb2, _⟩)
    · have := h.lt b ha
      exact absurd hF.1 (Nat.not_le.2 this)
    · exact absurd hF.1 (Nat.not_le.2 hb2)
  · rintro b (ha | ⟨_, hb2, _⟩)
    · exact Nat.lt_of_lt_of_le (h.lt b ha) hS.fr.size
    · exact Nat.lt_of_lt_of_le hb2 hS.fr.size

end Go.Am

