/- The abstract machine, part 10: literals and append stand for the model's. -/
import Derived.Test.YtjebblagiiajaaaAm9
namespace Go.Am
open Go

theorem fieldsB_places (P : Program) : ∀ (fl : List Field) (fs : List (Nat × Nat × Bool)), fieldsB P fl fs = true →
    fl.mapM (fun f => (P.info? f.type).map fun i => (f.offset, i.size)) = some (fs.map fun x => (x.1, x.2.1))
  | [], [], _ => by simp
  | [], _ :: _, h => by simp [fieldsB] at h
  | _ :: _, [], h => by simp [fieldsB] at h
  | f :: fl, x :: fs, h => by
    simp only [fieldsB, Bool.and_eq_true, decide_eq_true_eq] at h
    obtain ⟨⟨⟨⟨h1, h2⟩, _⟩, _⟩, h5⟩ := h
    cases hi : P.info? f.type with
    | none => simp [hi] at h2
    | some i =>
      simp [hi] at h2
      simp [List.mapM_cons, hi, fieldsB_places P fl fs h5, h1, h2]

section
variable {P : Program} {T : TypeId → Option TI} (hT : TOk P T) {w0 w : World} {A : Nat → Prop} {locs : List (Option Loc)} {β : Nat → Option Loc} {σ : S} {a : Act}
variable (h : Sim w0 A locs β σ a w) {o : Oper} (hd : ∀ d, o.dst = some d → d < σ.n) {K : Eff → Prop} {m' : Nat → Option O} (hm : ∀ id ob, m' id = some ob → σ.m id = some ob)
variable (hn : ∀ d, o.dst = some d → m' (nid σ.ep d) = none → σ.m (nid σ.ep d) = none)

theorem upm_kills_none (m : Nat → Option O) (i : Nat) : ∀ (ks : List Nat), (∀ k ∈ ks, m k ≠ none) → m i = none → upm m (kills ks) i = none := by
  intro ks hks hi
  rw [upm_kills_other _ _ _ (fun hmem => hks i hmem hi), hi]

theorem dcells_live {m : Nat → Option O} {av : AV} {ds : List D} {ks : List Nat} (hc : dcells m av = some (ds, ks)) : ∀ k ∈ ks, m k ≠ none := by
  unfold dcells at hc
  split at hc
  · split at hc
    · injection hc with hc; simp only [Prod.mk.injEq] at hc; obtain ⟨_, rfl⟩ := hc; intro k hk; cases hk
    · cases hc
  · split at hc
    · injection hc with hc; simp only [Prod.mk.injEq] at hc; obtain ⟨_, rfl⟩ := hc; intro k hk; cases hk
    · cases hc
  · split at hc
    · rename_i hmm
      injection hc with hc; simp only [Prod.mk.injEq] at hc; obtain ⟨_, rfl⟩ := hc
      intro k hk; simp at hk; subst hk; rw [hmm]; simp
    · cases hc
  · cases hc

theorem putRows_live {m : Nat → Option O} {sz : Nat} : ∀ (parts : List (Nat × AV)) (rows : List (List D)) (ks : List Nat) (rows' : List (List D)) (ks' : List Nat), putRows m sz parts rows ks = some (rows', ks') → (∀ k ∈ ks, m k ≠ none) → ∀ k ∈ ks', m k ≠ none
  | [], rows, ks, rows', ks', hp, hks => by
    simp only [putRows, Option.some.injEq, Prod.mk.injEq] at hp
    obtain ⟨_, rfl⟩ := hp; exact hks
  | (i, av) :: r, rows, ks, rows', ks', hp, hks => by
    simp only [putRows] at hp
    split at hp
    · rename_i ds ks1 hdc
      split at hp
      · refine putRows_live r _ _ _ _ hp fun k hk => ?_
        rcases List.mem_append.1 hk with h1 | h1
        · exact hks k h1
        · exact dcells_live hdc k h1
      · cases hp
    · cases hp

theorem putFields_live {m : Nat → Option O} {fs : List (Nat × Nat × Bool)} : ∀ (parts : List (Nat × AV)) (cells : List D) (ks : List Nat) (cells' : List D) (ks' : List Nat), putFields m fs parts cells ks = some (cells', ks') → (∀ k ∈ ks, m k ≠ none) → ∀ k ∈ ks', m k ≠ none
  | [], cells, ks, cells', ks', hp, hks => by
    simp only [putFields, Option.some.injEq, Prod.mk.injEq] at hp
    obtain ⟨_, rfl⟩ := hp; exact hks
  | (i, av) :: r, cells, ks, cells', ks', hp, hks => by
    simp only [putFields] at hp
    split at hp
    · rename_i o n b ds ks1 hf hdc
      split at hp
      · refine putFields_live r _ _ _ _ hp fun k hk => ?_
        rcases List.mem_append.1 hk with h1 | h1
        · exact hks k h1
        · exact dcells_live hdc k h1
      · cases hp
    · cases hp

include hT h hd hm hn in
theorem good_buildSlice {t : TypeId} {len : Nat} {parts : Array (Nat × Operand)} (ho : o.op = .buildSlice t len parts) (hk : opBuildSlice T m' σ.ep o t len (parts.toList.map fun x => (x.1, σ.ev x.2)) K) :
    Good P w0 A locs σ a w o K := by
  unfold opBuildSlice at hk
  split at hk
  · rename_i d e _ _ _ hdst ht
    have hu := hT.slice ht rfl
    split at hk
    · rename_i te hte
      obtain ⟨hlim, hpos, hzl, hid, hk⟩ := hk
      split at hk
      · rename_i rows ks hpr
        obtain ⟨i, z, hi, hsz, hby, hz, hzall⟩ := hT.info hte
        have hzs : z.cells.size = te.size := by have := (zall_rep w (fun _ => False) _ _ hzall).1; simpa [hzl] using this
        obtain ⟨z', hz0, hz1⟩ : ∃ z' : Array Value, (len * te.size = 0 → z' = #[]) ∧ (¬ len * te.size = 0 → z' = z.cells) := by
          by_cases h0 : len * te.size = 0
          · exact ⟨#[], fun _ => rfl, fun h1 => absurd h0 h1⟩
          · exact ⟨z.cells, fun h1 => absurd h1 h0, fun _ => rfl⟩
        have hz'' : len * te.size = 0 ∨ z' = z.cells := by
          by_cases h0 : len * te.size = 0
          · exact .inl h0
          · exact .inr (hz1 h0)
        have hcz : (madeCells z' (len * te.size)).size = len * te.size := size_madeCells _ _
        obtain ⟨cells', hfill, hs1, hl1, hr1, hc1, hrep1⟩ := putRows_sim hm te.size len σ.ev rfl parts.toList (List.replicate len te.zero) [] rows ks (madeCells z' (len * te.size)) hpr h (by simp)
          (fun r hr => by rw [List.eq_of_mem_replicate hr, hzl]) hcz (fun ii q r dd hii hq => by
            rw [List.getElem?_replicate] at hii
            split at hii
            · rename_i hlt
              injection hii with hii
              subst hii
              have hqs : q < te.size := by have := (List.getElem?_eq_some_iff.1 hq).1; omega
              have hz3 : z' = z.cells := hz''.resolve_left (fun e0 => by
                have : 0 < len * te.size := Nat.mul_pos (by omega) hpos
                omega)
              obtain ⟨v, hv, hrep⟩ := (zall_rep w (Bl A β (upm σ.m (kills []))) _ _ hzall).2 q dd hq
              have e5 : z.cells.getD q Go.undef = v := by
                have : z.cells[q]? = some v := by simpa using hv
                simp [Array.getD_eq_getD_getElem?, this]
              rw [hz3, madeCells_at z.cells len te.size hzs ii q hlt hqs, e5]
              exact hrep
            · cases hii)
        have hid' : upm σ.m (kills ks) (nid σ.ep d) = none := by
          refine upm_kills_none _ _ _ (fun k hk0 => ?_) (hn d hdst hid)
          have := putRows_live _ _ _ _ _ hpr (fun k hk => by cases hk) k hk0
          intro hno
          cases hmk : m' k with
          | none => exact this hmk
          | some ob => rw [hm _ _ hmk] at hno; cases hno
        have hs := hs1.new_ (id := nid σ.ep d) (o := .arr e te.size rows) (cs := cells') (ty := e) (l := ⟨w.heap.size, 0, len⟩) hid' rfl
          (fun w' B' β' m'' k g h5 h6 h7 => ⟨hr1, hpos, .inr ⟨_, _, h5, h7, by simpa using hc1, by simp [hl1], by
              show len ≤ maxLen
              have : len ≤ len * te.size := Nat.le_mul_of_pos_right _ hpos
              unfold maxLen; omega, fun j dd hj => by
            obtain ⟨ii, q, r, hj', hq, hii, hrq⟩ := flat_inv rows hr1 j dd hj
            subst hj'
            simp only [Nat.zero_add]
            exact (hrep1 ii q r dd hii hrq).keep k⟩⟩)
        refine ⟨_, _, .slice (some ⟨w.heap.size, 0, none⟩) len len, _, hk, .inl ?_, Sim.app hd (by rw [upm_append]; exact hs) ?_⟩
        · have e1 : (parts.map fun x => (x.1, a.eval x.2)).toList = parts.toList.map fun x => (x.1, a.eval x.2) := by simp
          have hlim' : ¬ (len * te.size > 2 ^ 24) := by omega
          have hsz' : ∀ w : World, (sizeOf e).run P w = .ok te.size w := fun w => hT.sizeOf hte w
          have hrun : (Instr.buildSlice t len (parts.map fun x => (x.1, a.eval x.2))).run P w = .ok (.slice (some ⟨w.heap.size, 0, none⟩) len len) (w.alloc (.cells cells' e)) := by
            unfold Instr.buildSlice
            simp only [Sem.run_bind, run_underlying hu, Result.andThen_ok, hsz', if_neg hlim', e1]
            have hf2 : Instr.fill (fun i => some (i * te.size, te.size)) ((Array.range (len * te.size)).map (z'[· % z'.size]!)) (parts.toList.map fun x => (x.1, a.eval x.2)) = some cells' := hfill
            by_cases h0 : len * te.size = 0
            · have e5 := hz0 h0
              subst e5
              rw [if_pos h0]
              simp only [Sem.run_bind, Sem.run_pure, Result.andThen_ok, hf2, newRow, run_newObj]
              rfl
            · have e5 := hz1 h0
              subst e5
              have e6 : (zeroValue e).run P w = .ok z w := by simp [zeroValue, typeInfo, hi, hz]
              rw [if_neg h0]
              simp only [Sem.run_bind, Sem.run_pure, Result.andThen_ok, e6, hf2, newRow, run_newObj]
              rfl
          simp only [execOp, ho, Sem.run_bind]
          rw [hrun]
          rfl
        · simp only [upm_append, upm, AvRep, AvRep0, upd_same]
          exact ⟨by omega, .inr ⟨⟨w.heap.size, 0, len⟩, ⟨w.heap.size, 0, none⟩, rfl, by simp, Nat.zero_le _, fun _ => by simp⟩⟩
      · exact hk.elim
    · exact hk.elim
  · exact hk.elim

include hm in
/-- A struct literal's cells. -/
theorem putFields_sim (fs : List (Nat × Nat × Bool)) (N : Nat) (ρ : Operand → AV) (hρ : ρ = σ.ev) : ∀ (parts : List (Nat × Operand)) (ds : List D) (ks : List Nat) (ds' : List D) (ks' : List Nat) (cells : Array Value),
    putFields m' fs (parts.map fun x => (x.1, ρ x.2)) ds ks = some (ds', ks') →
    Sim w0 A locs β { σ with m := upm σ.m (kills ks) } a w → ds.length = N → cells.size = N →
    (∀ (j : Nat) (d : D), ds[j]? = some d → Rep w (Bl A β (upm σ.m (kills ks))) (cells.getD j Go.undef) d) →
    ∃ cells', Instr.fill ((fs.map fun x => (x.1, x.2.1)).toArray[·]?) cells (parts.map fun x => (x.1, a.eval x.2)) = some cells' ∧ Sim w0 A locs β { σ with m := upm σ.m (kills ks') } a w ∧ ds'.length = N ∧
      cells'.size = N ∧ (∀ (j : Nat) (d : D), ds'[j]? = some d → Rep w (Bl A β (upm σ.m (kills ks'))) (cells'.getD j Go.undef) d) := by
  subst hρ
  intro parts
  induction parts with
  | nil =>
    intro ds ks ds' ks' cells hp hs hl hc hrep
    simp only [List.map_nil, putFields, Option.some.injEq, Prod.mk.injEq] at hp
    obtain ⟨rfl, rfl⟩ := hp
    exact ⟨cells, rfl, hs, hl, hc, hrep⟩
  | cons x parts ih =>
    intro ds ks ds' ks' cells hp hs hl hc hrep
    obtain ⟨i, x⟩ := x
    simp only [List.map_cons, putFields] at hp
    split at hp
    · rename_i off n b vs ks1 hfi hdc
      split at hp
      · rename_i hcond
        obtain ⟨h1, h2, h3⟩ := hcond
        have hdc' : dcells (upm σ.m (kills ks)) (σ.ev x) = some (vs, ks1) := dcells_after (dcells_sub hm hdc) h3
        obtain ⟨σ2, hσ2, hs2, hvs, _, hvr, hkeep⟩ := dcells_sim hs (fun _ _ h => h) hdc' (hs.ev x)
        have hm2 : σ2.m = upm σ.m (kills (ks ++ ks1)) := by rw [hσ2, kills_append, upm_append]
        have hs2' : Sim w0 A locs β { σ with m := upm σ.m (kills (ks ++ ks1)) } a w := by rw [← hm2]; subst hσ2; exact hs2
        have kk : Keeps w (Bl A β (upm σ.m (kills ks))) w (Bl A β (upm σ.m (kills (ks ++ ks1)))) := by
          refine ⟨Nat.le_refl _, fun _ _ _ => rfl, fun b _ hB hB' => hB ?_⟩
          rcases hB' with hA | ⟨j, oj, lj, e1, e2, e3, e4⟩
          · exact .inl hA
          · refine .inr ⟨j, oj, lj, ?_, e2, e3, e4⟩
            rw [kills_append, upm_append] at e1
            by_cases hj : j ∈ ks1
            · exfalso
              have : ∀ (m : Nat → Option O) (ks : List Nat), j ∈ ks → upm m (kills ks) j = some .gone := by
                intro m ks
                induction ks generalizing m with
                | nil => intro hj; cases hj
                | cons k ks ihk =>
                  intro hj
                  by_cases hjk : j ∈ ks
                  · exact ihk _ hjk
                  · have : j = k := by simp at hj; exact hj.resolve_right hjk
                    subst this
                    show upm (upd m j (some .gone)) (kills ks) j = _
                    rw [upm_kills_other _ _ _ hjk, upd_same]
              rw [this _ _ hj] at e1
              injection e1 with e1; subst e1; simp [O.live] at e2
            · rw [upm_kills_other _ _ _ hj] at e1; exact e1
        obtain ⟨hf1, hf2⟩ := fill1_at cells off (a.eval x) (by rw [hvs, h1]; omega)
        obtain ⟨cells', hfill, r⟩ := ih (setAt ds off vs) (ks ++ ks1) ds' ks' (fill1 cells off (a.eval x)) hp hs2' (by rw [setAt_length _ _ _ (by omega), hl]) (by rw [hf1, hc]) (fun j d hj => by
            rw [setAt_get _ _ _ (by omega)] at hj
            rw [hf2, hvs]
            by_cases hin : off ≤ j ∧ j < off + vs.length
            · rw [if_pos hin] at hj
              rw [if_pos hin]
              have := hvr _ d hj
              rw [hm2] at this
              exact this
            · rw [if_neg hin] at hj
              rw [if_neg hin]
              exact (hrep j d hj).keep kk)
        exact ⟨cells', by rw [List.map_cons, fill_cons _ _ _ _ _ off n (by simp [hfi]) (by rw [hvs, h1]) (by omega)]; exact hfill, r⟩
      · cases hp
    · cases hp

include hT h hd hm in
theorem good_build {t : TypeId} {parts : Array (Nat × Operand)} (ho : o.op = .build t parts) (hk : opBuild T m' t (parts.toList.map fun x => (x.1, σ.ev x.2)) K) : Good P w0 A locs σ a w o K := by
  unfold opBuild at hk
  split at hk
  · rename_i fs sz by_ zero ht
    split at hk
    · rename_i ds ks hpf
      obtain ⟨i, z, hi, hsz, hby, hz, hzall⟩ := hT.info ht
      have hzr := zall_rep w (Bl A β (upm σ.m (kills []))) _ _ hzall
      obtain ⟨cells', hfill, hs1, hl1, hc1, hrep1⟩ := putFields_sim hm fs zero.length σ.ev rfl parts.toList zero [] ds ks z.cells hpf h rfl (by simpa using hzr.1) (fun j d hj => by
        obtain ⟨v, hv, hr⟩ := hzr.2 j d hj
        have : z.cells[j]? = some v := by simpa using hv
        simp only [Array.getD_eq_getD_getElem?, this, Option.getD_some]
        exact hr)
      have hdsc := hT.desc ht
      obtain ⟨fields, hu, _⟩ := hT.struct ht rfl
      have hfb : fieldsB P fields.toList fs = true := by
        unfold chkD at hdsc
        simpa [hu] using hdsc
      have hb : P.built t (parts.map fun x => (x.1, a.eval x.2)).toList = some cells' := by
        unfold Program.built
        simp only [hi, hu, hz, fieldsB_places P _ _ hfb]
        simpa using hfill
      refine ⟨_, _, .agg cells', w, hk, .inl ?_, Sim.app hd hs1 ?_⟩
      · simp only [execOp, ho, Sem.run_bind]
        rw [run_build w t _ cells' hb]
        rfl
      · exact (show Rep w _ (.agg cells') (.agg ds) from .agg _ _ (by omega) hrep1)
    · exact hk.elim
  · exact hk.elim

end
end Go.Am
