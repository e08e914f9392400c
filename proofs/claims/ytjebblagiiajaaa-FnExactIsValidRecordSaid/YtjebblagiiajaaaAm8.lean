/- The abstract machine, part 8: stores, make. -/
import Derived.Test.YtjebblagiiajaaaAm7
namespace Go.Am
open Go

theorem setAt_length {α : Type} (l : List α) (o : Nat) (vs : List α) (h : o + vs.length ≤ l.length) : (setAt l o vs).length = l.length := by
  simp [setAt]; omega

theorem setAt_get {α : Type} (l : List α) (o : Nat) (vs : List α) (h : o + vs.length ≤ l.length) (j : Nat) : (setAt l o vs)[j]? = if o ≤ j ∧ j < o + vs.length then vs[j - o]? else l[j]? := by
  unfold setAt
  rw [List.append_assoc, List.getElem?_append, List.length_take]
  by_cases hjo : j < o
  · rw [if_pos (by omega), if_neg (by omega), List.getElem?_take, if_pos hjo]
  · rw [if_neg (by omega), List.getElem?_append]
    have e1 : j - min o l.length = j - o := by omega
    rw [e1]
    by_cases hj2 : j - o < vs.length
    · rw [if_pos hj2, if_pos (by omega)]
    · rw [if_neg hj2, if_neg (by omega), List.getElem?_drop]
      congr 1; omega

theorem flat_inv {α : Type} {sz : Nat} : ∀ (rows : List (List α)), (∀ r ∈ rows, r.length = sz) → ∀ (j : Nat) (x : α), rows.flatten[j]? = some x → ∃ i q r, j = i * sz + q ∧ q < sz ∧ rows[i]? = some r ∧ r[q]? = some x
  | [], _, j, x, hj => by simp at hj
  | r0 :: rows, hsz, j, x, hj => by
    have h0 : r0.length = sz := hsz r0 (by simp)
    rw [List.flatten_cons, List.getElem?_append] at hj
    split at hj
    · exact ⟨0, j, r0, by omega, by omega, rfl, hj⟩
    · obtain ⟨i, q, r, h1, h2, h3, h4⟩ := flat_inv rows (fun r hr => hsz r (by simp [hr])) _ x hj
      exact ⟨i + 1, q, r, by rw [Nat.succ_mul]; omega, h2, by simpa using h3, h4⟩

theorem upm_append (m : Nat → Option O) : ∀ (l l' : List (Nat × O)), upm m (l ++ l') = upm (upm m l) l'
  | [], _ => rfl
  | (i, o) :: l, l' => upm_append (upd m i (some o)) l l'

section
variable {P : Program} {T : TypeId → Option TI} (hT : TOk P T) {w0 w : World} {A : Nat → Prop} {locs : List (Option Loc)} {β : Nat → Option Loc} {σ : S} {a : Act}

/-- An array of this call's own, read as plain data where its block is no bar. -/
theorem own_view (h : Sim w0 A locs β σ a w) {id off len : Nat} {ty sz : Nat} {rows : List (List D)} (hm : σ.m id = some (.arr ty sz rows)) {v : Value} (hv : AvRep0 w (Bl A β σ.m) β σ.m (.own id off len) v)
    {B' : Nat → Prop} (hB : ∀ b, b < w.heap.size → ¬ Bl A β σ.m b → ¬ B' b) (hid : ∀ l, β id = some l → ¬ B' l.b) : Rep w B' v (.list ((rows.drop off).take len)) := by
  have k : Keeps w (Bl A β σ.m) w B' := ⟨Nat.le_refl _, fun _ _ _ => rfl, hB⟩
  simp only [AvRep0, hm] at hv
  obtain ⟨hle, hv⟩ := hv
  obtain ⟨hrows, hpos, hob⟩ := h.ob id _ hm
  rcases hv with ⟨hβ, rfl⟩ | ⟨l, ad, hβ, rfl, hot, had⟩
  · rcases hob with ⟨_, rfl⟩ | ⟨l, cs, hβ', _⟩
    · simp; exact .nil _ _
    · rw [hβ] at hβ'; cases hβ'
  · rcases hob with ⟨hβ', _⟩ | ⟨l', cs, hβ', hheap, hsz, hrt, _, hcs⟩
    · rw [hβ] at hβ'; cases hβ'
    · rw [hβ] at hβ'; injection hβ' with hβ'; subst hβ'
      by_cases h0 : len = 0
      · subst h0; simp; exact .nil _ _
      · have had := had (by omega)
        subst had
        have hfl : ∀ (j : Nat) (d : D), ((rows.drop off).take len).flatten[j]? = some d → rows.flatten[off * sz + j]? = some d := by
          intro j d hj
          rw [flat_take (sz := sz) _ (fun r hr => hrows r (List.mem_of_mem_drop hr)), flat_drop rows hrows] at hj
          rw [List.getElem?_take] at hj
          split at hj
          · rwa [List.getElem?_drop] at hj
          · cases hj
        have hfll : rows.flatten.length = rows.length * sz := flat_len rows hrows
        have hjl : ∀ (j : Nat) (d : D), ((rows.drop off).take len).flatten[j]? = some d → l.base + off * sz + j < cs.size := fun j d hj => by
          have h1 := (List.getElem?_eq_some_iff.1 (hfl j d hj)).1
          have h2 : rows.length * sz ≤ l.tot * sz := Nat.mul_le_mul_right _ hrt
          omega
        refine .list _ _ _ _ sz (fun j => cs.getD (l.base + off * sz + j) Go.undef) ?_ (by omega) (fun r hr => hrows r (List.mem_of_mem_drop (List.mem_of_mem_take hr))) (h.new id _ l hm rfl hβ).1 (hid l hβ) rfl ?_ ?_
        · rw [List.length_take, List.length_drop]; omega
        · intro j d hj
          rw [add_spot rfl]
          exact run_load_at hheap (hjl j d hj)
        · intro j d hj
          have := hcs _ d (hfl j d hj)
          rw [← Nat.add_assoc] at this
          exact this.keep k

variable (h : Sim w0 A locs β σ a w) {o : Oper} (hd : ∀ d, o.dst = some d → d < σ.n) {K : Eff → Prop} {m' : Nat → Option O} (hm : ∀ id ob, m' id = some ob → σ.m id = some ob)
variable (hn : ∀ d, o.dst = some d → m' (nid σ.ep d) = none → σ.m (nid σ.ep d) = none)

include h hm in
/-- Plain cells out of a value: behind what is given up for it the cells read as the data. -/
theorem dcells_sim {av : AV} {ds : List D} {ks : List Nat} (hc : dcells m' av = some (ds, ks)) {v : Value} (hv : AvRep w (Bl A β σ.m) β σ.m av v) :
    ∃ σ', σ' = { σ with m := upm σ.m (kills ks) } ∧ Sim w0 A locs β σ' a w ∧ v.cells.size = ds.length ∧ (∀ u ∈ v.cells.toList, u.oneCell' = true) ∧
      (∀ (j : Nat) (d : D), ds[j]? = some d → Rep w (Bl A β σ'.m) (v.cells.getD j Go.undef) d) ∧ (∀ i, i ∉ ks → σ'.m i = σ.m i) := by
  refine ⟨_, rfl, ?_⟩
  unfold dcells at hc
  split at hc
  · rename_i ds'
    split at hc
    · rename_i hall
      injection hc with hc
      simp only [Prod.mk.injEq] at hc
      obtain ⟨rfl, rfl⟩ := hc
      have hca : CellsAre w (Bl A β σ.m) β σ.m v (ds'.map .imm) := .agg hall hv
      refine ⟨h, by simpa using hca.size, hca.one, fun j d hj => ?_, fun _ _ => rfl⟩
      exact hca.rep j (.imm d) (by simp [hj])
    · cases hc
  · rename_i d hnd
    split at hc
    · rename_i h1
      injection hc with hc
      simp only [Prod.mk.injEq] at hc
      obtain ⟨rfl, rfl⟩ := hc
      have hca : CellsAre w (Bl A β σ.m) β σ.m v [.imm d] := .mk1 (Rep.one (show Rep w _ v d from hv) h1) hv
      refine ⟨h, by simpa using hca.size, hca.one, fun j d' hj => ?_, fun _ _ => rfl⟩
      cases j with
      | zero => simp at hj; subst hj; exact hca.rep 0 (.imm d) rfl
      | succ j => simp at hj
    · cases hc
  · rename_i id off len
    split at hc
    · rename_i ty sz rows hmm
      injection hc with hc
      simp only [Prod.mk.injEq] at hc
      obtain ⟨rfl, rfl⟩ := hc
      have hmm' := hm _ _ hmm
      have hk := h.kill hmm'
      have hv' : AvRep0 w (Bl A β σ.m) β σ.m (.own id off len) v := hv
      have h1 : v.oneCell' = true := by
        simp only [AvRep0, hmm'] at hv'
        rcases hv'.2 with ⟨_, rfl⟩ | ⟨l, ad, _, rfl, _⟩ <;> rfl
      have hsub : ∀ b, Bl A β (upd σ.m id (some .gone)) b → Bl A β σ.m b ∧ ∀ l, β id = some l → l.b ≠ b := by
        rintro b (hA | ⟨i, oi, li, e1, e2, e3, e4⟩)
        · exact ⟨.inl hA, fun l hl e => by subst e; exact (h.new id _ l hmm' rfl hl).2.1 hA⟩
        · by_cases e : i = id
          · subst e; rw [upd_same] at e1; injection e1 with e1; subst e1; simp [O.live] at e2
          · rw [upd_other _ _ e] at e1
            exact ⟨.inr ⟨i, oi, li, e1, e2, e3, e4⟩, fun l hl eb => e (h.inj i id oi _ li l e1 e2 e3 hmm' rfl hl (e4.trans eb.symm))⟩
      have hr := own_view h hmm' hv' (B' := Bl A β (upd σ.m id (some .gone))) (fun b _ hB hB' => hB (hsub b hB').1) (fun l hl hB' => (hsub _ hB').2 l hl rfl)
      have ecell := cells_one h1
      refine ⟨hk, by rw [ecell]; rfl, fun u hu => by rw [ecell] at hu; simp at hu; subst hu; exact h1, fun j d hj => ?_, fun i hi => upd_other _ _ (by simpa using hi)⟩
      cases j with
      | zero => simp at hj; subst hj; rw [ecell]; exact hr
      | succ j => simp at hj
    · cases hc
  · cases hc

include hT h hd hm in
theorem good_store {t : TypeId} {x y : Operand} (ho : o.op = .store t x y) (hk : opStore T m' t (σ.ev x) (σ.ev y) K) : Good P w0 A locs σ a w o K := by
  have hrun : ∀ {w' : World}, (Instr.storeAt t (a.eval x) (a.eval y)).run P w = .ok () w' → (execOp a.eval o).run P w = .ok .skip w' := fun hr => by
    simp only [execOp, ho, Sem.run_bind, hr, Result.andThen_ok, Sem.run_pure]
  unfold opStore at hk
  split at hk
  · exact hk.elim
  · rename_i ti ht
    have hx := h.ev x
    split at hk
    · rename_i id off e
      rw [e] at hx
      split at hk
      · rename_i ty cells vs hmm hc
        have hmm' := hm _ _ hmm
        have hc' : acells σ.m (σ.ev y) = some vs := by
          unfold acells at hc ⊢
          split at hc <;> first
            | exact hc
            | (split at hc
               · rename_i hmm; rw [hm _ _ hmm]; exact hc
               · cases hc)
        obtain ⟨h1, h2, hK⟩ := hk
        have hca := acells_rep hc' (h.ev y)
        simp only [AvRep, AvRep0, BoxAt, hmm'] at hx
        obtain ⟨l, hl, hv⟩ := hx
        obtain ⟨l', cs, hl', hheap, hsz, hcs⟩ := h.ob id _ hmm'
        rw [hl] at hl'; injection hl' with hl'; subst hl'
        obtain ⟨w', cs', hr, hh, hsz', hcs', hoth, hws, hos, htp, hout⟩ := run_storeAt (P := P) (w := w) hT ht l.b off (a.eval y) ty cs (by rw [hca.size, h1]) hheap (by omega) hca.one
        rw [← hv] at hr
        have hs := h.write (o' := .box ty (setAt cells off vs)) hmm' rfl rfl (.inr ⟨_, _, rfl⟩) hl hoth hws hos htp hout (fun k g => ⟨l, cs', hl, hh, by rw [hsz', hsz, setAt_length _ _ _ (by omega)], fun j av hj => by
          rw [setAt_get _ _ _ (by omega)] at hj
          rw [hcs' j]
          by_cases hin : off ≤ j ∧ j < off + vs.length
          · rw [if_pos hin] at hj
            rw [if_pos (by omega)]
            exact (hca.rep _ av hj).keep k g
          · rw [if_neg hin] at hj
            rw [if_neg (by omega)]
            exact (hcs j av hj).keep k g⟩)
        exact ⟨_, _, _, w', hK, .inr ⟨hrun hr, rfl⟩, Sim.app hd hs rfl⟩
      · exact hk.elim
    · rename_i id row off e
      rw [e] at hx
      split at hk
      · rename_i ty sz rows vs ks hmm hc
        have hmm' := hm _ _ hmm
        split at hk
        · rename_i r hr
          obtain ⟨h1, h2, h3, hK⟩ := hk
          obtain ⟨σ1, hσ1, hs1, hvs, hone, hvr, hkeep⟩ := dcells_sim h hm hc (h.ev y)
          have hmm1 : σ1.m id = some (.arr ty sz rows) := by rw [hkeep id h3]; exact hmm'
          simp only [AvRep, AvRep0, hmm'] at hx
          obtain ⟨hlt, l, hl, hv⟩ := hx
          obtain ⟨hrows, hpos, hob⟩ := hs1.ob id _ hmm1
          rcases hob with ⟨hβ', _⟩ | ⟨l', cs, hl', hheap, hsz, hrt, htm, hcs⟩
          · rw [hl] at hβ'; cases hβ'
          · rw [hl] at hl'; injection hl' with hl'; subst hl'
            have hrs : r.length = sz := hrows r (List.mem_of_getElem? hr)
            have hfit : l.base + row * sz + off + ti.size ≤ cs.size := by
              have : (row + 1) * sz ≤ l.tot * sz := Nat.mul_le_mul_right _ (by omega)
              rw [Nat.succ_mul] at this
              omega
            obtain ⟨w', cs', hr', hh, hsz', hcs', hoth, hws, hos, htp, hout⟩ := run_storeAt (P := P) (w := w) hT ht l.b (l.base + row * sz + off) (a.eval y) ty cs (by rw [hvs, h1]) hheap hfit hone
            rw [← hv] at hr'
            have hrows' : ∀ r' ∈ rows.set row (setAt r off vs), r'.length = sz := by
              intro r' hr''
              rcases List.mem_or_eq_of_mem_set hr'' with h5 | h5
              · exact hrows r' h5
              · rw [h5, setAt_length _ _ _ (by omega), hrs]
            have hs := hs1.write (o' := .arr ty sz (rows.set row (setAt r off vs))) hmm1 rfl rfl (.inr ⟨_, _, rfl, by simp⟩) hl hoth hws hos htp hout (fun k g => ⟨hrows', hpos, .inr ⟨l, cs', hl, hh, by rw [hsz', hsz], by simpa using hrt, htm, fun j d hj => by
              obtain ⟨i, q, r', hj', hq, hi, hrq⟩ := flat_inv _ hrows' j d hj
              subst hj'
              rw [hcs', ← Nat.add_assoc]
              by_cases hir : i = row
              · subst hir
                rw [List.getElem?_set_self (by omega)] at hi
                injection hi with hi
                subst hi
                rw [setAt_get _ _ _ (by omega)] at hrq
                by_cases hin : off ≤ q ∧ q < off + vs.length
                · rw [if_pos hin] at hrq
                  rw [if_pos (by omega)]
                  have e5 : l.base + i * sz + q - (l.base + i * sz + off) = q - off := by omega
                  rw [e5]
                  exact (hvr _ d hrq).keep k
                · rw [if_neg hin] at hrq
                  rw [if_neg (by omega)]
                  have := hcs _ d (flat_at rows hrows i r hr q d hrq)
                  rw [← Nat.add_assoc] at this
                  exact this.keep k
              · rw [List.getElem?_set_ne (Ne.symm hir)] at hi
                have hno : ¬ (l.base + row * sz + off ≤ l.base + i * sz + q ∧ l.base + i * sz + q < l.base + row * sz + off + ti.size) := by
                  rcases Nat.lt_or_gt_of_ne hir with h6 | h6
                  · have : (i + 1) * sz ≤ row * sz := Nat.mul_le_mul_right _ (by omega)
                    rw [Nat.succ_mul] at this
                    omega
                  · have : (row + 1) * sz ≤ i * sz := Nat.mul_le_mul_right _ (by omega)
                    rw [Nat.succ_mul] at this
                    omega
                rw [if_neg hno]
                have := hcs _ d (flat_at rows hrows i r' hi q d hrq)
                rw [← Nat.add_assoc] at this
                exact this.keep k⟩⟩)
            have hs' : Sim w0 A locs β { σ with m := upm σ.m (kills ks ++ [(id, .arr ty sz (rows.set row (setAt r off vs)))]) } a w' := by
              rw [upm_append]
              subst hσ1
              exact hs
            exact ⟨_, _, _, w', hK, .inr ⟨hrun hr', rfl⟩, Sim.app hd hs' rfl⟩
        · exact hk.elim
      · exact hk.elim
    · exact hk.elim

theorem madeCells_at (z : Array Value) (n sz : Nat) (hz : z.size = sz) (i q : Nat) (hi : i < n) (hq : q < sz) : (madeCells z (n * sz)).getD (i * sz + q) Go.undef = z.getD q Go.undef := by
  have hlt : i * sz + q < n * sz := by
    have : (i + 1) * sz ≤ n * sz := Nat.mul_le_mul_right _ (by omega)
    rw [Nat.succ_mul] at this
    omega
  have e1 : (i * sz + q) % sz = q := by rw [Nat.mul_comm, Nat.mul_add_mod, Nat.mod_eq_of_lt hq]
  have hqz : q < z.size := by omega
  simp only [madeCells, Array.getD_eq_getD_getElem?, Array.getElem?_map, Array.getElem?_range, hlt, if_true, Option.map_some, Option.getD_some, hz, e1]
  simp [hqz]

include hT h hd hn in
theorem good_make {t : TypeId} {x y : Operand} (ho : o.op = .makeSlice t x y) (hk : opMake T m' σ.ep o t (σ.ev x) (σ.ev y) K) : Good P w0 A locs σ a w o K := by
  unfold opMake at hk
  split at hk
  · rename_i d e _ _ _ kn n kc c hdst ht e1 e2
    have hu := hT.slice ht rfl
    split at hk
    · rename_i te hte
      obtain ⟨h0, h1, h2, h3, hpos, hzl, hid, hK⟩ := hk
      obtain ⟨i, z, hi, hsz, hby, hz, hzall⟩ := hT.info hte
      have hr := run_make (P := P) w t e i z hu hi hz kn kc n c h0 h1 (by rw [hby]; exact h2) (by omega)
      have hzs : z.cells.size = te.size := by have := (zall_rep w (fun _ => False) _ _ hzall).1; simpa [hzl] using this
      have hs := h.new_ (id := nid σ.ep d) (o := .arr e te.size (List.replicate n.toNat te.zero)) (cs := madeCells z.cells (c.toNat * i.size)) (ty := e) (l := ⟨w.heap.size, 0, c.toNat⟩) (hn d hdst hid) rfl
        (fun w' B' β' m'' k g h5 h6 h7 => ⟨fun r hr' => by rw [List.eq_of_mem_replicate hr', hzl], hpos, .inr ⟨_, _, h5, h7, by rw [size_madeCells, hsz]; simp, by simp; omega, by show c.toNat ≤ maxLen; unfold maxLen; omega, fun j dd hj => by
          obtain ⟨ii, q, r, hj', hq, hii, hrq⟩ := flat_inv (sz := te.size) _ (fun r hr' => by rw [List.eq_of_mem_replicate hr', hzl]) j dd hj
          subst hj'
          rw [List.getElem?_replicate] at hii
          split at hii
          · rename_i hlt
            injection hii with hii
            subst hii
            obtain ⟨v, hv, hrep⟩ := (zall_rep w' B' _ _ hzall).2 q dd hrq
            have e5 : z.cells.getD q Go.undef = v := by
              have : z.cells[q]? = some v := by simpa using hv
              simp [Array.getD_eq_getD_getElem?, this]
            simp only [Nat.zero_add]
            rw [hsz, madeCells_at z.cells c.toNat te.size hzs ii q (by omega) hq, e5]
            exact hrep
          · cases hii⟩⟩)
      refine ⟨_, _, .slice (some ⟨w.heap.size, 0, none⟩) n.toNat c.toNat, _, hK, .inl ?_, Sim.app hd hs ?_⟩
      · simp only [execOp, ho, rep_int (h.imm e1), rep_int (h.imm e2), Sem.run_bind, hr, Result.andThen_ok, Sem.run_pure]
      · simp only [upm, AvRep, AvRep0, upd_same]
        exact ⟨by simp, .inr ⟨⟨w.heap.size, 0, c.toNat⟩, ⟨w.heap.size, 0, none⟩, rfl, by simp, Nat.zero_le _, fun _ => by simp⟩⟩
    · exact hk.elim
  · exact hk.elim

end
end Go.Am
