/- The abstract machine, part 19: a function's contract from its body. -/
import Derived.Test.YtjebblagiiajaaaAm18
namespace Go.Am
open Go

theorem Rep.gr {w w' : World} {B B' : Nat → Prop} {v : Value} {d : D} (hr : Rep w B v d) (hg : d.gr = true) : Rep w' B' v d := by
  cases hr with
  | int k n => exact .int k n
  | bool b => exact .bool b
  | str s => exact .str s
  | other v => exact .other v
  | nil a c => exact .nil a c
  | list ad n c rows sz g hn hc hrr hb hB hs hcell hrep =>
    cases rows with
    | nil => simp at hn; subst hn; exact .nil _ _
    | cons r rows => simp [D.gr] at hg
  | agg vs ds hs hj => simp [D.gr] at hg
  | fn f vs ds hs hj => simp [D.gr] at hg
  | ptr ad ds g hb hB hs hc hr => simp [D.gr] at hg

theorem Rep.gr' {w w' : World} {B B' : Nat → Prop} {v : Value} {d : D} (hr : Rep w B v d) (hg : d.gr' = true) : Rep w' B' v d := by
  cases d with
  | agg cs =>
    obtain ⟨vs, rfl, hs, hj⟩ := rep_agg hr
    exact .agg _ _ hs fun j d hd => (hj j d hd).gr ((List.all_eq_true.1 hg) d (List.mem_of_getElem? hd))
  | _ => exact Rep.gr hr hg

theorem mapM_run {P : Program} {w : World} (f : ResultVar → Sem Value) : ∀ (l : List ResultVar) (vs : List Value), l.length = vs.length → (∀ (j : Nat) (rv : ResultVar), l[j]? = some rv → (f rv).run P w = .ok (vs.getD j Go.undef) w) → (l.mapM f).run P w = .ok vs w
  | [], [], _, _ => rfl
  | [], _ :: _, h, _ => by simp at h
  | _ :: _, [], h, _ => by simp at h
  | rv :: l, v :: vs, hl, h => by
    have h0 := h 0 rv rfl
    have ih := mapM_run f l vs (by simpa using hl) (fun j rv' hj => by have := h (j + 1) rv' (by simpa using hj); simpa using this)
    simp only [List.mapM_cons, Sem.run_bind, h0, Result.andThen_ok, ih, Sem.run_pure]
    rfl

/-- How one result is read. -/
def retSem (a : Act) : ResultVar → Sem Value
  | .tmp t => pure (a.tmps.getD t Go.undef)
  | .cell x ty => do loadVar ty (← asAddr (a.tmps.getD x Go.undef))

theorem results_eq (fn : Func) (a : Act) : results fn a.tmps = (do let vs ← fn.results.mapM (retSem a); pure (if h : vs.size = 1 then vs[0] else .tuple vs)) := by
  unfold results
  congr 1

section
variable {P : Program} {T : TypeId → Option TI} (hT : TOk P T) {w0 w : World} {A : Nat → Prop} {locs : List (Option Loc)} {β : Nat → Option Loc} {σ : S} {a : Act}

include hT in
/-- A result's value. -/
theorem ret_val (h : Sim w0 A locs β σ a w) (rv : ResultVar) (hnd : retAV T σ rv ≠ .dead) :
    ∃ v, (retSem a rv).run P w = .ok v w ∧ AvRep w (Bl A β σ.m) β σ.m (retAV T σ rv) v := by
  cases rv with
  | tmp t => exact ⟨_, rfl, h.slot t⟩
  | cell x ty =>
    simp only [retSem]
    simp only [retAV] at hnd ⊢
    cases hx : σ.t x with
    | box id off =>
      cases hty : T ty with
      | none => simp [hx, hty] at hnd
      | some ti =>
        simp only [hx, hty] at hnd ⊢
        have hslot := h.slot x
        rw [hx] at hslot
        cases hmm : σ.m id with
        | none => simp [hmm] at hnd
        | some ob =>
          cases ob with
          | gone => simp [hmm] at hnd
          | arr ty sz rows => simp [hmm] at hnd
          | box tyb cells =>
            simp only [hmm] at hnd ⊢
            simp only [AvRep, AvRep0, BoxAt, hmm] at hslot
            obtain ⟨l, hl, hv⟩ := hslot
            obtain ⟨l', cs, hl', hheap, hsz, hcs⟩ := h.ob id _ hmm
            rw [hl] at hl'; injection hl' with hl'; subst hl'
            have hcell : ∀ j, off + j < cs.size → w.cell? ((⟨l.b, off, none⟩ : Addr).add j) = some (cs.getD (off + j) Go.undef) := fun j hj => by
              rw [add_spot rfl]; exact run_load_at hheap hj
            have hrun : (∀ j, j < (if ti.agg then ti.size else 1) → off + j < cs.size) →
                (do loadVar ty (← asAddr (a.tmps.getD x Go.undef)) : Sem Value).run P w = .ok (if ti.agg then .agg ((List.range ti.size).map fun j => cs.getD (off + j) Go.undef).toArray else cs.getD (off + 0) Go.undef) w := fun hc => by
              have := run_loadAt hT hty ⟨l.b, off, none⟩ (fun j => cs.getD (off + j) Go.undef) (fun j hj => hcell j (hc j hj))
              rw [hv]
              simp only [Instr.loadAt, Sem.run_bind] at this
              have e0 : (Instr.sureAddr (.pointer (some (⟨l.b, off, none⟩ : Addr)))).run P w = .ok ⟨l.b, off, none⟩ w := rfl
              rw [e0] at this
              simp only [Result.andThen_ok] at this
              simp only [Sem.run_bind]
              have e1 : (asAddr (.pointer (some (⟨l.b, off, none⟩ : Addr)))).run P w = .ok ⟨l.b, off, none⟩ w := rfl
              rw [e1]
              exact this
            cases hag : ti.agg with
            | true =>
              simp only [hag] at hnd ⊢
              split at hnd
              · rename_i hle
                rw [if_pos hle]
                cases hi : imms ((cells.drop off).take ti.size) with
                | none => simp [hi] at hnd
                | some ds =>
                  obtain ⟨h1, h2⟩ := imms_at hi
                  refine ⟨_, hrun (fun j hj => by simp only [hag, if_true] at hj; omega), ?_⟩
                  simp only [hag, if_true]
                  refine Rep.agg _ _ (by rw [← h1]; simp; omega) fun j d hj => ?_
                  have h3 := h2 j d hj
                  rw [List.getElem?_take] at h3
                  split at h3
                  · rename_i hjs
                    rw [List.getElem?_drop] at h3
                    rw [range_getD _ _ _ hjs]
                    exact hcs _ _ h3
                  · cases h3
              · simp at hnd
            | false =>
              simp only [hag] at hnd ⊢
              cases hc : cells[off]? with
              | none => simp [hc] at hnd
              | some av =>
                have hlt : off < cs.size := by rw [hsz]; exact (List.getElem?_eq_some_iff.1 hc).1
                refine ⟨_, hrun (fun j hj => by simp only [hag, Bool.false_eq_true, if_false] at hj; omega), ?_⟩
                have h3 := hcs off av hc
                simp only [hag, Bool.false_eq_true, if_false, Nat.add_zero]
                cases av with
                | tup l => exact h3.elim
                | _ => exact h3
    | _ => simp [hx] at hnd


theorem ret1_own {σ : S} {sep : Bool} {av : AV} {r : R0} (h : Ret1 σ sep av r) : (∃ d, av = .imm d ∧ r = .imm d ∧ (sep = true → d.gr' = true)) ∨
    (∃ (id off len ty sz : Nat) (rows : List (List D)), av = .own id off len ∧ σ.m id = some (.arr ty sz rows) ∧ id ∉ σ.pm ∧ (sep = true → ∀ x ∈ (rows.drop off).take len, x.all D.gr = true) ∧
      (r = .imm (.list ((rows.drop off).take len)) ∨ r = .arr ty sz ((rows.drop off).take len))) := by
  unfold Ret1 at h
  split at h
  · obtain ⟨rfl, h2⟩ := h; exact .inl ⟨_, rfl, rfl, h2⟩
  · rename_i id off len d
    split at h
    · rename_i ty sz rows hm
      obtain ⟨rfl, h2, h3⟩ := h
      exact .inr ⟨id, off, len, ty, sz, rows, rfl, hm, h3, h2, .inl rfl⟩
    · exact h.elim
  · rename_i id off len ty sz rows
    split at h
    · rename_i ty' sz' rows' hm
      obtain ⟨rfl, rfl, rfl, h2, h3⟩ := h
      exact .inr ⟨id, off, len, ty', sz', rows', rfl, hm, h3, h2, .inr rfl⟩
    · exact h.elim
  · exact h.elim

theorem retAll_at {σ : S} {sep : Bool} : ∀ {avs : List AV} {rs : List R0}, RetAll σ sep avs rs → avs.length = rs.length ∧ ∀ (j : Nat) (av : AV) (r : R0), avs[j]? = some av → rs[j]? = some r → Ret1 σ sep av r
  | [], [], _ => ⟨rfl, fun j av r h => by simp at h⟩
  | [], _ :: _, h => h.elim
  | _ :: _, [], h => h.elim
  | av :: avs, r :: rs, h => by
    obtain ⟨h1, h2⟩ := retAll_at h.2
    refine ⟨by simp [h1], fun j av' r' hj hr => ?_⟩
    cases j with
    | zero => simp at hj hr; subst hj hr; exact h.1
    | succ j => exact h2 j av' r' (by simpa using hj) (by simpa using hr)

theorem ownIds_mem : ∀ {avs : List AV} {j : Nat} {id off len : Nat}, avs[j]? = some (.own id off len) → id ∈ ownIds avs
  | [], j, _, _, _, h => by simp at h
  | av :: avs, 0, id, off, len, h => by simp at h; subst h; simp [ownIds]
  | av :: avs, j + 1, id, off, len, h => by
    have := ownIds_mem (avs := avs) (j := j) (id := id) (off := off) (len := len) (by simpa using h)
    cases av <;> simp [ownIds, this]

theorem ownIds_inj : ∀ {avs : List AV}, (ownIds avs).Nodup → ∀ {i j id off len off' len' : Nat}, avs[i]? = some (.own id off len) → avs[j]? = some (.own id off' len') → i = j
  | [], _, i, j, _, _, _, _, _, h, _ => by simp at h
  | av :: avs, hnd, i, j, id, off, len, off', len', hi, hj => by
    have hnd' : (ownIds avs).Nodup := by cases av <;> simp [ownIds] at hnd <;> first | exact hnd | exact hnd.2
    cases i with
    | zero =>
      cases j with
      | zero => rfl
      | succ j =>
        simp at hi; subst hi
        have := ownIds_mem (avs := avs) (j := j) (by simpa using hj)
        simp [ownIds] at hnd
        exact absurd this hnd.1
    | succ i =>
      cases j with
      | zero =>
        simp at hj; subst hj
        have := ownIds_mem (avs := avs) (j := i) (by simpa using hi)
        simp [ownIds] at hnd
        exact absurd this hnd.1
      | succ j => rw [ownIds_inj hnd' (i := i) (j := j) (by simpa using hi) (by simpa using hj)]

theorem mutsOk_at {σ : S} {out : Out} : ∀ {is ids : List Nat}, MutsOk σ out is ids → is.length = ids.length ∧ ∀ (k i id : Nat), is[k]? = some i → ids[k]? = some id → σ.m id = some (out.muts.getD i .gone) ∧ (out.sep = true → (out.muts.getD i .gone).gr = true)
  | [], [], _ => ⟨rfl, fun k i id h => by simp at h⟩
  | [], _ :: _, h => h.elim
  | _ :: _, [], h => h.elim
  | i :: is, id :: ids, h => by
    obtain ⟨h1, h2⟩ := mutsOk_at h.2.2
    refine ⟨by simp [h1], fun k i' id' hk hk' => ?_⟩
    cases k with
    | zero => simp at hk hk'; subst hk hk'; exact ⟨h.1, h.2.1⟩
    | succ k => exact h2 k i' id' (by simpa using hk) (by simpa using hk')

end
end Go.Am
