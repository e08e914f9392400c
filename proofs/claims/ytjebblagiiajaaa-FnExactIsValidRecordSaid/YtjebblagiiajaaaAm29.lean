/- The abstract machine, part 29: a law whose contract is 'true' fulfils its row's step. -/
import Derived.Test.YtjebblagiiajaaaAm28
namespace Go.Am
open Go Go.RowKit Go.WideShapes Go.ChangeShapes

/-- A value of a type, as a datum. -/
def WTv (P : Program) (t : TypeId) (dd : D) : Prop :=
  match P.underlying t with
  | some (.struct _) => ∃ ds, dd = .agg ds ∧ WTs P t ds
  | _ => WTs P t [dd]

section
variable {H : Type} {enc : TypeId × Value → H} {P : Program} {w : World} {base : Nat} {spare : Nat → Bool} {held : Bool} {B : Nat → Prop}

theorem val_rep (hB : ∀ b, ¬ B b) {n : Nat} {t : TypeId} (hp : plainT P n t = true) {r : Reach} {b0 : Nat} {v : Value} {d : DataW H} {ps : List MemPlace} (hval : Value.okWide P w r b0 t v) (h : DataW.Trod enc P w base spare held t v d ps) :
    ∃ dd, Rep w B v dd ∧ WTv P t dd := by
  obtain ⟨fuel, hf⟩ := h
  obtain ⟨ds, h1, h2, h3⟩ := trod_rep hB n t hp fuel _ _ hf
  cases n with
  | zero => cases hp
  | succ n =>
    unfold plainT at hp
    have single : (∀ fs, P.underlying t ≠ some (.struct fs)) → v.cells.toList = [v] → ∃ dd, Rep w B v dd ∧ WTv P t dd := by
      intro hns hc
      rw [hc] at h1 h3
      match ds, h1 with
      | [dd], _ =>
        obtain ⟨v', hv', hr⟩ := h3 0 dd rfl
        simp at hv'; subst hv'
        refine ⟨dd, hr, ?_⟩
        unfold WTv
        split
        · rename_i fs hfs; exact absurd hfs (hns fs)
        · exact h2
    split at hp
    · rename_i ht
      obtain ⟨b, rfl⟩ := okWide_bool ht hval
      exact single (fun fs e => by rw [ht] at e; cases e) rfl
    · rename_i k ht
      obtain ⟨i, rfl⟩ := okWide_int ht hval
      exact single (fun fs e => by rw [ht] at e; cases e) rfl
    · rename_i ht
      obtain ⟨s, rfl⟩ := okWide_string ht hval
      exact single (fun fs e => by rw [ht] at e; cases e) rfl
    · rename_i e ht
      obtain ⟨a, len, cap, rfl⟩ := okWide_slice ht hval
      exact single (fun fs e => by rw [ht] at e; cases e) rfl
    · rename_i fs ht
      obtain ⟨cs, rfl, _⟩ := okWide_struct ht hval
      refine ⟨.agg ds, .agg cs ds ?_ (fun j d hj => ?_), ?_⟩
      · have : (Value.agg cs).cells = cs := rfl
        rw [this] at h1
        simpa using h1.symm
      · obtain ⟨v, hv, hr⟩ := h3 j d hj
        have : (Value.agg cs).cells = cs := rfl
        rw [this] at hv
        have hv' : cs[j]? = some v := by simpa using hv
        rw [Array.getD_eq_getD_getElem?, hv']
        exact hr
      · unfold WTv
        split
        · exact ⟨ds, rfl, h2⟩
        · rename_i hns; exact absurd ht (hns fs)
    · cases hp

theorem vals_rep (hB : ∀ b, ¬ B b) {n : Nat} {r : Reach} {b0 : Nat} : ∀ (ts : List TypeId) (vs : List Value) (ds : List (DataW H)) (ps : List MemPlace), (∀ t ∈ ts, plainT P n t = true) →
    (∀ (j : Nat) t v, ts[j]? = some t → vs[j]? = some v → Value.okWide P w r b0 t v) → DataW.TrodAll enc P w base spare held ts vs ds ps →
    vs.length = ts.length ∧ ds.length = ts.length ∧ ∃ dds : List D, dds.length = ts.length ∧ ∀ (j : Nat) t dd, ts[j]? = some t → dds[j]? = some dd → WTv P t dd ∧ ∃ v, vs[j]? = some v ∧ Rep w B v dd
  | [], vs, ds, ps, _, _, h => by
    obtain ⟨rfl, rfl, _⟩ := trodAll_nil h
    exact ⟨rfl, rfl, [], rfl, fun j t dd hj => by simp at hj⟩
  | t :: ts, vs, ds, ps, hp, hv, h => by
    obtain ⟨v, vs', d, ds', p, q, rfl, rfl, rfl, h1, h2⟩ := trodAll_cons h
    obtain ⟨g1, g2, dds, g3, g4⟩ := vals_rep hB ts vs' ds' q (fun t ht => hp t (by simp [ht])) (fun j t v hj hv' => hv (j + 1) t v (by simpa using hj) (by simpa using hv')) h2
    obtain ⟨dd, e1, e2⟩ := val_rep hB (hp t (by simp)) (hv 0 t v rfl rfl) h1
    refine ⟨by simp [g1], by simp [g2], dd :: dds, by simp [g3], fun j t' dd' hj hd => ?_⟩
    cases j with
    | zero => simp at hj hd; subst hj hd; exact ⟨e2, v, rfl, e1⟩
    | succ j => exact g4 j t' dd' (by simpa using hj) (by simpa using hd)

theorem args_stay (hl : laidOutB P = true) {W W' : World} (hb : Below W.heap.size W W') {sp : Nat → Bool} : ∀ (ts : List TypeId) (vs : List Value) (ds : List (DataW H)) (ps : List MemPlace), (∀ t ∈ ts, P.readableRec t = true ∧ t < P.types.size) →
    (∀ p ∈ ps, p.block < W.heap.size) → (∀ p ∈ ps, sp p.block = true) → DataW.TrodAll enc P W 0 (fun _ => true) true ts vs ds ps → DataW.TrodAll enc P W' 0 sp true ts vs ds ps
  | [], vs, ds, ps, _, _, _, h => by
    obtain ⟨rfl, rfl, rfl⟩ := trodAll_nil h
    exact rfl
  | t :: ts, vs, ds, ps, hr, hlt, hsp, h => by
    obtain ⟨v, vs', d, ds', p, q, rfl, rfl, rfl, h1, h2⟩ := trodAll_cons h
    refine ⟨p, q, ?_, args_stay hl hb ts vs' ds' q (fun t ht => hr t (by simp [ht])) (fun x hx => hlt x (by simp [hx])) (fun x hx => hsp x (by simp [hx])) h2, rfl⟩
    exact WideElems.Trod_stays hl (hr t (by simp)).1 (hr t (by simp)).2 h1 (fun x hx => hb.same (hlt x (by simp [hx]))) (fun x hx => hsp x (by simp [hx]))

/-- The step of a row that says 'true, and the arguments read as they did'. -/
theorem law_step {f : Func} {s : ChangeSpec} {fid : FuncId} {ts : List TypeId} {tb : TypeId} (hp : f.params = ts.toArray) (hrt : f.resultTypes = #[tb]) (htb : P.underlying tb = some .bool) (hv : s.vars = [])
    (hs : ∀ ds : List (DataW H), ds.length = ts.length → s.fn H ds = { results := [.lit (.bool true)], args := ds }) (hl : laidOutB P = true)
    (hok : (ts.all fun t => P.readableRec t && decide (t < P.types.size) && plainT P 12 t) = true)
    (hcall : ∀ dds : List D, dds.length = ts.length → (∀ (j : Nat) t dd, ts[j]? = some t → dds[j]? = some dd → WTv P t dd) → CallOk P fid (dds.map .imm) { res := [.imm (.bool true)] })
    {W : World} {b0 : Nat} {args : Array Value} {ds gs : List (DataW H)} {before : List MemPlace}
    (hval : ∀ (j : Nat) t v, f.params[j]? = some t → args[j]? = some v → Value.okWide P W .any b0 t v)
    (hW : DataW.Whole enc P f.params.toList s.vars false W args.toList ds gs before) (hT : Tb W []) :
    Calls P fid args W fun e W' => ∃ v, e = .returned v ∧ s.post enc P f false true false false W args v W' := by
  have hok' : ∀ t ∈ ts, P.readableRec t = true ∧ t < P.types.size ∧ plainT P 12 t = true := fun t ht => by
    have := List.all_eq_true.1 hok t ht
    simp only [Bool.and_eq_true, decide_eq_true_eq] at this
    exact ⟨this.1.1, this.1.2, this.2⟩
  have hW' := hW
  obtain ⟨p, q, hA, hV, hps, hfz, hnd⟩ := hW
  rw [hp] at hA
  rw [hv] at hV
  obtain ⟨rfl, rfl⟩ := trodVars_none hV
  simp only [List.append_nil] at hps
  subst hps
  have hA' : DataW.TrodAll enc P W 0 (fun _ => true) true ts args.toList ds before := by simpa using hA
  obtain ⟨hl1, hl2, dds, hl3, hrep⟩ := vals_rep (B := Bl (fun _ => False) (fun _ => none) fun _ => none) (fun b hb => by
      rcases hb with hb | ⟨_, _, _, hb, _⟩
      · exact hb
      · cases hb) ts args.toList ds before (fun t ht => (hok' t ht).2.2) (fun j t v hj hv' => hval j t v (by rw [hp]; simpa using hj) (by simpa using hv')) hA'
  obtain ⟨_, _, _, hC⟩ := hcall dds hl3 fun j t dd hj hd => (hrep j t dd hj hd).1
  have hins : ∀ j, (dds.map In.imm)[j]? = (dds[j]?).map In.imm := fun j => List.getElem?_map
  have hinM : inM (dds.map In.imm) = fun _ => none := by
    funext i
    unfold inM
    rw [hins]
    cases dds[i]? <;> rfl
  have hmi : mutIdx (dds.map In.imm) = [] := by
    unfold mutIdx
    refine List.filter_eq_nil_iff.2 fun i _ => ?_
    rw [hins]
    cases dds[i]? <;> simp [In.isMut]
  have hsz : args.size = dds.length := by rw [hl3, ← hl1]; simp
  have hsim : Sim W (fun _ => False) [] (fun _ => none) (inS (dds.map In.imm) args.size) ⟨args, []⟩ W := by
    refine { size := rfl, defers := rfl, slot := fun i => ?_, ob := fun id o ho => ?_, inj := fun id id' o o' l l' h1 => ?_, new := fun id o l h1 => ?_, fr := Fr.refl _ _ hT, lt := fun b h => h.elim, pm := ?_ }
    · show AvRep W (Bl _ _ (inM (dds.map In.imm))) _ (inM (dds.map In.imm)) (inT (dds.map In.imm) i) (args.getD i Go.undef)
      rw [hinM]
      unfold inT
      rw [hins]
      cases hd : dds[i]? with
      | none =>
        have : args.size ≤ i := by rw [hsz]; exact List.getElem?_eq_none_iff.1 hd
        show args.getD i Go.undef = Go.undef
        simp [Array.getD, Nat.not_lt.2 this]
      | some dd =>
        have hlt : i < ts.length := by rw [← hl3]; exact (List.getElem?_eq_some_iff.1 hd).1
        obtain ⟨_, v, hv', hr⟩ := hrep i _ dd (List.getElem?_eq_getElem hlt) hd
        have : args[i]? = some v := by simpa using hv'
        rw [Array.getD_eq_getD_getElem?, this]
        exact hr
    · have : inM (dds.map In.imm) id = some o := ho
      rw [hinM] at this; cases this
    · have : inM (dds.map In.imm) id = some o := h1
      rw [hinM] at this; cases this
    · have : inM (dds.map In.imm) id = some o := h1
      rw [hinM] at this; cases this
    · refine ⟨by rw [show (inS (dds.map In.imm) args.size).pm = [] from hmi]; rfl, fun i id h => ?_⟩
      rw [show (inS (dds.map In.imm) args.size).pm = [] from hmi] at h
      simp at h
  refine (hC W _ _ _ args hsim (by simp [hsz])).mono ?_
  rintro e W' ⟨vals, β', rfl, hs2⟩
  have hsz2 : vals.size = 1 := hs2.size
  have hv0 := hs2.slot 0
  have hv1 : vals.getD 0 Go.undef = .bool true := rep_bool hv0
  have hpack : packR vals = .bool true := by unfold packR; rw [if_pos hsz2]; exact hv1
  rw [hpack]
  have hb : Below W.heap.size W W' := ⟨hs2.fr.os, hs2.fr.tape, hs2.fr.output, hs2.fr.size, fun k hk => hs2.fr.blk k hk fun l hl => by cases hl⟩
  refine ⟨_, rfl, ?_⟩
  have hlt : ∀ p ∈ before, p.block < W.heap.size := fun p hp => hW'.lt p hp
  have hfn : s.fn H (ds ++ []) = { results := [.lit (.bool true)], args := ds } := by rw [List.append_nil]; exact hs ds hl2
  refine ⟨ds, [], before, [], before, [], hW', ?_, ?_, ?_, World.keptBut_mono (fun p hp => ⟨hp, .inr (.inl hp)⟩) (hb.frame (· ∈ before)), fun h => by cases h⟩
  · rw [hfn, hrt]
    exact trodAll_mk1 (shut_bool htb true)
  · rw [hfn, hp]
    exact args_stay hl hb ts _ _ _ (fun t ht => ⟨(hok' t ht).1, (hok' t ht).2.1⟩) hlt (fun p hp => by simpa using hlt p hp) hA'
  · rw [hfn, hv]
    exact rfl

end
end Go.Am
