/- The abstract machine, part 11: append stands for the model's. -/
import Derived.Test.YtjebblagiiajaaaAm10
namespace Go.Am
open Go

section
variable {P : Program} {T : TypeId → Option TI} (hT : TOk P T) {w0 w : World} {A : Nat → Prop} {locs : List (Option Loc)} {β : Nat → Option Loc} {σ : S} {a : Act}

/-- The block of an object that was given up is taken by a new one. -/
theorem Sim.retake (h : Sim w0 A locs β σ a w) {id id' : Nat} {o o' : O} {l l' : Loc} (hm : σ.m id = some o) (hlive : o.live = true) (hlive' : o'.live = true) (hl : β id = some l) (hb : l'.b = l.b) (hid' : σ.m id' = none)
    (ho : ∀ (B' : Nat → Prop) (β' : Nat → Option Loc) (m' : Nat → Option O), Keeps w (Bl A β σ.m) w B' → Goes β σ.m β' m' → β' id' = some l' → m' id' = some o' → ObRep w B' β' m' id' o') :
    Sim w0 A locs (upd β id' (some l')) { σ with m := upd (upd σ.m id (some .gone)) id' (some o') } a w := by
  have hne : id' ≠ id := fun e => by subst e; rw [hid'] at hm; cases hm
  have hβ : ∀ i, i ≠ id' → upd β id' (some l') i = β i := fun i hi => upd_other _ _ hi
  have hold : ∀ i oi, upd (upd σ.m id (some .gone)) id' (some o') i = some oi → oi.live = true → (i = id' ∧ oi = o') ∨ (i ≠ id' ∧ i ≠ id ∧ σ.m i = some oi) := fun i oi hi hl' => by
    by_cases e : i = id'
    · subst e; rw [upd_same] at hi; injection hi with hi; exact .inl ⟨rfl, hi.symm⟩
    · rw [upd_other _ _ e] at hi
      by_cases e2 : i = id
      · subst e2; rw [upd_same] at hi; injection hi with hi; subst hi; simp [O.live] at hl'
      · rw [upd_other _ _ e2] at hi; exact .inr ⟨e, e2, hi⟩
  have g : Goes β σ.m (upd β id' (some l')) (upd (upd σ.m id (some .gone)) id' (some o')) := by
    intro i oi hi
    have hi' : i ≠ id' := fun e => by subst e; rw [hid'] at hi; cases hi
    by_cases e2 : i = id
    · subst e2
      exact ⟨.gone, by rw [upd_other _ _ hi', upd_same], oi.sub_gone, fun _ => hβ i hi'⟩
    · exact ⟨oi, by rw [upd_other _ _ hi', upd_other _ _ e2]; exact hi, oi.sub_refl, fun _ => hβ i hi'⟩
  have hBl : Bl A (upd β id' (some l')) (upd (upd σ.m id (some .gone)) id' (some o')) = Bl A β σ.m := by
    funext b
    apply propext
    constructor
    · rintro (hA | ⟨i, oi, li, h1, h2, h3, h4⟩)
      · exact .inl hA
      · rcases hold i oi h1 h2 with ⟨rfl, rfl⟩ | ⟨e1, e2, e3⟩
        · rw [upd_same] at h3; injection h3 with h3; subst h3
          exact .inr ⟨id, o, l, hm, hlive, hl, by rw [← hb]; exact h4⟩
        · rw [hβ i e1] at h3
          exact .inr ⟨i, oi, li, e3, h2, h3, h4⟩
    · rintro (hA | ⟨i, oi, li, h1, h2, h3, h4⟩)
      · exact .inl hA
      · by_cases e2 : i = id
        · subst e2
          rw [hl] at h3; injection h3 with h3; subst h3
          exact .inr ⟨id', o', l', upd_same _ _ _, hlive', upd_same _ _ _, by rw [hb]; exact h4⟩
        · have hi' : i ≠ id' := fun e => by subst e; rw [hid'] at h1; cases h1
          exact .inr ⟨i, oi, li, by rw [upd_other _ _ hi', upd_other _ _ e2]; exact h1, h2, by rw [hβ i hi']; exact h3, h4⟩
  have k : Keeps w (Bl A β σ.m) w (Bl A (upd β id' (some l')) (upd (upd σ.m id (some .gone)) id' (some o'))) := by rw [hBl]; exact Keeps.refl _ _
  refine h.move k g (fun i oi hi => hβ i (fun e => by subst e; rw [hid'] at hi; cases hi)) ?_ ?_ ?_ h.fr
  · intro i oi hi hl'
    rcases hold i oi hi hl' with ⟨rfl, rfl⟩ | ⟨e1, e2, e3⟩
    · exact .inr (ho _ _ _ k g (upd_same _ _ _) (upd_same _ _ _))
    · exact .inl ⟨e3, fun _ _ => rfl⟩
  · intro i j oi oj li lj h1 h2 h3 h4 h5 h6 h7
    rcases hold i oi h1 h2 with ⟨rfl, rfl⟩ | ⟨e1, e2, e3⟩ <;> rcases hold j oj h4 h5 with ⟨rfl, rfl⟩ | ⟨f1, f2, f3⟩
    · rfl
    · exfalso
      rw [upd_same] at h3; injection h3 with h3; subst h3
      rw [hβ j f1] at h6
      exact f2 (h.inj j id oj o lj l f3 h5 h6 hm hlive hl (by rw [← h7, hb]))
    · exfalso
      rw [upd_same] at h6; injection h6 with h6; subst h6
      rw [hβ i e1] at h3
      exact e2 (h.inj i id oi o li l e3 h2 h3 hm hlive hl (by rw [h7, hb]))
    · rw [hβ i e1] at h3
      rw [hβ j f1] at h6
      exact h.inj i j oi oj li lj e3 h2 h3 f3 h5 h6 h7
  · intro i oi li h1 h2 h3
    rcases hold i oi h1 h2 with ⟨rfl, rfl⟩ | ⟨e1, e2, e3⟩
    · rw [upd_same] at h3; injection h3 with h3; subst h3
      obtain ⟨n1, n2, n3⟩ := h.new id o l hm hlive hl
      rw [hb]
      exact ⟨n1, n2, n3⟩
    · rw [hβ i e1] at h3
      exact h.new i oi li e3 h2 h3

variable (h : Sim w0 A locs β σ a w) {o : Oper} (hd : ∀ d, o.dst = some d → d < σ.n) {K : Eff → Prop} {m' : Nat → Option O} (hm : ∀ id ob, m' id = some ob → σ.m id = some ob)
variable (hn : ∀ d, o.dst = some d → m' (nid σ.ep d) = none → σ.m (nid σ.ep d) = none)

include hT h in
/-- append onto an array of this call's own that did not come in, from cells that are read. -/
theorem append_sim {t e ty' id off len : Nat} {te : TI} {rows rows' : List (List D)} {nd : Nat} (hu : P.underlying t = some (.slice e)) (hte : T e = some te) (hmm : σ.m id = some (.arr e te.size rows)) (hfull : off + len = rows.length)
    (hnd : σ.m nd = none) {vx : Value} (hvx : AvRep0 w (Bl A β σ.m) β σ.m (.own id off len) vx)
    {ad : Option Addr} {n c : Nat} (hnl : n = rows'.length) (hsz : ∀ r ∈ rows', r.length = te.size) (hone : ∀ r ∈ rows', r.all D.one = true)
    (g : Nat → Value) (hsrc : 0 < n → ∃ b : Addr, ad = some b ∧ ∀ (j : Nat) (d : D), rows'.flatten[j]? = some d → w.cell? (b.add j) = some (g j))
    (hrep : ∀ (j : Nat) (d : D), rows'.flatten[j]? = some d → Rep w (Bl A β σ.m) (g j) d)
    (hbytes : (len + n) * te.bytes ≤ 140737488355328) (hmax : len + n ≤ 4611686018427387904) :
    ∃ v' w' β', (Builtin.append_ #[t, t] ty' #[vx, .slice ad n c]).run P w = .ok v' w' ∧
      Sim w0 A locs β' { σ with m := upd (upd σ.m id (some .gone)) nd (some (.arr e te.size (rows.drop off ++ rows'))) } a w' ∧
      AvRep0 w' (Bl A β' (upd (upd σ.m id (some .gone)) nd (some (.arr e te.size (rows.drop off ++ rows'))))) β' (upd (upd σ.m id (some .gone)) nd (some (.arr e te.size (rows.drop off ++ rows')))) (.own nd 0 (len + n)) v' := by
  obtain ⟨i, z, hi, hisz, hby, hz, hzall⟩ := hT.info hte
  obtain ⟨hrows, hpos, hob⟩ := h.ob id _ hmm
  have hzs : True := trivial
  have hlen' : rows'.flatten.length = n * te.size := by rw [flat_len rows' hsz, hnl]
  have hnews : ∀ r ∈ rows.drop off ++ rows', r.length = te.size := fun r hr => by
    rcases List.mem_append.1 hr with h1 | h1
    · exact hrows r (List.mem_of_mem_drop h1)
    · exact hsz r h1
  have hdl : (rows.drop off).length = len := by rw [List.length_drop]; omega
  have hlen : (rows.drop off ++ rows').length = len + n := by rw [List.length_append, hdl, hnl]
  -- the new cells as values
  have hnv : ((List.range rows'.flatten.length).map g).length = n * i.size := by rw [List.length_map, List.length_range, hlen', hisz]
  have hg1 : ∀ u ∈ (List.range rows'.flatten.length).map g, u.oneCell' = true := fun u hu => by
    simp only [List.mem_map, List.mem_range] at hu
    obtain ⟨j, hj, rfl⟩ := hu
    have hd := List.getElem?_eq_getElem hj
    refine Rep.one (hrep j _ hd) ?_
    obtain ⟨r, hr, hdr⟩ := List.mem_flatten.1 (List.getElem_mem hj)
    exact (List.all_eq_true.1 (hone r hr)) _ hdr
  have hgat : ∀ (j : Nat) (u : Value), ((List.range rows'.flatten.length).map g)[j]? = some u → j < rows'.flatten.length ∧ u = g j := fun j u hu => by
    simp only [List.getElem?_map, Option.map_eq_some_iff] at hu
    obtain ⟨k, hk, rfl⟩ := hu
    obtain ⟨h1, h2⟩ := List.getElem?_eq_some_iff.1 hk
    simp at h1 h2
    subst h2
    exact ⟨by simpa using h1, rfl⟩
  have hcells : 0 < n → ∃ b : Addr, ad = some b ∧ ∀ (j : Nat) (u : Value), ((List.range rows'.flatten.length).map g)[j]? = some u → w.cell? (b.add j) = some u := fun hn0 => by
    obtain ⟨b, hb, hc⟩ := hsrc hn0
    refine ⟨b, hb, fun j u hu => ?_⟩
    obtain ⟨h1, rfl⟩ := hgat j u hu
    exact hc j _ (List.getElem?_eq_getElem h1)
  have hgetg : ∀ (q : Nat), q < rows'.flatten.length → ((List.range rows'.flatten.length).map g).getD q Go.undef = g q := fun q hq => by
    simp only [List.getD_eq_getElem?_getD, List.getElem?_map, List.getElem?_range hq, Option.map_some, Option.getD_some]
  -- what a new block with the old and the new cells comes to
  have fresh : ∀ (olds : List Value) (w1 : World) (rest : Array Value) (tot : Nat), w1.heap = w.heap → w1.os = w.os → w1.tape = w.tape → w1.output = w.output → olds.length = len * te.size →
      (∀ (j : Nat) (d : D), (rows.drop off).flatten[j]? = some d → Rep w (Bl A β σ.m) (olds.getD j Go.undef) d) → len + n ≤ tot → tot ≤ maxLen → rest.size = (tot - (len + n)) * te.size →
      Sim w0 A locs (upd β nd (some ⟨w.heap.size, 0, tot⟩)) { σ with m := upd (upd σ.m id (some .gone)) nd (some (.arr e te.size (rows.drop off ++ rows'))) } a
        (w1.alloc (.cells (olds.toArray ++ ((List.range rows'.flatten.length).map g).toArray ++ rest) e)) := by
    intro olds w1 rest tot hh hos htp hout hol hor htot htm hrest
    have h1 := (h.world (w' := w1) hh hos htp hout)
    have hk := h1.kill hmm
    have hnd' : upd σ.m id (some .gone) nd = none := by rw [upd_other _ _ (fun e => by subst e; rw [hnd] at hmm; cases hmm)]; exact hnd
    have kk : Keeps w (Bl A β σ.m) w1 (Bl A β (upd σ.m id (some .gone))) := by
      refine ⟨by rw [hh]; exact Nat.le_refl _, fun _ _ _ => by rw [hh], fun b _ hB hB' => hB ?_⟩
      rcases hB' with hA | ⟨ii, oi, li, e1, e2, e3, e4⟩
      · exact .inl hA
      · by_cases e : ii = id
        · subst e; rw [upd_same] at e1; injection e1 with e1; subst e1; simp [O.live] at e2
        · rw [upd_other _ _ e] at e1; exact .inr ⟨ii, oi, li, e1, e2, e3, e4⟩
    refine hk.new_ (o := .arr e te.size (rows.drop off ++ rows')) (l := ⟨w.heap.size, 0, tot⟩) hnd' (by rw [hh]) (fun w' B' β' m'' k gg h5 h6 h7 => ⟨hnews, hpos, .inr ⟨_, _, h5, h7, ?_, by rw [hlen]; exact htot, htm, fun j d hj => ?_⟩⟩)
    · simp only [Array.size_append, List.size_toArray, hol, hnv, hisz, hrest, Nat.zero_add, ← Nat.add_mul]
      congr 1; omega
    · simp only [Nat.zero_add]
      rw [List.flatten_append, List.getElem?_append] at hj
      have hfl : (rows.drop off).flatten.length = len * te.size := by rw [flat_len (sz := te.size) _ (fun r hr => hrows r (List.mem_of_mem_drop hr)), hdl]
      rw [hfl] at hj
      have eget : ∀ q, (olds.toArray ++ ((List.range rows'.flatten.length).map g).toArray ++ rest).getD q Go.undef = if q < len * te.size then olds.getD q Go.undef else if q < len * te.size + n * te.size then ((List.range rows'.flatten.length).map g).getD (q - len * te.size) Go.undef else rest.getD (q - (len * te.size + n * te.size)) Go.undef := fun q => by
        simp only [Array.getD_eq_getD_getElem?, List.getD_eq_getElem?_getD, Array.getElem?_append, Array.size_append, List.size_toArray, hol, hnv, hisz]
        by_cases q1 : q < len * te.size
        · rw [if_pos (by omega), if_pos q1, if_pos q1]; simp
        · by_cases q2 : q < len * te.size + n * te.size
          · rw [if_pos q2, if_neg q1, if_neg q1, if_pos q2]; simp
          · rw [if_neg q2, if_neg q1, if_neg q2]
      rw [eget]
      split at hj
      · rename_i hjl
        rw [if_pos hjl]
        exact ((hor j d hj).keep kk).keep k
      · rename_i hjl
        have hjr := (List.getElem?_eq_some_iff.1 hj).1
        rw [if_neg hjl, if_pos (by omega), hgetg _ hjr]
        exact ((hrep _ d hj).keep kk).keep k
  have hfresh_av : ∀ (β1 : Nat → Option Loc) (B1 : Nat → Prop) (m1 : Nat → Option O) (w1 : World) (tot : Nat), β1 nd = some ⟨w.heap.size, 0, tot⟩ → m1 nd = some (.arr e te.size (rows.drop off ++ rows')) → AvRep0 w1 B1 β1 m1 (.own nd 0 (len + n)) (.slice (some ⟨w.heap.size, 0, none⟩) (len + n) tot) := by
    intro β1 B1 m1 w1 tot e1 e2
    simp only [AvRep0, e2]
    exact ⟨by omega, .inr ⟨_, ⟨w.heap.size, 0, none⟩, e1, by simp, Nat.zero_le _, fun _ => by simp⟩⟩
  simp only [AvRep0, hmm] at hvx
  obtain ⟨hle, hvx⟩ := hvx
  have h63 : len + n ≤ maxLen := by unfold maxLen; omega
  have hne : nd ≠ id := fun e => by subst e; rw [hnd] at hmm; cases hmm
  have hnd' : upd σ.m id (some .gone) nd = none := by rw [upd_other _ _ hne]; exact hnd
  have hzc : z.cells.size = te.zero.length := by have := (zall_rep w (fun _ => False) _ _ hzall).1; simpa using this
  have hfirst : ∀ w : World, n = 0 → (Builtin.firstCells i.size 0 (.slice ad 0 c)).run P w = .ok #[] w := fun w _ => by
    cases ad <;> simp [Builtin.firstCells, loadCells, loadCellsFrom]
  rcases hvx with ⟨hβ, rfl⟩ | ⟨l, ad0, hβ, rfl, hot, had⟩
  · have hrn : rows = [] := by
      rcases hob with ⟨_, hrn⟩ | ⟨l, cs, hβ', _⟩
      · exact hrn
      · rw [hβ] at hβ'; cases hβ'
    subst hrn
    have e0 : off = 0 := by simp at hfull; omega
    have e1 : len = 0 := by simp at hfull; omega
    subst e0 e1
    by_cases hn0 : n = 0
    · subst hn0
      have hr0 : rows' = [] := List.eq_nil_of_length_eq_zero hnl.symm
      subst hr0
      have hk := (h.kill hmm).newNil e te.size (id := nd) hnd' hpos
      refine ⟨.slice none 0 0, w, _, ?_, hk, ?_⟩
      · simp [Builtin.append_, run_underlying hu, sizeOf, typeInfo, hi, Builtin.lenOf, hfirst w rfl]
      · simp only [AvRep0, upd_same]
        exact ⟨by simp, .inl ⟨trivial, trivial⟩⟩
    · obtain ⟨b, rfl, hcb⟩ := hcells (by omega)
      have hr := run_append_nil (P := P) w t ty' e i z hu hi hz b n c _ hnv hcb (by omega) (by omega) (by rw [hby]; simp at hbytes; omega)
      have hge := grownCap_ge w n 0 e
      have hcm : grownCap w n 0 e ≤ maxLen := grownCap_le_maxLen w n 0 e (by unfold maxLen; omega)
      have hs := fresh [] w.drew (Builtin.zeroCells z.cells (grownCap w n 0 e - n)) (grownCap w n 0 e) rfl rfl rfl rfl (by simp) (fun j d hj => by simp at hj) (by omega) hcm (by rw [size_zeroCells, hzc, hT.zlen hte]; simp only [Nat.zero_add])
      refine ⟨_, _, upd β nd (some ⟨w.heap.size, 0, grownCap w n 0 e⟩), hr, ?_, ?_⟩
      · simpa using hs
      · have := hfresh_av (upd β nd (some ⟨w.heap.size, 0, grownCap w n 0 e⟩)) (Bl A (upd β nd (some ⟨w.heap.size, 0, grownCap w n 0 e⟩)) (upd (upd σ.m id (some .gone)) nd (some (.arr e te.size (List.drop 0 [] ++ rows'))))) (upd (upd σ.m id (some .gone)) nd (some (.arr e te.size (List.drop 0 [] ++ rows'))))
          (w.drew.alloc (.cells (((List.range rows'.flatten.length).map g).toArray ++ Builtin.zeroCells z.cells (grownCap w n 0 e - n)) e)) _ (upd_same β nd (some ⟨w.heap.size, 0, grownCap w n 0 e⟩)) (upd_same _ _ _)
        simpa only [Nat.zero_add] using this
  · rcases hob with ⟨hβ', _⟩ | ⟨l', cs, hβ', hheap, hcsz, hrt, htm, hcs⟩
    · rw [hβ] at hβ'; cases hβ'
    · rw [hβ] at hβ'; injection hβ' with hβ'; subst hβ'
      have hfl : (rows.drop off).flatten = rows.flatten.drop (off * te.size) := flat_drop rows hrows off
      have hoffle : off * te.size + (l.tot - off) * te.size = l.tot * te.size := by rw [← Nat.add_mul]; congr 1; omega
      have hob2 : ∀ (w2 : World) (B0 : Nat → Prop) (cs2 : Array Value) (rows2 : List (List D)), (∀ r ∈ rows2, r.length = te.size) → w2.heap[l.b]? = some (.cells cs2 e (0, 0)) → cs2.size = l.base + l.tot * te.size → rows2.length ≤ l.tot - off →
          (∀ (j : Nat) (d : D), rows2.flatten[j]? = some d → Rep w2 B0 (cs2.getD (l.base + off * te.size + j) Go.undef) d) →
          ∀ (B' : Nat → Prop) (β' : Nat → Option Loc) (m'' : Nat → Option O), Keeps w2 B0 w2 B' → β' nd = some ⟨l.b, l.base + off * te.size, l.tot - off⟩ →
            ObRep w2 B' β' m'' nd (.arr e te.size rows2) := by
        intro w2 B0 cs2 rows2 hr2 hh2 hs2 hl2 hrep2 B' β' m'' k e1
        refine ⟨hr2, hpos, .inr ⟨_, cs2, e1, hh2, ?_, hl2, by show l.tot - off ≤ maxLen; omega, fun j d hj => (hrep2 j d hj).keep k⟩⟩
        show cs2.size = l.base + off * te.size + (l.tot - off) * te.size
        rw [hs2]; omega
      have hav2 : ∀ (w2 : World) (B' : Nat → Prop) (β' : Nat → Option Loc) (m'' : Nat → Option O), β' nd = some ⟨l.b, l.base + off * te.size, l.tot - off⟩ → m'' nd = some (.arr e te.size (rows.drop off ++ rows')) → AvRep0 w2 B' β' m'' (.own nd 0 (len + n)) (.slice (some ad0) (len + n) (l.tot - off)) := by
        intro w2 B' β' m'' e1 e2
        simp only [AvRep0, e2]
        refine ⟨by omega, .inr ⟨_, ad0, e1, rfl, Nat.zero_le _, fun hp => ?_⟩⟩
        have hp' : 0 < l.tot - off := hp
        rw [had (by omega)]
        simp
      have hupd : ∀ (x : O), upd (upd (upd σ.m id (some x)) id (some .gone)) nd (some (.arr e te.size (rows.drop off ++ rows'))) = upd (upd σ.m id (some .gone)) nd (some (.arr e te.size (rows.drop off ++ rows'))) := fun x => by
        funext q
        simp only [upd]
        split
        · rfl
        · split <;> rfl
      have holdrep : ∀ (j : Nat) (d : D), (rows.drop off).flatten[j]? = some d → Rep w (Bl A β σ.m) (cs.getD (l.base + off * te.size + j) Go.undef) d := fun j d hj => by
        rw [hfl, List.getElem?_drop] at hj
        have := hcs _ d hj
        rwa [← Nat.add_assoc] at this
      have hdropl : (rows.drop off).flatten.length = len * te.size := by rw [flat_len (sz := te.size) _ (fun r hr => hrows r (List.mem_of_mem_drop hr)), hdl]
      by_cases hn0 : n = 0
      · subst hn0
        have hr0 : rows' = [] := List.eq_nil_of_length_eq_zero hnl.symm
        subst hr0
        have hs := h.retake (o' := .arr e te.size (rows.drop off ++ [])) (l' := ⟨l.b, l.base + off * te.size, l.tot - off⟩) hmm rfl rfl hβ rfl hnd
          (fun B' β' m'' k _ e1 _ => hob2 w _ cs _ hnews hheap hcsz (by omega) (fun j d hj => holdrep j d (by simpa using hj)) B' β' m'' k e1)
        refine ⟨.slice (some ad0) len (l.tot - off), w, _, ?_, hs, hav2 _ _ _ _ (upd_same _ _ _) (upd_same _ _ _)⟩
        have hle2 : len ≤ l.tot - off := by omega
        simp [Builtin.append_, run_underlying hu, sizeOf, typeInfo, hi, Builtin.lenOf, hfirst w rfl, hle2, storeCells]
      · obtain ⟨b, rfl, hcb⟩ := hcells (by omega)
        by_cases hroom : len + n ≤ l.tot - off
        · have had' := had (by omega)
          subst had'
          have hmul : (len + n) * te.size ≤ (l.tot - off) * te.size := Nat.mul_le_mul_right _ hroom
          have hmul2 : (len + n) * te.size = len * te.size + n * te.size := Nat.add_mul _ _ _
          have hoffn : off * te.size + len * te.size = rows.length * te.size := by rw [← Nat.add_mul, hfull]
          obtain ⟨w', cs', hr, hh, hsz', hcs', hoth, hws, hos, htp, hout⟩ := run_append_room' (P := P) (w := w) t ty' e i hu hi l.b (l.base + off * te.size) len (l.tot - off) cs hheap b n c _ hnv hcb hg1 hroom (by rw [hnv, hisz]; omega)
          rw [hnv, hisz] at hcs'
          have hallrows : ∀ r ∈ rows ++ rows', r.length = te.size := fun r hr => by
            rcases List.mem_append.1 hr with h1 | h1
            · exact hrows r h1
            · exact hsz r h1
          have hrfl : rows.flatten.length = rows.length * te.size := flat_len rows hrows
          have hcell : ∀ (k : Keeps w (Bl A β σ.m) w' (Bl A β σ.m)) (j : Nat) (d : D), (rows ++ rows').flatten[j]? = some d → Rep w' (Bl A β σ.m) (cs'.getD (l.base + j) Go.undef) d := by
            intro k j d hj
            rw [List.flatten_append, List.getElem?_append, hrfl] at hj
            rw [hcs']
            split at hj
            · rename_i hjl
              rw [if_neg (by omega)]
              exact (hcs j d hj).keep k
            · rename_i hjl
              have hjr := (List.getElem?_eq_some_iff.1 hj).1
              rw [if_pos (by omega)]
              have e7 : l.base + j - (l.base + off * te.size + len * te.size) = j - rows.length * te.size := by omega
              rw [e7, hgetg _ hjr]
              exact (hrep _ d hj).keep k
          have hs1 := h.write (o' := .arr e te.size (rows ++ rows')) hmm rfl rfl (.inr ⟨_, _, rfl, by simp⟩) hβ hoth hws hos htp hout (fun k g => ⟨hallrows, hpos, .inr ⟨l, cs', hβ, hh, by rw [hsz', hcsz], by rw [List.length_append]; omega, htm, hcell k⟩⟩)
          have kw : Keeps w (Bl A β σ.m) w' (Bl A β σ.m) := ⟨by omega, fun b' _ hB => hoth b' (fun e => hB (.inr ⟨id, _, l, hmm, rfl, hβ, e.symm⟩)), fun _ _ h => h⟩
          have hs2 := hs1.retake (id := id) (o' := .arr e te.size (rows.drop off ++ rows')) (l' := ⟨l.b, l.base + off * te.size, l.tot - off⟩) (upd_same _ _ _) rfl rfl hβ rfl (by show upd σ.m id _ nd = none; rw [upd_other _ _ hne]; exact hnd)
            (fun B' β' m'' k _ e1 _ => by
              have hBl : ∀ x, Bl A β (upd σ.m id (some (.arr e te.size (rows ++ rows')))) x → Bl A β σ.m x := by
                rintro x (hA | ⟨ii, oi, li, f1, f2, f3, f4⟩)
                · exact .inl hA
                · by_cases e' : ii = id
                  · subst e'; exact .inr ⟨ii, _, li, hmm, rfl, f3, f4⟩
                  · rw [upd_other _ _ e'] at f1; exact .inr ⟨ii, oi, li, f1, f2, f3, f4⟩
              refine hob2 w' (Bl A β (upd σ.m id (some (.arr e te.size (rows ++ rows'))))) cs' _ hnews hh (by rw [hsz', hcsz]) (by omega) (fun j d hj => ?_) B' β' m'' k e1
              have h9 : (rows ++ rows').flatten[off * te.size + j]? = some d := by
                rw [← List.getElem?_drop, ← flat_drop _ hallrows, List.drop_append_of_le_length (by omega)]
                exact hj
              have h10 := hcell kw _ d h9
              rw [← Nat.add_assoc] at h10
              exact h10.keep ⟨Nat.le_refl _, fun _ _ _ => rfl, fun x _ hx hx' => hx (hBl x hx')⟩)
          refine ⟨_, w', upd β nd (some ⟨l.b, l.base + off * te.size, l.tot - off⟩), hr, ?_, ?_⟩
          · have := hs2
            simp only [hupd] at this
            exact this
          · have := hav2 w' (Bl A (upd β nd (some ⟨l.b, l.base + off * te.size, l.tot - off⟩)) (upd (upd σ.m id (some .gone)) nd (some (.arr e te.size (rows.drop off ++ rows'))))) _ _ (upd_same β nd (some ⟨l.b, l.base + off * te.size, l.tot - off⟩)) (upd_same (upd σ.m id (some .gone)) nd (some (.arr e te.size (rows.drop off ++ rows'))))
            exact this
        · have hbytes' : (len + n) * i.bytes ≤ 140737488355328 := by rw [hby]; exact hbytes
          have hol : ((List.range (len * te.size)).map fun j => cs.getD (l.base + off * te.size + j) Go.undef).length = len * i.size := by rw [List.length_map, List.length_range, hisz]
          have hoat : ∀ q, q < len * te.size → ((List.range (len * te.size)).map fun j => cs.getD (l.base + off * te.size + j) Go.undef).getD q Go.undef = cs.getD (l.base + off * te.size + q) Go.undef := fun q hq => by
            simp only [List.getD_eq_getElem?_getD, List.getElem?_map, List.getElem?_range hq, Option.map_some, Option.getD_some]
          have hoffn : off * te.size + len * te.size = rows.length * te.size := by rw [← Nat.add_mul, hfull]
          have hrtm : rows.length * te.size ≤ l.tot * te.size := Nat.mul_le_mul_right _ hrt
          have hocell : ∀ (j : Nat) (v : Value), ((List.range (len * te.size)).map fun j => cs.getD (l.base + off * te.size + j) Go.undef)[j]? = some v → w.cell? (ad0.add j) = some v := fun j v hj => by
            simp only [List.getElem?_map, Option.map_eq_some_iff] at hj
            obtain ⟨k, hk, rfl⟩ := hj
            obtain ⟨h1, h2⟩ := List.getElem?_eq_some_iff.1 hk
            simp at h1 h2
            subst h2
            have hlpos : 0 < len := by
              rcases Nat.eq_zero_or_pos len with h0 | h0
              · subst h0; simp at h1
              · exact h0
            rw [had (by omega), add_spot rfl]
            exact run_load_at hheap (by show l.base + off * te.size + j < _; omega)
          have hr := run_append_grow (P := P) w t ty' e i z hu hi hz ad0 len (l.tot - off) _ hol hocell b n c _ hnv hcb (by omega) (by omega) (growslice_fits (by omega) hbytes')
          have hge := grownCap_ge w (len + n) (l.tot - off) e
          have hcm : grownCap w (len + n) (l.tot - off) e ≤ maxLen := grownCap_le_maxLen w _ _ e h63
          have hs := fresh _ w.drew (Builtin.zeroCells z.cells (grownCap w (len + n) (l.tot - off) e - (len + n))) (grownCap w (len + n) (l.tot - off) e) rfl rfl rfl rfl (by rw [hol, hisz]) (fun j d hj => by
            have hjl := (List.getElem?_eq_some_iff.1 hj).1
            rw [hoat j (by omega)]
            exact holdrep j d hj) hge hcm (by rw [size_zeroCells, hzc, hT.zlen hte])
          exact ⟨_, _, _, hr, hs, hfresh_av _ _ _ _ _ (upd_same _ _ _) (upd_same _ _ _)⟩

include hT h hd hm hn in
theorem good_append {t : TypeId} {x y : Operand} (ho : o.op = .call { callee := .builtin .append, args := #[x, y], argTypes := #[t, t] }) (hk : opAppend T m' σ.ep o t (σ.ev x) (σ.ev y) K) : Good P w0 A locs σ a w o K := by
  have hrun : ∀ (v' : Value) (w' : World), (Builtin.append_ #[t, t] o.type #[a.eval x, a.eval y]).run P w = .ok v' w' → (execOp a.eval o).run P w = .ok (.value v') w' := fun v' w' hr => by
    simp only [execOp, ho, resolve, invoke, builtin, Sem.run_bind, Sem.run_pure, Result.andThen_ok, List.map_toArray, List.map_cons, List.map_nil, hr]
  have hx := h.ev x
  have hy := h.ev y
  unfold opAppend at hk
  split at hk
  · rename_i d e _ _ _ id off len hdst ht ex
    have hu := hT.slice ht rfl
    rw [ex] at hx
    split at hk
    · rename_i te ty sz rows hte hmm
      have hmm' := hm _ _ hmm
      obtain ⟨rfl, rfl, hfull, hnd, hk⟩ := hk
      split at hk
      · rename_i rows' ey
        rw [ey] at hy
        obtain ⟨hrr, hbytes, hmax, hK⟩ := hk
        obtain ⟨ad, n, c, hv, hnl, hrest⟩ := rep_list hy
        subst hnl
        have hg : ∃ g : Nat → Value, (0 < rows'.length → ∃ b : Addr, ad = some b ∧ ∀ (j : Nat) (dd : D), rows'.flatten[j]? = some dd → w.cell? (b.add j) = some (g j)) ∧ (∀ (j : Nat) (dd : D), rows'.flatten[j]? = some dd → Rep w (Bl A β σ.m) (g j) dd) := by
          by_cases h0 : 0 < rows'.length
          · obtain ⟨b, _, g, hb, _, _, _, _, _, hc, hr⟩ := hrest h0
            exact ⟨g, fun _ => ⟨b, hb, hc⟩, hr⟩
          · have : rows' = [] := List.eq_nil_of_length_eq_zero (by omega)
            subst this
            exact ⟨fun _ => Go.undef, fun h1 => absurd h1 h0, fun j dd hj => by simp at hj⟩
        obtain ⟨g, hsrc, hrep⟩ := hg
        obtain ⟨v', w', β', hr, hs, hav⟩ := append_sim (ty' := o.type) (c := c) hT h hu hte hmm' hfull (hn d hdst hnd) hx rfl (fun r hr => (hrr r hr).1) (fun r hr => (hrr r hr).2) g hsrc hrep hbytes hmax
        exact ⟨_, β', v', w', hK, .inl (hrun v' w' (by rw [hv]; exact hr)), Sim.app hd hs hav⟩
      · rename_i id2 off2 len2 ey
        rw [ey] at hy
        split at hk
        · rename_i ty2 sz2 rows2 hmm2
          have hmm2' := hm _ _ hmm2
          obtain ⟨rfl, hle2, hne2, hone, hbytes, hmax, hK⟩ := hk
          have hview := own_view h hmm2' hy (B' := fun b => Bl A β σ.m b ∧ ∀ l, β id2 = some l → l.b ≠ b) (fun b _ hB hB' => hB hB'.1) (fun l hl hB' => hB'.2 l hl rfl)
          obtain ⟨ad, n, c, hv, hnl, hrest⟩ := rep_list hview
          have hll : ((rows2.drop off2).take len2).length = len2 := by rw [List.length_take, List.length_drop]; omega
          rw [hll] at hnl
          subst hnl
          have hob2 := h.ob id2 _ hmm2'
          have hg : ∃ g : Nat → Value, (0 < n → ∃ b : Addr, ad = some b ∧ ∀ (j : Nat) (dd : D), ((rows2.drop off2).take n).flatten[j]? = some dd → w.cell? (b.add j) = some (g j)) ∧ (∀ (j : Nat) (dd : D), ((rows2.drop off2).take n).flatten[j]? = some dd → Rep w (Bl A β σ.m) (g j) dd) := by
            by_cases h0 : 0 < n
            · obtain ⟨b, sz3, g, hb, _, hrows3, hblt, hB3, hsp, hc, hr⟩ := hrest h0
              refine ⟨g, fun _ => ⟨b, hb, hc⟩, fun j dd hj => ?_⟩
              obtain ⟨hrows2, hpos2, hob2⟩ := hob2
              have hcg := hc j dd hj
              simp only [AvRep, AvRep0, hmm2'] at hy
              obtain ⟨_, hy⟩ := hy
              rcases hy with ⟨hβ2, hv2⟩ | ⟨l2, ad2, hβ2, hv2, hot2, had2⟩
              · rw [hv2] at hv; cases hv; omega
              · rcases hob2 with ⟨hβ3, _⟩ | ⟨l3, cs3, hβ3, hheap3, hsz3, hrt3, _, hcs3⟩
                · rw [hβ2] at hβ3; cases hβ3
                · rw [hβ2] at hβ3; injection hβ3 with hβ3; subst hβ3
                  rw [hv2] at hv
                  injection hv with hv1 hv2' hv3
                  rw [hb] at hv1; injection hv1 with hv1; subst hv1
                  have had2 := had2 (by omega)
                  subst had2
                  have hj2 : rows2.flatten[off2 * te.size + j]? = some dd := by
                    rw [flat_take (sz := te.size) _ (fun r hr => hrows2 r (List.mem_of_mem_drop hr)), flat_drop rows2 hrows2] at hj
                    rw [List.getElem?_take] at hj
                    split at hj
                    · rwa [List.getElem?_drop] at hj
                    · cases hj
                  have hlt3 : off2 * te.size + j < rows2.length * te.size := by rw [← flat_len rows2 hrows2]; exact (List.getElem?_eq_some_iff.1 hj2).1
                  have hm3 : rows2.length * te.size ≤ l2.tot * te.size := Nat.mul_le_mul_right _ hrt3
                  rw [add_spot rfl, run_load_at hheap3 (by show l2.base + off2 * te.size + j < _; omega)] at hcg
                  injection hcg with hcg
                  have := hcs3 _ dd hj2
                  rw [← Nat.add_assoc, hcg] at this
                  exact this
            · have h00 : n = 0 := by omega
              subst h00
              exact ⟨fun _ => Go.undef, fun h1 => absurd h1 h0, fun j dd hj => by simp at hj⟩
          obtain ⟨g, hsrc, hrep⟩ := hg
          have hsz3 : ∀ r ∈ (rows2.drop off2).take n, r.length = te.size := fun r hr => hob2.1 r (List.mem_of_mem_drop (List.mem_of_mem_take hr))
          obtain ⟨v', w', β', hr, hs, hav⟩ := append_sim (ty' := o.type) (c := c) hT h hu hte hmm' hfull (hn d hdst hnd) hx hll.symm hsz3 hone g hsrc hrep hbytes hmax
          exact ⟨_, β', v', w', hK, .inl (hrun v' w' (by rw [hv]; exact hr)), Sim.app hd hs hav⟩
        · exact hk.elim
      · exact hk.elim
    · exact hk.elim
  · exact hk.elim

end
end Go.Am
