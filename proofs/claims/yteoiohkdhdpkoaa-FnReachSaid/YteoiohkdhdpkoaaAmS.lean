/- The abstract machine: sorts with a function that compares. -/
import Derived.Test.YteoiohkdhdpkoaaAmC
import Derived.Shelf.SlSortCmp.InsertionK
/-! The abstract machine, part 50: a contract over an array that is lent and written in place beside plain data, from what a call does to one block. -/
namespace Go.Am
open Go

/-- The world behind a call that wrote one block alone, and may have made new ones. -/
structure Wrote1 (w : World) (b : Nat) (w' : World) : Prop where
  os : w'.os = w.os
  tape : w'.tape = w.tape
  output : w'.output = w.output
  size : w.heap.size ≤ w'.heap.size
  blk : ∀ k, k < w.heap.size → k ≠ b → w'.heap[k]? = w.heap[k]?
  drawn : w.drawn ≤ w'.drawn

theorem rep_gr1 {w : World} {B : Nat → Prop} {d : D} {v : Value} (h : Rep w B v d) (hg : d.gr = true) {w' : World} {B' : Nat → Prop} : Rep w' B' v d := by
  cases h with
  | int k n => exact .int k n
  | bool b => exact .bool b
  | str s => exact .str s
  | other v => exact .other v
  | nil a c => exact .nil a c
  | list ad n c rows sz g hn hc hr hb hB hs hcell hrep =>
    cases rows with
    | nil => simp only [List.length_nil] at hn; subst hn; exact .nil _ _
    | cons r rs => simp [D.gr] at hg
  | agg vs ds hs hr => simp [D.gr] at hg
  | fn f vs ds hs hr => simp [D.gr] at hg
  | ptr ad ds g hb hB hs hc hr => simp [D.gr] at hg

theorem lent_ins {ety sz : Nat} {rows : List (List D)} {es : List D} (i : Nat) : (In.arr ety sz rows :: es.map In.imm)[i + 1]? = (es[i]?).map In.imm := by
  rw [List.getElem?_cons_succ, List.getElem?_map]
theorem lent_mutIdx {ety sz : Nat} {rows : List (List D)} {es : List D} : mutIdx (In.arr ety sz rows :: es.map In.imm) = [0] := by
  unfold mutIdx
  rw [List.length_cons, List.range_succ_eq_map, List.filter_cons_of_pos (by rfl)]
  congr 1
  refine List.filter_eq_nil_iff.2 fun i hi => ?_
  obtain ⟨j, _, rfl⟩ := List.mem_map.1 hi
  rw [lent_ins]
  cases es[j]? <;> simp [In.isMut]

/-- The package variables lie where they lay, and not in this block. -/
def Tbb (w : World) (b : Nat) : Prop := ∀ g cs, (g, cs) ∈ tabs → (∃ ty fz, w.heap[g]? = some (.cells cs ty fz)) ∧ g ≠ b

theorem callOk_lent {P : Program} {f : FuncId} (he : Enters P f) {ety sz : Nat} {rows rows' : List (List D)} {es : List D} (hel : es.length ≤ 900) (hlen : rows'.length = rows.length) (hsz' : ∀ r ∈ rows', r.length = sz) (hg' : ∀ r ∈ rows', r.all D.gr = true)
    (hgr : ∀ r ∈ rows, r.all D.gr = true) (hne : 0 < rows.length)
    (h1 : ∀ (w : World) (b o cap : Nat) (cs : Array Value) (vs : Array Value), w.heap[b]? = some (.cells cs ety (0, 0)) → rows.length ≤ cap → o + rows.length * sz ≤ cs.size → (∀ (j : Nat) (d : D), rows.flatten[j]? = some d → Rep w (fun _ => False) (cs.getD (o + j) Go.undef) d) →
      vs.size = es.length + 1 → vs.getD 0 Go.undef = .slice (some ⟨b, o, none⟩) rows.length cap → (∀ (i : Nat) (x : D), es[i]? = some x → ∃ B : Nat → Prop, B b ∧ Rep w B (vs.getD (i + 1) Go.undef) x) → Tbb w b →
      Calls P f vs w fun e w' => e = .returned (.tuple #[]) ∧ Wrote1 w b w' ∧ ∃ cs', w'.heap[b]? = some (.cells cs' ety (0, 0)) ∧ cs'.size = cs.size ∧
        ∀ (j : Nat) (d : D), rows'.flatten[j]? = some d → Rep w' (fun _ => False) (cs'.getD (o + j) Go.undef) d) :
    CallOk P f (.arr ety sz rows :: es.map .imm) { res := [], muts := [.arr ety sz rows'] } := by
  have hinM : ∀ i o, inM (In.arr ety sz rows :: es.map In.imm) i = some o → i = 0 ∧ o = .arr ety sz rows := by
    intro i o hi
    cases i with
    | zero => injection hi with hi; exact ⟨rfl, hi.symm⟩
    | succ i =>
      unfold inM at hi
      rw [lent_ins] at hi
      cases h : es[i]? <;> rw [h] at hi <;> cases hi
  refine ⟨he, by simp; omega, ?_, ?_⟩
  · intro i o hi
    obtain ⟨rfl, rfl⟩ := hinM i o hi
    exact ⟨.inr ⟨ety, rows', rfl, by omega⟩, .inl ⟨ety, sz, rows', rfl⟩⟩
  · intro w A locs β vs h hvs
    have hm0 : (inS (In.arr ety sz rows :: es.map In.imm) vs.size).m 0 = some (.arr ety sz rows) := rfl
    have hs0 := h.slot 0
    have ht0 : (inS (In.arr ety sz rows :: es.map In.imm) vs.size).t 0 = .own 0 0 rows.length := rfl
    rw [ht0] at hs0
    have hs0' : AvRep0 w (Bl A β (inS (In.arr ety sz rows :: es.map In.imm) vs.size).m) β (inS (In.arr ety sz rows :: es.map In.imm) vs.size).m (.own 0 0 rows.length) (vs.getD 0 Go.undef) := hs0
    simp only [AvRep0, hm0] at hs0'
    have hextra : ∀ (i : Nat) (x : D), es[i]? = some x → Rep w (Bl A β (inS (In.arr ety sz rows :: es.map In.imm) vs.size).m) (vs.getD (i + 1) Go.undef) x := by
      intro i x hx
      have hs := h.slot (i + 1)
      have ht : (inS (In.arr ety sz rows :: es.map In.imm) vs.size).t (i + 1) = .imm x := by
        show inT _ (i + 1) = _
        unfold inT
        rw [lent_ins, hx]
        rfl
      rw [ht] at hs
      exact hs
    have hob := h.ob 0 _ hm0
    obtain ⟨q1, q2, q3⟩ := hob
    have hpme : (inS (In.arr ety sz rows :: es.map In.imm) vs.size).pm = [0] := lent_mutIdx
    have hp0 : locs = [β 0] := by
      obtain ⟨hpl, hpa⟩ := h.pm
      rw [hpme] at hpl hpa
      have e2 := (hpa 0 0 rfl).1
      match locs, hpl with
      | [x], _ => simp at e2; rw [e2]
    have hget : ∀ i o, outM (In.arr ety sz rows :: es.map In.imm) { res := [], muts := [O.arr ety sz rows'] } i = some o → i = 0 ∧ o = .arr ety sz rows' := by
      intro i o hi
      unfold outM at hi
      split at hi
      · cases i with
        | zero => simp at hi; exact ⟨rfl, hi.symm⟩
        | succ i =>
          rw [lent_ins] at hi
          cases h : es[i]? <;> rw [h] at hi <;> cases hi
      · simp at hi
    have hout0 : outM (In.arr ety sz rows :: es.map In.imm) { res := [], muts := [O.arr ety sz rows'] } 0 = some (.arr ety sz rows') := rfl
    have fin : ∀ w', Wrote1 w (match β 0 with | some l => l.b | none => w.heap.size) w' →
        ObRep w' (Bl (sepA w A locs true) β (outM (In.arr ety sz rows :: es.map In.imm) { res := [], muts := [O.arr ety sz rows'] })) β (outM (In.arr ety sz rows :: es.map In.imm) { res := [], muts := [O.arr ety sz rows'] }) 0 (.arr ety sz rows') →
        Sim w (sepA w A locs true) locs β (outS (In.arr ety sz rows :: es.map In.imm) { res := [], muts := [O.arr ety sz rows'] }) ⟨#[], []⟩ w' := by
      intro w' hw hob'
      refine { size := rfl, defers := rfl, slot := ?_, ob := ?_, inj := ?_, new := ?_, fr := ?_, lt := ?_, pm := ?_ }
      · intro i
        rfl
      · intro i o hi
        obtain ⟨rfl, rfl⟩ := hget i o hi
        exact hob'
      · intro i i' o o' l l' b hi _ _ hi' _ _ _ _
        exact (hget i o hi).1.trans (hget i' o' hi').1.symm
      · intro i o l hi _ hl
        obtain ⟨rfl, rfl⟩ := hget i o hi
        intro b hb
        obtain ⟨n1, n2, n3⟩ := h.new 0 _ l hm0 rfl hl b hb
        refine ⟨Nat.lt_of_lt_of_le n1 hw.size, ?_, n3⟩
        rintro (hA | ⟨_, _, hne⟩)
        · exact n2 hA
        · exact hne l (by rw [hp0, ← hl]; simp) hb
      · refine ⟨hw.os, hw.tape, hw.output, hw.size, fun b hb hloc => hw.blk b hb ?_, h.fr.tb, hw.drawn⟩
        cases hβ : β 0 with
        | none => simp only; omega
        | some l => simp only; intro e; exact hloc l (by rw [hp0, hβ]; simp) (by rw [e]; exact l.self)
      · rintro b (hA | ⟨_, hb, _⟩)
        · exact Nat.lt_of_lt_of_le (h.lt b hA) hw.size
        · exact Nat.lt_of_lt_of_le hb hw.size
      · have e1 : (outS (In.arr ety sz rows :: es.map In.imm) { res := [], muts := [O.arr ety sz rows'] }).pm = [0] := lent_mutIdx
        refine ⟨by rw [hp0, e1]; rfl, fun i id hi => ?_⟩
        rw [e1] at hi
        cases i with
        | zero => simp at hi; subst hi; exact ⟨by rw [hp0]; rfl, _, hout0⟩
        | succ i => simp at hi
    rcases q3 with ⟨_, q4⟩ | ⟨l, cs, q4, q5, q6, q7, q8, q9⟩
    · rw [q4] at hne; simp at hne
    · rcases hs0'.2 with ⟨hb, _⟩ | ⟨l', ad, hb, hv, hle, had⟩
      · rw [q4] at hb; cases hb
      · rw [q4] at hb
        injection hb with hb
        subst hb
        have had' := had (by omega)
        simp only [Nat.zero_mul, Nat.add_zero] at had'
        subst had'
        have hrep : ∀ (j : Nat) (d : D), rows.flatten[j]? = some d → Rep w (fun _ => False) (cs.getD (l.base + j) Go.undef) d := by
          intro j d hj
          refine rep_gr1 (q9 j d hj) ?_
          obtain ⟨r, hr, hd⟩ := List.mem_flatten.1 (List.mem_of_getElem? hj)
          exact List.all_eq_true.1 (hgr r hr) d hd
        have hfit : l.base + rows.length * sz ≤ cs.size := by
          rw [q6]; exact Nat.add_le_add_left (Nat.mul_le_mul_right _ q7) _
        have htb : Tbb w l.b := fun g cs' hg => by
          obtain ⟨hc1, hc2⟩ := h.fr.tb g cs' hg
          refine ⟨hc1, fun e => hc2 l (by rw [hp0, q4]; simp) ?_⟩
          rw [e]
          exact l.self
        refine (h1 w l.b l.base _ cs vs q5 (by omega) hfit hrep (by simpa using hvs) hv (fun i x hx => ⟨_, .inr ⟨0, _, l, hm0, rfl, q4, l.self⟩, hextra i x hx⟩) htb).mono ?_
        rintro e w' ⟨rfl, hw, cs', r1, r2, r3⟩
        refine ⟨#[], β, rfl, fin w' (by rw [q4]; exact hw) ?_⟩
        refine ⟨hsz', q2, .inr ⟨l, cs', q4, r1, r2.trans q6, by rw [hlen]; exact q7, q8, ?_⟩⟩
        intro j d hj
        refine rep_gr1 (r3 j d hj) ?_
        obtain ⟨r, hr, hd⟩ := List.mem_flatten.1 (List.mem_of_getElem? hj)
        exact List.all_eq_true.1 (hg' r hr) d hd
end Go.Am

/-! The abstract machine, part 51: insertion sort with a function that compares, at structs. -/
namespace Go.Am
open Go Go.Sort Go.Proofs Go.Shelf

/-- Plain data: the value is known. -/
def D.pl : D → Bool
  | .int _ _ => true
  | .bool _ => true
  | .str _ => true
  | _ => false
def dval : D → Value
  | .int k n => .int k n
  | .bool b => .bool b
  | .str s => .string s
  | _ => Go.undef
theorem rep_dval {w : World} {B : Nat → Prop} {v : Value} {d : D} (h : Rep w B v d) (hp : d.pl = true) : v = dval d := by
  cases h <;> first | rfl | cases hp
theorem rep_of_pl {w : World} {B : Nat → Prop} {d : D} (hp : d.pl = true) : Rep w B (dval d) d := by
  cases d <;> first | exact .int _ _ | exact .bool _ | exact .str _ | cases hp
theorem pl_gr {d : D} (hp : d.pl = true) : d.gr = true := by
  cases d <;> first | rfl | cases hp
theorem pl_one {d : D} (hp : d.pl = true) : (dval d).oneCell' = true := by
  cases d <;> first | rfl | cases hp

theorem rep_agg_pl {w : World} {B : Nat → Prop} {ds : List D} (hp : ∀ d ∈ ds, d.pl = true) : Rep w B (.agg (ds.map dval).toArray) (.agg ds) := by
  refine .agg _ _ (by simp) fun j d hj => ?_
  have hd := hp d (List.mem_of_getElem? hj)
  have : ((ds.map dval).toArray).getD j Go.undef = dval d := by
    rw [Array.getD_eq_getD_getElem?, List.getElem?_toArray, List.getElem?_map, hj]
    rfl
  rw [this]
  exact rep_of_pl hd

/-- The world behind a call that writes no old block: the world before, grown. -/
theorem world_grown {w w' : World} (h : Fr w [] w') : ∃ q os, w' = grow (w.drewN q) os := by
  refine ⟨w'.drawn - w.drawn, w'.heap.extract w.heap.size w'.heap.size, ?_⟩
  have hh : w'.heap = w.heap ++ w'.heap.extract w.heap.size w'.heap.size := by
    have hs := h.size
    apply Array.ext_getElem?
    intro i
    rw [Array.getElem?_append]
    by_cases hi : i < w.heap.size
    · rw [if_pos hi]
      exact h.blk i hi fun l hl => by cases hl
    · rw [if_neg hi, Array.getElem?_extract]
      by_cases hj : i < w'.heap.size
      · rw [if_pos (by omega)]
        congr 1
        omega
      · rw [if_neg (by omega), Array.getElem?_eq_none (by omega)]
  obtain ⟨hp, tp, dr, os, out⟩ := w'
  have h1 := h.os
  have h2 := h.tape
  have h3 := h.output
  have h4 := h.drawn
  simp only at h1 h2 h3 h4 hh
  subst h1 h2 h3
  simp only [grow, World.drewN]
  congr 1
  omega

/-- A function that compares, as the library's sorts ask it. -/
theorem cmpLays_of {P : Program} {α : Type} [Inhabited α] {g : FuncId} {enc : α → List D} {k : Nat} (hp : ∀ x, ∀ d ∈ enc x, d.pl = true) {cf : α → α → Int}
    {caps : List D} (hcf : ∀ x y, CallOk P g (.imm (.agg (enc x)) :: .imm (.agg (enc y)) :: caps.map .imm) { res := [.imm (.int .i64 (cf x y))] }) (blk off size : Nat) (w : World) (hT : Tbb w blk) {cb : Array Value} (hcs : cb.size = caps.length) {B : Nat → Prop} (hB : B blk) (hcb : ∀ (i : Nat) (x : D), caps[i]? = some x → Rep w B (cb.getD i Go.undef) x) :
    CmpLays P g cb (fun x => (enc x).map dval) k cf blk off size w := by
  intro m os dk _ x y
  have hkeep : Keeps w B (sortWorldK (fun x => (enc x).map dval) k w blk off m dk os) (fun _ => False) := by
    have e1 : (sortWorldK (fun x => (enc x).map dval) k w blk off m dk os).heap = (w.heap.modify blk (onCells (putCells id off (flatK (fun x => (enc x).map dval) k dk)))) ++ os := rfl
    refine ⟨?_, fun b hb hn => ?_, fun _ _ _ h => h⟩
    · rw [e1, Array.size_append, Array.size_modify]
      omega
    · rw [e1, Array.getElem?_append_left (by rw [Array.size_modify]; exact hb), Array.getElem?_modify, if_neg (fun e => by subst e; exact hn hB)]
  have hcb' : ∀ (i : Nat) (d : D), caps[i]? = some d → Rep (sortWorldK (fun x => (enc x).map dval) k w blk off m dk os) (fun _ => False) (cb.getD i Go.undef) d := fun i d hi => Rep.keep hkeep (hcb i d hi)
  have hTW : Tb (sortWorldK (fun x => (enc x).map dval) k w blk off m dk os) [] := fun g cs hg => by
    obtain ⟨⟨ty, fz, h1⟩, h2⟩ := hT g cs hg
    refine ⟨⟨ty, fz, ?_⟩, fun l hl => by cases hl⟩
    have hlt := lt_of_cells h1
    have e1 : (sortWorldK (fun x => (enc x).map dval) k w blk off m dk os).heap = (w.heap.modify blk (onCells (putCells id off (flatK (fun x => (enc x).map dval) k dk)))) ++ os := rfl
    rw [e1, Array.getElem?_append_left (by rw [Array.size_modify]; exact hlt), Array.getElem?_modify, if_neg (Ne.symm h2)]
    exact h1
  generalize sortWorldK (fun x => (enc x).map dval) k w blk off m dk os = W at hcb' hTW
  generalize hargs : (#[Value.agg ((enc x).map dval).toArray, Value.agg ((enc y).map dval).toArray] ++ cb) = args
  have hasz : args.size = caps.length + 2 := by rw [← hargs, Array.size_append, hcs]; simp; omega
  have ha0 : args.getD 0 Go.undef = .agg ((enc x).map dval).toArray := by
    rw [← hargs, Array.getD_eq_getD_getElem?, Array.getElem?_append_left (by simp)]
    rfl
  have ha1 : args.getD 1 Go.undef = .agg ((enc y).map dval).toArray := by
    rw [← hargs, Array.getD_eq_getD_getElem?, Array.getElem?_append_left (by simp)]
    rfl
  have ha2 : ∀ i, args.getD (i + 2) Go.undef = cb.getD i Go.undef := fun i => by
    rw [← hargs]
    simp only [Array.getD_eq_getD_getElem?]
    rw [Array.getElem?_append_right (by simp)]
    rfl
  have hins : ∀ j, (In.imm (.agg (enc x)) :: .imm (.agg (enc y)) :: caps.map In.imm)[j]? = ((D.agg (enc x) :: D.agg (enc y) :: caps)[j]?).map In.imm := fun j => by
    have : (In.imm (.agg (enc x)) :: .imm (.agg (enc y)) :: caps.map In.imm) = (D.agg (enc x) :: D.agg (enc y) :: caps).map In.imm := rfl
    rw [this, List.getElem?_map]
  have hinM : inM (In.imm (.agg (enc x)) :: .imm (.agg (enc y)) :: caps.map In.imm) = fun _ => none := by
    funext i
    unfold inM
    rw [hins]
    cases (D.agg (enc x) :: D.agg (enc y) :: caps)[i]? <;> rfl
  have hmi : mutIdx (In.imm (.agg (enc x)) :: .imm (.agg (enc y)) :: caps.map In.imm) = [] := by
    unfold mutIdx
    refine List.filter_eq_nil_iff.2 fun i _ => ?_
    rw [hins]
    cases (D.agg (enc x) :: D.agg (enc y) :: caps)[i]? <;> simp [In.isMut]
  have hsim : Sim W (fun _ => False) [] (fun _ => none) (inS (.imm (.agg (enc x)) :: .imm (.agg (enc y)) :: caps.map .imm) args.size) ⟨args, []⟩ W := by
    refine { size := rfl, defers := rfl, slot := fun i => ?_, ob := fun id o ho => ?_, inj := fun id id' o o' l l' b h1 => ?_, new := fun id o l h1 => ?_, fr := Fr.refl _ _ hTW, lt := fun b h => h.elim, pm := ?_ }
    · have hbl : ∀ b, Bl (fun _ => False) (fun _ => none) (inS (.imm (.agg (enc x)) :: .imm (.agg (enc y)) :: caps.map .imm) args.size).m b → False := by
        rintro b (h | ⟨i, o, l, h1, _⟩)
        · exact h
        · have h1' : inM (In.imm (.agg (enc x)) :: .imm (.agg (enc y)) :: caps.map In.imm) i = some o := h1
          rw [hinM] at h1'; cases h1'
      have hk2 : Keeps W (fun _ => False) W (Bl (fun _ => False) (fun _ => none) (inS (.imm (.agg (enc x)) :: .imm (.agg (enc y)) :: caps.map .imm) args.size).m) := ⟨Nat.le_refl _, fun _ _ _ => rfl, fun b _ _ h => hbl b h⟩
      match i with
      | 0 => rw [show (⟨args, []⟩ : Act).tmps.getD 0 Go.undef = args.getD 0 Go.undef from rfl, ha0]; exact rep_agg_pl (hp x)
      | 1 => rw [show (⟨args, []⟩ : Act).tmps.getD 1 Go.undef = args.getD 1 Go.undef from rfl, ha1]; exact rep_agg_pl (hp y)
      | n + 2 =>
        rw [show (⟨args, []⟩ : Act).tmps.getD (n + 2) Go.undef = args.getD (n + 2) Go.undef from rfl, ha2]
        cases hc : caps[n]? with
        | none =>
          have ht : (inS (.imm (.agg (enc x)) :: .imm (.agg (enc y)) :: caps.map .imm) args.size).t (n + 2) = .undef := by
            show inT _ (n + 2) = _
            unfold inT
            rw [hins, List.getElem?_cons_succ, List.getElem?_cons_succ, hc]
            rfl
          rw [ht]
          show cb.getD n Go.undef = Go.undef
          have := List.getElem?_eq_none_iff.1 hc
          rw [Array.getD_eq_getD_getElem?, Array.getElem?_eq_none (by omega)]
          rfl
        | some d =>
          have ht : (inS (.imm (.agg (enc x)) :: .imm (.agg (enc y)) :: caps.map .imm) args.size).t (n + 2) = .imm d := by
            show inT _ (n + 2) = _
            unfold inT
            rw [hins, List.getElem?_cons_succ, List.getElem?_cons_succ, hc]
            rfl
          rw [ht]
          exact Rep.keep hk2 (hcb' n d hc)
    · have : inM (In.imm (.agg (enc x)) :: .imm (.agg (enc y)) :: caps.map In.imm) id = some o := ho
      rw [hinM] at this; cases this
    · have : inM (In.imm (.agg (enc x)) :: .imm (.agg (enc y)) :: caps.map In.imm) id = some o := h1
      rw [hinM] at this; cases this
    · have : inM (In.imm (.agg (enc x)) :: .imm (.agg (enc y)) :: caps.map In.imm) id = some o := h1
      rw [hinM] at this; cases this
    · refine ⟨by rw [show (inS (.imm (.agg (enc x)) :: .imm (.agg (enc y)) :: caps.map .imm) args.size).pm = [] from hmi]; rfl, fun i id h => ?_⟩
      rw [show (inS (.imm (.agg (enc x)) :: .imm (.agg (enc y)) :: caps.map .imm) args.size).pm = [] from hmi] at h
      simp at h
  refine ((hcf x y).2.2.2 W _ _ _ _ hsim (by rw [hasz]; simp)).mono ?_
  rintro e W' ⟨vals, β', rfl, hs2⟩
  have hsz2 : vals.size = 1 := hs2.size
  have hv0 := hs2.slot 0
  have hv1 : vals.getD 0 Go.undef = .int .i64 (cf x y) := rep_int hv0
  refine ⟨?_, world_grown hs2.fr⟩
  show Ending.returned (packR vals) = _
  unfold packR
  rw [if_pos hsz2, hv1]

theorem size_swp {α : Type} [Inhabited α] (d : Array α) (i j : Nat) : (swp d i j).size = d.size := by simp [swp]
theorem size_insInner {α : Type} [Inhabited α] (lt : α → α → Bool) (a : Nat) : ∀ (j : Nat) (d : Array α), (insInner lt a j d).size = d.size
  | 0, d => rfl
  | j + 1, d => by
    unfold insInner
    split
    · rw [size_insInner lt a j, size_swp]
    · rfl
theorem size_insOuter {α : Type} [Inhabited α] (lt : α → α → Bool) (a b : Nat) : ∀ (n i : Nat) (d : Array α), b - i ≤ n → (insOuter lt a b i d).size = d.size
  | 0, i, d, h => by
    rw [insOuter, if_neg (by omega)]
  | n + 1, i, d, h => by
    rw [insOuter]
    split
    · rw [size_insOuter lt a b n (i + 1) _ (by omega), size_insInner]
    · rfl
theorem size_insSort {α : Type} [Inhabited α] (lt : α → α → Bool) (a b : Nat) (d : Array α) : (insertionSort lt d a b).size = d.size := size_insOuter lt a b _ _ _ (Nat.le_refl _)

/-- What the sorts' premises ask of a row of structs. -/
theorem holdsK_of {α : Type} [Inhabited α] {enc : α → List D} {k : Nat} (hk : ∀ x, (enc x).length = k) (hp : ∀ x, ∀ d ∈ enc x, d.pl = true) {w : World} {b o : Nat} {ety : TypeId} {cs : Array Value} {xs : List α} (hb : w.heap[b]? = some (.cells cs ety (0, 0)))
    (hfit : o + xs.length * k ≤ cs.size) (hrep : ∀ (j : Nat) (d : D), (xs.map enc).flatten[j]? = some d → Rep w (fun _ => False) (cs.getD (o + j) Go.undef) d) :
    HoldsK (fun x => (enc x).map dval) k w b o xs.toArray := by
  intro j hj
  rw [size_flatK] at hj
  have hjl : j < xs.length * k := by simpa using hj
  have hk0 : 0 < k := by
    rcases Nat.eq_zero_or_pos k with h | h
    · subst h; omega
    · exact h
  have hi : j / k < xs.length := (Nat.div_lt_iff_lt_mul hk0).2 hjl
  have hq : j % k < k := Nat.mod_lt _ hk0
  have hq' : j % k < (enc (xs[j / k]'hi)).length := by rw [hk]; exact hq
  obtain ⟨d, hd⟩ : ∃ d, (enc (xs[j / k]'hi))[j % k]? = some d := ⟨_, List.getElem?_eq_getElem hq'⟩
  have hrow : (xs.map enc)[j / k]? = some (enc xs[j / k]) := by rw [List.getElem?_map, List.getElem?_eq_getElem hi]; rfl
  have hfl := flat_at (xs.map enc) (sz := k) (fun r hr => by obtain ⟨x, _, rfl⟩ := List.mem_map.1 hr; exact hk x) _ _ hrow _ d hd
  rw [Nat.div_add_mod'] at hfl
  have hv := rep_dval (hrep j d hfl) (hp _ d (List.mem_of_getElem? hd))
  refine ⟨?_, thaw hb⟩
  rw [cell_at hb, getD_of (by omega), hv, get_flatK _ _ _ _ hj]
  congr 1
  show dval d = (((enc (xs.toArray[j / k]!)).map dval)[j % k]!)
  have e1 : xs.toArray[j / k]! = xs[j / k] := by simp [hi]
  rw [e1, List.getElem!_eq_getElem?_getD, List.getElem?_map, hd]
  rfl

theorem cells_of_put {α : Type} [Inhabited α] {enc : α → List D} {k : Nat} (hk : ∀ x, (enc x).length = k) (hp : ∀ x, ∀ d ∈ enc x, d.pl = true) {w' : World} {o : Nat} {cs : Array Value} {d' : Array α}
    (hfit : o + d'.size * k ≤ cs.size) (j : Nat) (d : D) (hj : (d'.toList.map enc).flatten[j]? = some d) : Rep w' (fun _ => False) ((putCells id o (flatK (fun x => (enc x).map dval) k d') cs).getD (o + j) Go.undef) d := by
  obtain ⟨i, q, r, rfl, hq, hi, hrq⟩ := flat_inv _ (sz := k) (fun r hr => by obtain ⟨x, _, rfl⟩ := List.mem_map.1 hr; exact hk x) j d hj
  rw [List.getElem?_map, Option.map_eq_some_iff] at hi
  obtain ⟨x, hx, rfl⟩ := hi
  have hil : i < d'.size := by have := (List.getElem?_eq_some_iff.1 hx).1; simpa using this
  have hlt : i * k + q < d'.size * k := by
    have : (i + 1) * k ≤ d'.size * k := Nat.mul_le_mul_right _ hil
    rw [Nat.succ_mul] at this
    omega
  have hpl := hp x d (List.mem_of_getElem? hrq)
  have hcell : (putCells id o (flatK (fun x => (enc x).map dval) k d') cs).getD (o + (i * k + q)) Go.undef = dval d := by
    unfold putCells
    simp only [Array.getD_eq_getD_getElem?, Array.getElem?_mapIdx]
    rw [Array.getElem?_eq_getElem (by omega)]
    simp only [Option.map_some, Option.getD_some]
    rw [if_pos ⟨by omega, by rw [size_flatK]; omega⟩, Nat.add_sub_cancel_left]
    show (flatK _ k d')[i * k + q]! = _
    rw [get_flatK _ _ _ _ hlt]
    have e1 : (i * k + q) / k = i := by rw [Nat.mul_comm, Nat.mul_add_div (by omega), Nat.div_eq_of_lt hq, Nat.add_zero]
    have e2 : (i * k + q) % k = q := by rw [Nat.mul_comm, Nat.mul_add_mod, Nat.mod_eq_of_lt hq]
    rw [e1, e2]
    have e3 : d'[i]! = x := by
      rw [getElem!_pos d' i hil]
      have := (List.getElem?_eq_some_iff.1 hx).2
      simpa using this
    show ((enc d'[i]!).map dval)[q]! = _
    rw [e3, List.getElem!_eq_getElem?_getD, List.getElem?_map, hrq]
    rfl
  rw [hcell]
  exact rep_of_pl hpl

/-- The world that a sort leaves. -/
theorem wrote_sortK {α : Type} [Inhabited α] (encV : α → List Value) (k : Nat) {w : World} {b o n : Nat} {ety : TypeId} {cs : Array Value} (d' : Array α) (os : Array Obj) (hb : w.heap[b]? = some (.cells cs ety (0, 0))) :
    Wrote1 w b (sortWorldK encV k w b o n d' os) ∧ (sortWorldK encV k w b o n d' os).heap[b]? = some (.cells (putCells id o (flatK encV k d') cs) ety (0, 0)) := by
  have hbs : b < w.heap.size := (Array.getElem?_eq_some_iff.1 hb).1
  have e1 : (sortWorldK encV k w b o n d' os).heap = (w.heap.modify b (onCells (putCells id o (flatK encV k d')))) ++ os := rfl
  have hsz : (w.heap.modify b (onCells (putCells id o (flatK encV k d')))).size = w.heap.size := Array.size_modify
  refine ⟨⟨rfl, rfl, rfl, ?_, ?_, Nat.le_add_right _ _⟩, ?_⟩
  · rw [e1, Array.size_append, hsz]
    omega
  · intro i hi hne
    rw [e1, Array.getElem?_append_left (by rw [hsz]; exact hi), Array.getElem?_modify, if_neg (Ne.symm hne)]
  · rw [e1, Array.getElem?_append_left (by rw [hsz]; exact hbs), Array.getElem?_modify, if_pos rfl, hb]
    rfl

theorem args4 {vs : Array Value} {a b c d : Value} (hs : vs.size = 4) (h0 : vs.getD 0 Go.undef = a) (h1 : vs.getD 1 Go.undef = b) (h2 : vs.getD 2 Go.undef = c) (h3 : vs.getD 3 Go.undef = d) : vs = #[a, b, c, d] := by
  subst h0 h1 h2 h3
  apply Array.ext (by simpa using hs)
  intro i hi1 hi2
  simp only [List.size_toArray, List.length_cons, List.length_nil] at hi2
  match i, hi2 with
  | 0, _ => simp [Array.getD, hi1]
  | 1, _ => simp [Array.getD, hi1]
  | 2, _ => simp [Array.getD, hi1]
  | 3, _ => simp [Array.getD, hi1]

theorem enters_am {P : Program} {f : FuncId} (h : Am.Enters P f) : ∀ args w, (callFunc f args).run P w = .ok (.enter f args) w := by
  obtain ⟨fn, h1, h2, h3⟩ := h
  obtain ⟨c, hc⟩ := Option.isSome_iff_exists.1 h3
  exact enters_of h1 h2 hc

theorem callOk_insFn {P : Program} {ρ : Ren} {α : Type} [Inhabited α] (L : SlLaysF0.n20 P ρ) (he : Am.Enters P (ρ.f 20)) {k : Nat} (aE : ∀ w, (isAgg (ρ.t 24)).run P w = .ok true w) (zE : ∀ w, (Go.sizeOf (ρ.t 24)).run P w = .ok k w)
    {enc : α → List D} (hk : ∀ x, (enc x).length = k) (hp : ∀ x, ∀ d ∈ enc x, d.pl = true) {cf : α → α → Int} {g : FuncId}
    {caps : List D} (hcf : ∀ x y, CallOk P g (.imm (.agg (enc x)) :: .imm (.agg (enc y)) :: caps.map .imm) { res := [.imm (.int .i64 (cf x y))] }) (ety : TypeId) (xs : List α) (hx : 0 < xs.length) (hm : xs.length < 4611686018427387904) :
    CallOk P (ρ.f 20) [.arr ety k (xs.map enc), .imm (.int .i64 0), .imm (.int .i64 xs.length), .imm (.fn g caps)] { res := [], muts := [.arr ety k ((insertionSort (ltOf cf) xs.toArray 0 xs.length).toList.map enc)] } := by
  have hd'l : (insertionSort (ltOf cf) xs.toArray 0 xs.length).size = xs.length := by rw [size_insSort]; simp
  have hg : ∀ ys : List α, ∀ r ∈ ys.map enc, r.all D.gr = true := by
    intro ys r hr
    obtain ⟨x, _, rfl⟩ := List.mem_map.1 hr
    exact List.all_eq_true.2 fun d hd => pl_gr (hp x d hd)
  refine callOk_lent (es := [.int .i64 0, .int .i64 xs.length, .fn g caps]) he (by simp) (by simp [hd'l]) (fun r hr => by obtain ⟨x, _, rfl⟩ := List.mem_map.1 hr; exact hk x) (hg _) (hg _) (by simpa using hx) ?_
  intro w b o cap cs vs hb hcap hfit hrep hvs hv0 hex htb
  simp only [List.length_map] at hfit hcap hv0
  obtain ⟨_, _, r1⟩ := hex 0 _ rfl
  obtain ⟨_, _, r2⟩ := hex 1 _ rfl
  obtain ⟨B, hBb, r3⟩ := hex 2 _ rfl
  have v1 := rep_int r1
  have v2 := rep_int r2
  obtain ⟨cb, hcs, v3, hcb⟩ : ∃ cb : Array Value, cb.size = caps.length ∧ vs.getD 3 Go.undef = .func (.func g) #[] cb ∧ ∀ (i : Nat) (x : D), caps[i]? = some x → Rep w B (cb.getD i Go.undef) x := by
    have r3' : Rep w B (vs.getD 3 Go.undef) (.fn g caps) := r3
    generalize vs.getD 3 Go.undef = v at r3'
    cases r3' with
    | fn f cvs ds hs hj => exact ⟨cvs, hs, rfl, hj⟩
  have hvs' := args4 (by simpa using hvs) hv0 v1 v2 v3
  subst hvs'
  have hbs : b < w.heap.size := (Array.getElem?_eq_some_iff.1 hb).1
  have hH := holdsK_of hk hp hb hfit hrep
  have hc := AnyQ.insertionSortCmpFunc L k aE zE (fun x => (enc x).map dval) (fun x => by rw [List.length_map]; exact hk x) (fun x v hv => by obtain ⟨d, hd, rfl⟩ := List.mem_map.1 hv; exact pl_one (hp x d hd)) cf g cb b o cap 0 xs.length xs.toArray w
    (enters_am (hcf default default).1) (cmpLays_of hp hcf b o _ w htb hcs hBb hcb) hH hbs (Nat.zero_le _) (by simp) (by simpa using hm)
  have e0 : xs.toArray.size = xs.length := by simp
  rw [e0] at hc
  refine hc.mono ?_
  rintro e w' ⟨rfl, n, os, rfl⟩
  obtain ⟨hw, hcell⟩ := wrote_sortK (fun x => (enc x).map dval) k (o := o) (n := n) (insertionSort (ltOf cf) xs.toArray 0 xs.length) os hb
  refine ⟨rfl, hw, _, hcell, by simp [putCells], ?_⟩
  intro j d hj
  exact cells_of_put hk hp (by rw [hd'l]; exact hfit) j d hj
end Go.Am

/-! The abstract machine, part 52: what insertion sort leaves, in plain lists. -/
namespace Go.Am
open Go Go.Sort

/-- x is put behind all that it does not come before. -/
def insL {α : Type} (lt : α → α → Bool) (s : List α) (x : α) : List α := s.filter (fun y => !lt x y) ++ x :: s.filter (fun y => lt x y)
def sortL {α : Type} (lt : α → α → Bool) (xs : List α) : List α := xs.foldl (insL lt) []
/-- What is asked of the order. -/
structure Weak {α : Type} (lt : α → α → Bool) : Prop where
  asym : ∀ x y, lt x y = true → lt y x = false
  neg : ∀ x y z, lt x y = false → lt y z = false → lt x z = false
def Srt {α : Type} (lt : α → α → Bool) (s : List α) : Prop := s.Pairwise fun a b => lt b a = false

theorem insL_srt {α : Type} {lt : α → α → Bool} (hw : Weak lt) {s : List α} (hs : Srt lt s) (x : α) : Srt lt (insL lt s x) := by
  unfold insL
  refine List.pairwise_append.2 ⟨hs.sublist List.filter_sublist, List.pairwise_cons.2 ⟨?_, hs.sublist List.filter_sublist⟩, ?_⟩
  · intro b hb
    have := (List.mem_filter.1 hb).2
    exact hw.asym _ _ this
  · intro a ha b hb
    have h1 : lt x a = false := by simpa using (List.mem_filter.1 ha).2
    rcases List.mem_cons.1 hb with rfl | hb
    · exact h1
    · have h2 : lt x b = true := by simpa using (List.mem_filter.1 hb).2
      cases h3 : lt a b with
      | true => exact hw.asym _ _ h3
      | false => rw [hw.neg x a b h1 h3] at h2; cases h2

theorem foldl_srt {α : Type} {lt : α → α → Bool} (hw : Weak lt) : ∀ (xs s : List α), Srt lt s → Srt lt (xs.foldl (insL lt) s)
  | [], _, hs => hs
  | x :: xs, _, hs => foldl_srt hw xs _ (insL_srt hw hs x)
theorem sortL_srt {α : Type} {lt : α → α → Bool} (hw : Weak lt) (xs : List α) : Srt lt (sortL lt xs) := foldl_srt hw xs [] List.Pairwise.nil

theorem srt_split {α : Type} {lt : α → α → Bool} (hw : Weak lt) (x : α) : ∀ (s : List α), Srt lt s → s.filter (fun y => !lt x y) ++ s.filter (fun y => lt x y) = s
  | [], _ => rfl
  | a :: s, hs => by
    obtain ⟨h1, h2⟩ := List.pairwise_cons.1 hs
    cases ha : lt x a with
    | false =>
      simp only [List.filter_cons, ha, Bool.not_false, if_true, Bool.false_eq_true, if_false, List.cons_append]
      rw [srt_split hw x s h2]
    | true =>
      have hall : ∀ b ∈ s, lt x b = true := fun b hb => by
        cases hb' : lt x b with
        | true => rfl
        | false => rw [hw.neg x b a hb' (h1 b hb)] at ha; cases ha
      have e1 : s.filter (fun y => !lt x y) = [] := List.filter_eq_nil_iff.2 fun b hb => by simp [hall b hb]
      have e2 : s.filter (fun y => lt x y) = s := List.filter_eq_self.2 hall
      simp only [List.filter_cons, ha, Bool.not_true, Bool.false_eq_true, if_false, if_true, e1, e2, List.nil_append]

/-- Where x is put. -/
theorem insL_at {α : Type} {lt : α → α → Bool} (hw : Weak lt) {s : List α} (hs : Srt lt s) {x : α} {k : Nat} (hd : ∀ y ∈ s.drop k, lt x y = true) (ht : k = 0 ∨ ∃ y, s[k - 1]? = some y ∧ lt x y = false) :
    s.take k ++ [x] ++ s.drop k = insL lt s x := by
  have htake : ∀ y ∈ s.take k, lt x y = false := by
    rcases ht with rfl | ⟨y, hy, hxy⟩
    · intro y hy; simp at hy
    · intro z hz
      obtain ⟨i, hi⟩ := List.getElem?_of_mem hz
      have hil := (List.getElem?_eq_some_iff.1 hi).1
      rw [List.length_take] at hil
      rw [List.getElem?_take] at hi
      split at hi
      · rename_i hik
        by_cases he : i = k - 1
        · subst he; rw [hy] at hi; injection hi with hi; subst hi; exact hxy
        · have hp : lt y z = false := by
            obtain ⟨p1, p2⟩ := List.getElem?_eq_some_iff.1 hi
            obtain ⟨q1, q2⟩ := List.getElem?_eq_some_iff.1 hy
            have := List.pairwise_iff_getElem.1 hs i (k - 1) p1 q1 (by omega)
            rw [p2, q2] at this
            exact this
          exact hw.neg x y z hxy hp
      · cases hi
  have e1 : (s.take k).filter (fun y => !lt x y) = s.take k := List.filter_eq_self.2 fun y hy => by simp [htake y hy]
  have e2 : (s.drop k).filter (fun y => !lt x y) = [] := List.filter_eq_nil_iff.2 fun y hy => by simp [hd y hy]
  have e3 : (s.take k).filter (fun y => lt x y) = [] := List.filter_eq_nil_iff.2 fun y hy => by simp [htake y hy]
  have e4 : (s.drop k).filter (fun y => lt x y) = s.drop k := List.filter_eq_self.2 hd
  unfold insL
  conv => rhs; rw [← List.take_append_drop k s]
  rw [List.filter_append, List.filter_append, e1, e2, e3, e4]
  simp

theorem filter_insL {α : Type} {lt : α → α → Bool} (hw : Weak lt) (p : α → Bool) {s : List α} (hs : Srt lt s) (x : α) : (insL lt s x).filter p = if p x then insL lt (s.filter p) x else s.filter p := by
  unfold insL
  rw [List.filter_append, List.filter_cons, List.filter_filter, List.filter_filter]
  have c1 : s.filter (fun a => p a && !lt x a) = (s.filter p).filter (fun y => !lt x y) := by rw [List.filter_filter]; congr 1; funext a; exact Bool.and_comm _ _
  have c2 : s.filter (fun a => p a && lt x a) = (s.filter p).filter (fun y => lt x y) := by rw [List.filter_filter]; congr 1; funext a; exact Bool.and_comm _ _
  rw [c1, c2]
  split
  · rfl
  · exact srt_split hw x _ (hs.sublist List.filter_sublist)

theorem filter_foldl {α : Type} {lt : α → α → Bool} (hw : Weak lt) (p : α → Bool) : ∀ (xs s : List α), Srt lt s → (xs.foldl (insL lt) s).filter p = (xs.filter p).foldl (insL lt) (s.filter p)
  | [], _, _ => rfl
  | x :: xs, s, hs => by
    rw [List.foldl_cons, filter_foldl hw p xs _ (insL_srt hw hs x), filter_insL hw p hs, List.filter_cons]
    split <;> rfl
theorem filter_sortL {α : Type} {lt : α → α → Bool} (hw : Weak lt) (p : α → Bool) (xs : List α) : (sortL lt xs).filter p = sortL lt (xs.filter p) := filter_foldl hw p xs [] List.Pairwise.nil
theorem sortL_next {α : Type} (lt : α → α → Bool) (xs : List α) (x : α) : sortL lt (xs ++ [x]) = insL lt (sortL lt xs) x := by
  unfold sortL
  rw [List.foldl_append]
  rfl
theorem insL_len {α : Type} {lt : α → α → Bool} (hw : Weak lt) {s : List α} (hs : Srt lt s) (x : α) : (insL lt s x).length = s.length + 1 := by
  have := congrArg List.length (srt_split hw x s hs)
  rw [List.length_append] at this
  unfold insL
  rw [List.length_append, List.length_cons]
  omega
theorem foldl_len {α : Type} {lt : α → α → Bool} (hw : Weak lt) : ∀ (xs s : List α), Srt lt s → (xs.foldl (insL lt) s).length = s.length + xs.length
  | [], _, _ => rfl
  | x :: xs, s, hs => by
    rw [List.foldl_cons, foldl_len hw xs _ (insL_srt hw hs x), insL_len hw hs, List.length_cons]
    omega
theorem sortL_len {α : Type} {lt : α → α → Bool} (hw : Weak lt) (xs : List α) : (sortL lt xs).length = xs.length := by
  have := foldl_len hw xs [] List.Pairwise.nil
  simpa [sortL] using this
theorem mem_insL {α : Type} {lt : α → α → Bool} {s : List α} {x y : α} (h : y ∈ insL lt s x) : y = x ∨ y ∈ s := by
  unfold insL at h
  rcases List.mem_append.1 h with h | h
  · exact .inr (List.mem_filter.1 h).1
  · rcases List.mem_cons.1 h with h | h
    · exact .inl h
    · exact .inr (List.mem_filter.1 h).1
theorem mem_foldl {α : Type} {lt : α → α → Bool} {y : α} : ∀ (xs s : List α), y ∈ xs.foldl (insL lt) s → y ∈ s ∨ y ∈ xs
  | [], _, h => .inl h
  | x :: xs, s, h => by
    rcases mem_foldl xs _ h with h | h
    · rcases mem_insL h with rfl | h
      · exact .inr (by simp)
      · exact .inl h
    · exact .inr (by simp [h])
theorem mem_sortL {α : Type} {lt : α → α → Bool} {xs : List α} {y : α} (h : y ∈ sortL lt xs) : y ∈ xs := by
  rcases mem_foldl xs [] h with h | h
  · cases h
  · exact h

section
variable {α : Type} [Inhabited α] {lt : α → α → Bool}

theorem swp_list (A q : List α) (x y : α) : swp (A ++ y :: x :: q).toArray (A.length + 1) A.length = (A ++ x :: y :: q).toArray := by
  have e1 : (A ++ y :: x :: q).toArray[A.length + 1]! = x := by
    rw [getElem!_pos _ _ (by simp)]
    simp [List.getElem_append_right]
  have e2 : (A ++ y :: x :: q).toArray[A.length]! = y := by
    rw [getElem!_pos _ _ (by simp)]
    simp [List.getElem_append_right]
  unfold swp
  rw [e1, e2]
  simp only [List.setIfInBounds_toArray]
  congr 1
  rw [List.set_append_right _ _ (by omega), List.set_append_right _ _ (by omega)]
  simp

def insB (lt : α → α → Bool) (x : α) : List α → List α → List α
  | [], q => x :: q
  | y :: p, q => if lt x y then insB lt x p (y :: q) else p.reverse ++ y :: x :: q

theorem inner_list (x : α) : ∀ (p q : List α), insInner lt 0 p.length (p.reverse ++ x :: q).toArray = (insB lt x p q).toArray
  | [], q => rfl
  | y :: p, q => by
    have e : ((y :: p).reverse ++ x :: q) = p.reverse ++ y :: x :: q := by simp
    rw [e, List.length_cons]
    unfold insInner insB
    have hl : p.reverse.length = p.length := List.length_reverse
    have e1 : (p.reverse ++ y :: x :: q).toArray[p.length + 1]! = x := by
      rw [getElem!_pos _ _ (by simp)]
      simp [List.getElem_append_right]
    have e2 : (p.reverse ++ y :: x :: q).toArray[p.length]! = y := by
      rw [getElem!_pos _ _ (by simp)]
      simp [List.getElem_append_right]
    rw [e1, e2]
    have hd : decide (p.length + 1 > 0) = true := by simp
    simp only [hd, Bool.true_and]
    split
    · have := swp_list p.reverse q x y
      rw [hl] at this
      rw [this, inner_list x p (y :: q)]
    · rfl

omit [Inhabited α] in
theorem insB_eq (hw : Weak lt) (x : α) : ∀ (p q : List α), Srt lt p.reverse → insB lt x p q = insL lt p.reverse x ++ q
  | [], q, _ => rfl
  | y :: p, q, hs => by
    unfold insB
    rw [List.reverse_cons] at hs ⊢
    obtain ⟨h1, _, h3⟩ := List.pairwise_append.1 hs
    split
    · rename_i hxy
      rw [insB_eq hw x p (y :: q) h1]
      unfold insL
      rw [List.filter_append, List.filter_append]
      simp [hxy]
    · rename_i hxy
      have hxy : lt x y = false := by simpa using hxy
      have hall : ∀ z ∈ p.reverse, lt x z = false := fun z hz => hw.neg x y z hxy (h3 z hz y (by simp))
      have f1 : p.reverse.filter (fun y => !lt x y) = p.reverse := List.filter_eq_self.2 fun z hz => by simp [hall z hz]
      have f2 : p.reverse.filter (fun y => lt x y) = [] := List.filter_eq_nil_iff.2 fun z hz => by simp [hall z hz]
      unfold insL
      rw [List.filter_append, List.filter_append, f1, f2]
      simp [hxy]

theorem outer_list (hw : Weak lt) : ∀ (r s : List α) (i b : Nat), Srt lt s → s.length = i → b = i + r.length → (insOuter lt 0 b i (s ++ r).toArray) = (r.foldl (insL lt) s).toArray
  | [], s, i, b, _, _, hb => by
    rw [insOuter, if_neg (by simp at hb; omega), List.append_nil]
    rfl
  | x :: r, s, i, b, hs, hi, hb => by
    rw [List.length_cons] at hb
    rw [insOuter, if_pos (by omega)]
    have hin := inner_list (lt := lt) x s.reverse r
    rw [List.reverse_reverse, List.length_reverse, hi] at hin
    rw [hin, insB_eq hw x _ _ (by rw [List.reverse_reverse]; exact hs), List.reverse_reverse, List.foldl_cons]
    exact outer_list hw r _ (i + 1) b (insL_srt hw hs x) (by rw [insL_len hw hs, hi]) (by omega)

theorem insertionSort_list (hw : Weak lt) (xs : List α) : (insertionSort lt xs.toArray 0 xs.length).toList = sortL lt xs := by
  unfold insertionSort
  cases xs with
  | nil => rw [insOuter, if_neg (by simp)]; rfl
  | cons x r =>
    have := outer_list hw r [x] 1 (x :: r).length (List.pairwise_singleton _ _) rfl (by simp; omega)
    simp only [List.singleton_append] at this
    rw [this]
    rfl
end
end Go.Am

/-! The abstract machine, part 53: the end of a function that hands nothing back. -/
namespace Go.Am
open Go
theorem ret_mutU {T : TypeId → Option TI} {fn : Func} {ty sz : Nat} {rows rows' : List (List D)} {ins : List In} {id : Nat} {σ : S} (hr : fn.results.toList = []) (hmi : mutIdx (.arr ty sz rows :: ins) = [0]) (hp : σ.pm = [id])
    (hm : σ.m id = some (.arr ty sz rows')) (hgr : ∀ x ∈ rows', x.all D.gr = true) :
    retQ T fn (.arr ty sz rows :: ins) { res := [], muts := [.arr ty sz rows'] } .normal σ := by
  have h : retQ T fn (.arr ty sz rows :: ins) { res := [], muts := [.arr ty sz rows'] } .ret σ := by
    refine ret_all (avs := []) (by rw [hr]; rfl) trivial (by simp [ownIds]) (by rw [hp]; simp) ?_
    rw [hmi, hp]
    refine ⟨hm, fun _ => ?_, trivial⟩
    show (rows'.all fun r => r.all D.gr) = true
    exact List.all_eq_true.2 hgr
  exact h
end Go.Am

