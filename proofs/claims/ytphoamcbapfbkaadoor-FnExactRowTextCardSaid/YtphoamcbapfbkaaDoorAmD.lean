/- The abstract machine: library contracts. -/
import Derived.Test.YtphoamcbapfbkaaDoorAmB
import Derived.Sort.Grow
import Derived.Deep.Draws
import Derived.Shelf.Strings.Search3
import Derived.Shelf.Strconv.Itoa3
import Derived.Test.YtphoamcbapfbkaaDoorAmC
import Derived.Shelf.Sort.Plain
import Derived.Shelf.Slices.In.SortNone
/-! The abstract machine, part 31: a contract over an array that is lent and written in place, from what a call does to one block. -/
namespace Go.Am
open Go

/-- The world behind a call that wrote one block alone, and may have made new ones. -/
structure Wrote (w : World) (b : Nat) (w' : World) : Prop where
  os : w'.os = w.os
  tape : w'.tape = w.tape
  output : w'.output = w.output
  size : w.heap.size ≤ w'.heap.size
  blk : ∀ k, k < w.heap.size → k ≠ b → w'.heap[k]? = w.heap[k]?

theorem rep_gr0 {w : World} {B : Nat → Prop} {d : D} {v : Value} (h : Rep w B v d) (hg : d.gr = true) {w' : World} {B' : Nat → Prop} : Rep w' B' v d := by
  cases h with
  | int k n => exact .int k n
  | bool b => exact .bool b
  | str s => exact .str s
  | other v => exact .other v
  | nil a c => exact .nil a c
  | list ad n c rows sz g hn hc hr hb hB hs hcell hrep =>
    cases rows with
    | nil => simp only [List.length_nil] at hn; subst hn; exact .nil _ _
    | cons r rs => simp [D.gr] at hg
  | agg vs ds hs hr => simp [D.gr] at hg
  | fn f vs ds hs hr => simp [D.gr] at hg
  | ptr ad ds g hb hB hs hc hr => simp [D.gr] at hg

theorem callOk_put {P : Program} {f : FuncId} (he : Enters P f) {ety sz : Nat} {rows rows' : List (List D)} (hlen : rows'.length = rows.length) (hsz' : ∀ r ∈ rows', r.length = sz) (hg' : ∀ r ∈ rows', r.all D.gr = true)
    (h0 : rows = [] → ∀ (w : World) (ad : Option Addr) (cap : Nat), Calls P f #[.slice ad 0 cap] w fun e w' => e = .returned (.tuple #[]) ∧ ∀ b, Wrote w b w' ∧ ∀ k, k < w.heap.size → w'.heap[k]? = w.heap[k]?)
    (h1 : ∀ (w : World) (b o cap : Nat) (cs : Array Value), w.heap[b]? = some (.cells cs ety (0, 0)) → rows.length ≤ cap → o + rows.length * sz ≤ cs.size → (∀ (j : Nat) (d : D), rows.flatten[j]? = some d → Rep w (fun _ => False) (cs.getD (o + j) Go.undef) d) →
      Calls P f #[.slice (some ⟨b, o, none⟩) rows.length cap] w fun e w' => e = .returned (.tuple #[]) ∧ Wrote w b w' ∧ ∃ cs', w'.heap[b]? = some (.cells cs' ety (0, 0)) ∧ cs'.size = cs.size ∧
        ∀ (j : Nat) (d : D), rows'.flatten[j]? = some d → Rep w' (fun _ => False) (cs'.getD (o + j) Go.undef) d)
    (hgr : ∀ r ∈ rows, r.all D.gr = true) :
    CallOk P f [.arr ety sz rows] { res := [], muts := [.arr ety sz rows'] } := by
  refine ⟨he, by simp, ?_, ?_⟩
  · intro i o hi
    cases i with
    | zero =>
      injection hi with hi
      subst hi
      exact ⟨.inr ⟨ety, rows', rfl, by omega⟩, .inl ⟨ety, sz, rows', rfl⟩⟩
    | succ i => simp [inM] at hi
  · intro w A locs β vs h hvs
    have hm0 : (inS [In.arr ety sz rows] vs.size).m 0 = some (.arr ety sz rows) := rfl
    have hs0 := h.slot 0
    have ht0 : (inS [In.arr ety sz rows] vs.size).t 0 = .own 0 0 rows.length := rfl
    rw [ht0] at hs0
    have hs0' : AvRep0 w (Bl A β (inS [In.arr ety sz rows] vs.size).m) β (inS [In.arr ety sz rows] vs.size).m (.own 0 0 rows.length) (vs.getD 0 Go.undef) := hs0
    simp only [AvRep0, hm0] at hs0'
    have hv1 : ∀ v, vs.getD 0 Go.undef = v → vs = #[v] := by
      intro v hv
      have hz : vs.size = 1 := hvs
      apply Array.ext (by simpa using hz)
      intro i h1 h2
      have hi : i = 0 := by simp at h2; exact h2
      subst hi
      simp only [Array.getD, h1, dite_true] at hv
      simpa using hv
    have hob := h.ob 0 _ hm0
    obtain ⟨q1, q2, q3⟩ := hob
    have hp0 : locs = [β 0] := by
      obtain ⟨hpl, hpa⟩ := h.pm
      have e1 : (inS [In.arr ety sz rows] vs.size).pm = [0] := rfl
      rw [e1] at hpl hpa
      have e2 := (hpa 0 0 rfl).1
      match locs, hpl with
      | [x], _ => simp at e2; rw [e2]
    have hget : ∀ i o, outM [In.arr ety sz rows] { res := [], muts := [O.arr ety sz rows'] } i = some o → i = 0 ∧ o = .arr ety sz rows' := by
      intro i o hi
      unfold outM at hi
      split at hi
      · cases i with
        | zero => simp at hi; exact ⟨rfl, hi.symm⟩
        | succ i => simp at hi
      · simp at hi
    have hout0 : outM [In.arr ety sz rows] { res := [], muts := [O.arr ety sz rows'] } 0 = some (.arr ety sz rows') := rfl
    have fin : ∀ w', Wrote w (match β 0 with | some l => l.b | none => w.heap.size) w' →
        ObRep w' (Bl (sepA w A locs true) β (outM [In.arr ety sz rows] { res := [], muts := [O.arr ety sz rows'] })) β (outM [In.arr ety sz rows] { res := [], muts := [O.arr ety sz rows'] }) 0 (.arr ety sz rows') →
        Sim w (sepA w A locs true) locs β (outS [In.arr ety sz rows] { res := [], muts := [O.arr ety sz rows'] }) ⟨#[], []⟩ w' := by
      intro w' hw hob'
      refine { size := rfl, defers := rfl, slot := ?_, ob := ?_, inj := ?_, new := ?_, fr := ?_, lt := ?_, pm := ?_ }
      · intro i
        rfl
      · intro i o hi
        obtain ⟨rfl, rfl⟩ := hget i o hi
        exact hob'
      · intro i i' o o' l l' hi _ _ hi' _ _ _
        exact (hget i o hi).1.trans (hget i' o' hi').1.symm
      · intro i o l hi _ hl
        obtain ⟨rfl, rfl⟩ := hget i o hi
        obtain ⟨n1, n2, n3⟩ := h.new 0 _ l hm0 rfl hl
        refine ⟨Nat.lt_of_lt_of_le n1 hw.size, ?_, n3⟩
        rintro (hA | ⟨_, _, hne⟩)
        · exact n2 hA
        · exact hne l (by rw [hp0, ← hl]; simp) rfl
      · refine ⟨hw.os, hw.tape, hw.output, hw.size, fun b hb hloc => hw.blk b hb ?_, h.fr.tb⟩
        cases hβ : β 0 with
        | none => simp only; omega
        | some l => simp only; intro e; exact hloc l (by rw [hp0, hβ]; simp) e.symm
      · rintro b (hA | ⟨_, hb, _⟩)
        · exact Nat.lt_of_lt_of_le (h.lt b hA) hw.size
        · exact Nat.lt_of_lt_of_le hb hw.size
      · refine ⟨by rw [hp0]; rfl, fun i id hi => ?_⟩
        have e1 : (outS [In.arr ety sz rows] { res := [], muts := [O.arr ety sz rows'] }).pm = [0] := rfl
        rw [e1] at hi
        cases i with
        | zero => simp at hi; subst hi; exact ⟨by rw [hp0]; rfl, _, hout0⟩
        | succ i => simp at hi
    by_cases hnil : rows = []
    · have hnil' : rows' = [] := List.eq_nil_of_length_eq_zero (by rw [hlen, hnil]; rfl)
      have hv : ∃ ad cap, vs = #[.slice ad 0 cap] := by
        rcases hs0'.2 with ⟨_, hv⟩ | ⟨l, ad, _, hv, _⟩
        · exact ⟨none, 0, hv1 _ hv⟩
        · exact ⟨some ad, _, by have := hv1 _ hv; rw [hnil] at this; exact this⟩
      obtain ⟨ad, cap, rfl⟩ := hv
      refine (h0 hnil w ad cap).mono ?_
      rintro e w' ⟨rfl, hw⟩
      refine ⟨#[], β, rfl, fin w' ?_ ?_⟩
      · exact (hw _).1
      · refine ⟨hsz', q2, ?_⟩
        rcases q3 with ⟨q4, _⟩ | ⟨l, cs, q4, q5, q6, q7, q8, _⟩
        · exact .inl ⟨q4, hnil'⟩
        · refine .inr ⟨l, cs, q4, ?_, q6, by rw [hlen]; exact q7, q8, ?_⟩
          · rw [(hw 0).2 l.b (h.new 0 _ l hm0 rfl q4).1]; exact q5
          · intro j d hj; rw [hnil'] at hj; simp at hj
    · have hpos : 0 < rows.length := by
        cases rows with
        | nil => exact absurd rfl hnil
        | cons r rs => simp
      rcases q3 with ⟨_, q4⟩ | ⟨l, cs, q4, q5, q6, q7, q8, q9⟩
      · exact absurd q4 hnil
      · rcases hs0'.2 with ⟨hb, _⟩ | ⟨l', ad, hb, hv, hle, had⟩
        · rw [q4] at hb; cases hb
        · rw [q4] at hb
          injection hb with hb
          subst hb
          have had' := had (by omega)
          simp only [Nat.zero_mul, Nat.add_zero] at had'
          subst had'
          have hvs1 := hv1 _ hv
          subst hvs1
          have hrep : ∀ (j : Nat) (d : D), rows.flatten[j]? = some d → Rep w (fun _ => False) (cs.getD (l.base + j) Go.undef) d := by
            intro j d hj
            refine rep_gr0 (q9 j d hj) ?_
            obtain ⟨r, hr, hd⟩ := List.mem_flatten.1 (List.mem_of_getElem? hj)
            exact List.all_eq_true.1 (hgr r hr) d hd
          have hfit : l.base + rows.length * sz ≤ cs.size := by
            rw [q6]; exact Nat.add_le_add_left (Nat.mul_le_mul_right _ q7) _
          refine (h1 w l.b l.base _ cs q5 (by omega) hfit hrep).mono ?_
          rintro e w' ⟨rfl, hw, cs', r1, r2, r3⟩
          refine ⟨#[], β, rfl, fin w' (by rw [q4]; exact hw) ?_⟩
          refine ⟨hsz', q2, .inr ⟨l, cs', q4, r1, r2.trans q6, by rw [hlen]; exact q7, q8, ?_⟩⟩
          intro j d hj
          refine rep_gr0 (r3 j d hj) ?_
          obtain ⟨r, hr, hd⟩ := List.mem_flatten.1 (List.mem_of_getElem? hj)
          exact List.all_eq_true.1 (hg' r hr) d hd

end Go.Am

/-! The abstract machine, part 35: a contract over a function of plain data that writes nothing, from what a call does. -/
namespace Go.Am
open Go

/-- The world behind a call that wrote no old block. -/
structure Kept (w w' : World) : Prop where
  os : w'.os = w.os
  tape : w'.tape = w.tape
  output : w'.output = w.output
  size : w.heap.size ≤ w'.heap.size
  blk : ∀ k, k < w.heap.size → w'.heap[k]? = w.heap[k]?

theorem Kept.refl (w : World) : Kept w w := ⟨rfl, rfl, rfl, Nat.le_refl _, fun _ _ => rfl⟩

theorem Kept.grow (w : World) (k : Nat) (os : Array Obj) : Kept w (Sort.grow (w.drewN k) os) := by
  refine ⟨rfl, rfl, rfl, ?_, fun i hi => ?_⟩
  · show w.heap.size ≤ (w.heap ++ os).size
    rw [Array.size_append]
    omega
  · show (w.heap ++ os)[i]? = _
    rw [Array.getElem?_append_left hi]

theorem Kept.drewN (w : World) (k : Nat) : Kept w (w.drewN k) := ⟨rfl, rfl, rfl, Nat.le_refl _, fun _ _ => rfl⟩

set_option maxRecDepth 20000 in
theorem callOk_imm {P : Program} {f : FuncId} (he : Enters P f) {ds : List D} {d : D} (hl : ds.length ≤ 1000) (hd : d.gr = true)
    (hc : ∀ (w : World) (vs : Array Value), vs.size = ds.length → (∀ (i : Nat) (x : D), ds[i]? = some x → ∃ B, Rep w B (vs.getD i Go.undef) x) → Tb w [] →
      Calls P f vs w fun e w' => ∃ v, e = .returned v ∧ (v.oneCell' = true ∧ ∀ t, v ≠ .tuple t) ∧ (∃ B, Rep w' B v d) ∧ Kept w w') :
    CallOk P f (ds.map .imm) { res := [.imm d] } := by
  have hins : ∀ j, (ds.map In.imm)[j]? = (ds[j]?).map In.imm := fun j => List.getElem?_map
  have hinM : inM (ds.map In.imm) = fun _ => none := by
    funext i
    unfold inM
    rw [hins]
    cases ds[i]? <;> rfl
  have hmi : mutIdx (ds.map In.imm) = [] := by
    unfold mutIdx
    refine List.filter_eq_nil_iff.2 fun i _ => ?_
    rw [hins]
    cases ds[i]? <;> simp [In.isMut]
  refine ⟨he, by simpa using hl, ?_, ?_⟩
  · intro i o hi
    rw [hinM] at hi
    cases hi
  · intro w A locs β vs h hvs
    have hlocs : locs = [] := by
      have := h.pm.1
      have e1 : (inS (ds.map In.imm) vs.size).pm = [] := hmi
      rw [e1] at this
      exact List.eq_nil_of_length_eq_zero this.symm
    subst hlocs
    have hout : outM (ds.map In.imm) { res := [.imm d] } = fun _ => none := by
      funext i
      unfold outM
      rw [hins]
      cases ds[i]? <;> cases i - 1000 <;> simp
    refine (hc w vs (by rw [hvs, List.length_map]) (fun i x hi => ?_) h.fr.tb).mono ?_
    · have hs := h.slot i
      have ht : (inS (ds.map In.imm) vs.size).t i = .imm x := by
        show inT (ds.map In.imm) i = _
        unfold inT
        rw [hins, hi]
        rfl
      rw [ht] at hs
      exact ⟨_, hs⟩
    · rintro e w' ⟨v, rfl, ⟨hv1, hv2⟩, ⟨B, hv⟩, hk⟩
      have hs : Sim w (sepA w A [] true) [] β (outS (ds.map In.imm) { res := [R0.imm d] }) ⟨#[v], []⟩ w' := by
        refine { size := rfl, defers := rfl, slot := fun i => ?_, ob := fun id o ho => ?_, inj := fun id id' o o' l l' h1 => ?_, new := fun id o l h1 => ?_, fr := ⟨hk.os, hk.tape, hk.output, hk.size, fun b hb _ => hk.blk b hb, h.fr.tb⟩, lt := ?_, pm := ?_ }
        · show AvRep w' _ β (outM _ _) (outT { res := [.imm d] } i) ((#[v] : Array Value).getD i Go.undef)
          cases i with
          | zero => exact rep_gr0 hv hd
          | succ i => rfl
        · have : outM (ds.map In.imm) { res := [.imm d] } id = some o := ho
          rw [hout] at this
          cases this
        · have : outM (ds.map In.imm) { res := [.imm d] } id = some o := h1
          rw [hout] at this
          cases this
        · have : outM (ds.map In.imm) { res := [.imm d] } id = some o := h1
          rw [hout] at this
          cases this
        · rintro b (hA | ⟨_, hb, _⟩)
          · exact Nat.lt_of_lt_of_le (h.lt b hA) hk.size
          · exact Nat.lt_of_lt_of_le hb hk.size
        · have e1 : (outS (ds.map In.imm) { res := [.imm d] }).pm = [] := hmi
          exact ⟨by rw [e1]; rfl, fun i id hi => by rw [e1] at hi; cases hi⟩
      exact ⟨#[v], β, rfl, hs⟩

theorem args1 {vs : Array Value} {v : Value} (h : vs.size = 1) (hv : vs.getD 0 Go.undef = v) : vs = #[v] := by
  apply Array.ext (by simpa using h)
  intro i h1 h2
  have hi : i = 0 := by simp at h2; exact h2
  subst hi
  simp only [Array.getD, h1, dite_true] at hv
  simpa using hv

theorem args2 {vs : Array Value} {v u : Value} (h : vs.size = 2) (hv : vs.getD 0 Go.undef = v) (hu : vs.getD 1 Go.undef = u) : vs = #[v, u] := by
  apply Array.ext (by simpa using h)
  intro i h1 h2
  have hi : i = 0 ∨ i = 1 := by simp at h2; omega
  rcases hi with rfl | rfl
  · simp only [Array.getD, h1, dite_true] at hv
    simpa using hv
  · simp only [Array.getD, h1, dite_true] at hu
    simpa using hu
end Go.Am

/-! The abstract machine, part 36: strings.Contains and the search for one byte, as contracts. -/
namespace Go.Am
open Go Go.Proofs Go.Shelf

theorem callOk_sliteIndex {P : Program} {ρ : Ren} (L : Lays.n219 P ρ) (he : Enters P (ρ.f 219)) (s : ByteArray) (c : UInt8) :
    CallOk P (ρ.f 219) [.imm (.str s), .imm (.str ⟨#[c]⟩)] { res := [.imm (.int .i64 (Lib.indexByte s.data.toList c))] } := by
  refine callOk_imm (ds := [.str s, .str ⟨#[c]⟩]) he (by simp) rfl ?_
  intro w vs hs hv _
  obtain ⟨B, h0⟩ := hv 0 _ rfl
  obtain ⟨B', h1⟩ := hv 1 _ rfl
  have := args2 hs (rep_str h0) (rep_str h1)
  subst this
  refine (Any.stringslite_Index_one L s c w).mono ?_
  rintro e w' ⟨rfl, rfl⟩
  exact ⟨_, rfl, ⟨rfl, fun t h => by cases h⟩, ⟨fun _ => False, .int _ _⟩, .refl _⟩

theorem callOk_containsOne {P : Program} {ρ : Ren} (L : Lays.n144 P ρ) (he : Enters P (ρ.f 144)) (s : ByteArray) (c : UInt8) :
    CallOk P (ρ.f 144) [.imm (.str s), .imm (.str ⟨#[c]⟩)] { res := [.imm (.bool (decide (0 ≤ Lib.indexByte s.data.toList c)))] } := by
  refine callOk_imm (ds := [.str s, .str ⟨#[c]⟩]) he (by simp) rfl ?_
  intro w vs hs hv _
  obtain ⟨B, h0⟩ := hv 0 _ rfl
  obtain ⟨B', h1⟩ := hv 1 _ rfl
  have := args2 hs (rep_str h0) (rep_str h1)
  subst this
  refine (Any.strings_Contains_one L s c w).mono ?_
  rintro e w' ⟨rfl, rfl⟩
  exact ⟨_, rfl, ⟨rfl, fun t h => by cases h⟩, ⟨fun _ => False, .bool _⟩, .refl _⟩
end Go.Am

/-! The abstract machine, part 37: strconv.Itoa as a contract. -/
namespace Go.Am
open Go Go.Proofs Go.Shelf

theorem callOk_itoa {P : Program} {ρ : Ren} (L : LaysM.n171 P ρ) (he : Enters P (ρ.f 171)) {g : Nat} (hg : P.globalNamed "internal/strconv.uint64pow10" = some g)
    (ht : (g, (Lib.pow10Tab.map fun z => Value.int .u64 z).toArray) ∈ tabs) (n : Int) (h0 : -9223372036854775808 ≤ n) (h1 : n ≤ 9223372036854775807) :
    CallOk P (ρ.f 171) [.imm (.int .i64 n)] { res := [.imm (.str ⟨(Lib.itoa n).toArray⟩)] } := by
  refine callOk_imm (ds := [.int .i64 n]) he (by simp) rfl ?_
  intro w vs hs hv htb
  obtain ⟨B, e0⟩ := hv 0 _ rfl
  have := args1 hs (rep_int e0)
  subst this
  obtain ⟨⟨ty, fz, e1⟩, _⟩ := htb g _ ht
  have htab : Lib.TabIs P w "internal/strconv.uint64pow10" .u64 Lib.pow10Tab := by
    unfold Lib.TabIs World.var?
    rw [hg]
    show (match w.heap[g]? with | some (.cells cs _ _) => some cs | _ => none) = _
    rw [e1]
  refine (Any.strconv_Itoa L n h0 h1 w htab).mono ?_
  rintro e w' ⟨rfl, k, os, rfl⟩
  exact ⟨_, rfl, ⟨rfl, fun t h => by cases h⟩, ⟨fun _ => False, .str _⟩, .grow _ _ _⟩

theorem callOk_itoaSmall {P : Program} {ρ : Ren} (L : Lays.n171 P ρ) (he : Enters P (ρ.f 171)) (i : Nat) (hi : i < 100) :
    CallOk P (ρ.f 171) [.imm (.int .i64 i)] { res := [.imm (.str ⟨(Lib.decDigits i).toArray⟩)] } := by
  refine callOk_imm (ds := [.int .i64 i]) he (by simp) rfl ?_
  intro w vs hs hv _
  obtain ⟨B, e0⟩ := hv 0 _ rfl
  have := args1 hs (rep_int e0)
  subst this
  refine (Any.strconv_Itoa_small L i hi w).mono ?_
  rintro e w' ⟨rfl, rfl⟩
  exact ⟨_, rfl, ⟨rfl, fun t h => by cases h⟩, ⟨fun _ => False, .str _⟩, .refl _⟩
end Go.Am

/-! The abstract machine, part 32: slices.Sort of numbers as a contract. -/
namespace Go.Am
open Go Go.Sort Go.Proofs Go.Shelf

theorem flat_one : ∀ (zs : List Int), (zs.map intRow).flatten = zs.map (D.int .i64)
  | [] => rfl
  | z :: zs => by simp only [List.map_cons, List.flatten_cons, flat_one zs, intRow]; rfl

theorem onCells_cells (f : Array Value → Array Value) (c : Array Value) (e : TypeId) (fr : Nat × Nat) : onCells f (.cells c e fr) = .cells (f c) e fr := rfl

theorem putRow_heap_other (enc : Int → Value) (w : World) (b o : Nat) (d : Array Int) (k : Nat) (h : k ≠ b) : (putRow enc w b o d).heap[k]? = w.heap[k]? := by
  show (w.heap.modify b _)[k]? = _
  rw [Array.getElem?_modify, if_neg (Ne.symm h)]
theorem putRow_heap_at (enc : Int → Value) (w : World) (b o : Nat) (d : Array Int) {c : Array Value} {e : TypeId} {fr : Nat × Nat} (h : w.heap[b]? = some (.cells c e fr)) : (putRow enc w b o d).heap[b]? = some (.cells (putCells enc o d c) e fr) := by
  show (w.heap.modify b _)[b]? = _
  rw [Array.getElem?_modify, if_pos rfl, h]
  rfl
theorem putRow_size (enc : Int → Value) (w : World) (b o : Nat) (d : Array Int) : (putRow enc w b o d).heap.size = w.heap.size := by
  show (w.heap.modify b _).size = _
  rw [Array.size_modify]

theorem callOk_sortInt {P : Program} {ρ : Ren} (L : Lays.n189 P ρ) (he : Enters P (ρ.f 189)) (ety : Nat) (zs : List Int) (hz : zs.length < 4611686018427387904) :
    CallOk P (ρ.f 189) [.arr ety 1 (zs.map intRow)] { res := [], muts := [.arr ety 1 ((zs.mergeSort fun x y => decide (x ≤ y)).map intRow)] } := by
  have hg : ∀ ys : List Int, ∀ r ∈ ys.map intRow, r.all D.gr = true := by
    intro ys r hr
    obtain ⟨x, _, rfl⟩ := List.mem_map.1 hr
    rfl
  refine callOk_put he (by simp) (fun r hr => by obtain ⟨x, _, rfl⟩ := List.mem_map.1 hr; rfl) (hg _) ?_ ?_ (hg zs)
  · intro _ w ad cap
    refine (Any.slices_Sort_int_none L ad cap w).mono ?_
    rintro e w' ⟨rfl, rfl⟩
    exact ⟨rfl, fun b => ⟨⟨rfl, rfl, rfl, Nat.le_refl _, fun _ _ _ => rfl⟩, fun _ _ => rfl⟩⟩
  · intro w b o cap cs hb hcap hfit hrep
    rw [flat_one] at hrep
    simp only [List.length_map] at hfit hcap
    have hbs : b < w.heap.size := (Array.getElem?_eq_some_iff.1 hb).1
    have hH : Holds (Value.int .i64) w b o zs.toArray := by
      intro j hj
      have hj' : j < zs.length := by simpa using hj
      have hr := hrep j (.int .i64 zs[j]) (by simp [hj'])
      have hv := rep_int hr
      refine ⟨?_, ?_⟩
      · rw [cell_at hb, getD_of (by omega), hv]
        simp [hj']
      · simp only [World.frozen?, hb]
        simp
    have hc := Any.slices_Sort_int L b o cap zs w hH hbs hz
    simp only [List.length_map]
    refine hc.mono ?_
    rintro e w' ⟨rfl, n, os, rfl⟩
    have hb' : (Sort.ahead w n).heap[b]? = some (.cells cs ety (0, 0)) := hb
    have hsz : (putRow (Value.int .i64) (Sort.ahead w n) b o (zs.mergeSort fun x y => decide (x ≤ y)).toArray).heap.size = w.heap.size := putRow_size _ _ _ _ _
    refine ⟨rfl, ⟨rfl, rfl, rfl, ?_, ?_⟩, putCells (Value.int .i64) o (zs.mergeSort fun x y => decide (x ≤ y)).toArray cs, ?_, ?_, ?_⟩
    · show w.heap.size ≤ (_ ++ os).size
      rw [Array.size_append]
      have := hsz
      omega
    · intro k hk hne
      rw [heap_grow_old _ _ (by rw [hsz]; exact hk), putRow_heap_other _ _ _ _ _ _ hne]
      rfl
    · rw [heap_grow_old _ _ (by rw [hsz]; exact hbs), putRow_heap_at _ _ _ _ _ hb']
    · simp [putCells]
    · intro j d hj
      rw [flat_one] at hj
      have hjl : j < (zs.mergeSort fun x y => decide (x ≤ y)).length := by
        have := (List.getElem?_eq_some_iff.1 hj).1
        simpa using this
      have hjz : j < zs.length := by rwa [List.length_mergeSort] at hjl
      have hd : d = .int .i64 (zs.mergeSort fun x y => decide (x ≤ y))[j] := by
        have := (List.getElem?_eq_some_iff.1 hj).2
        rw [← this]; simp
      have hcell : (putCells (Value.int .i64) o (zs.mergeSort fun x y => decide (x ≤ y)).toArray cs).getD (o + j) Go.undef = .int .i64 (zs.mergeSort fun x y => decide (x ≤ y))[j] := by
        have hlt : o + j < cs.size := by omega
        unfold putCells
        simp only [Array.getD_eq_getD_getElem?, Array.getElem?_mapIdx]
        rw [Array.getElem?_eq_getElem hlt]
        simp only [Option.map_some, Option.getD_some, List.size_toArray]
        rw [if_pos ⟨by omega, by omega⟩]
        simp
        rw [List.getElem?_eq_getElem hjl]
        rfl
      rw [hcell, hd]
      exact .int _ _

end Go.Am


