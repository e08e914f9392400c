/- The abstract machine: slices.SortFunc with a function that compares, at structs of any number. -/
import Derived.Test.YtekilollacmajaaGreatDoorAmS
import Derived.Shelf.SlSortCmp.WholeK
namespace Go.Am
open Go Go.Sort Go.Proofs Go.Shelf

theorem Weak.swo {α : Type} {lt : α → α → Bool} (h : Weak lt) : SWO lt where
  irrefl x := by
    cases e : lt x x with
    | false => rfl
    | true => exact absurd e (by rw [h.asym x x e]; simp)
  trans x y z h1 h2 := by
    cases e : lt x z with
    | true => rfl
    | false =>
      have h3 := h.asym y z h2
      rw [h.neg x z y e h3] at h1
      cases h1
  ntrans := h.neg

/-- What slices.SortFunc leaves. -/
def pdqL {α : Type} [Inhabited α] (lt : α → α → Bool) (xs : List α) : List α := (pdq lt xs.toArray 0 xs.length (Lib.bitLen xs.length) true true).toList

theorem pdqL_sorts {α : Type} [Inhabited α] {lt : α → α → Bool} (hw : Weak lt) (xs : List α) : (pdqL lt xs).Perm xs ∧ Srt lt (pdqL lt xs) := by
  have h := pdq_sorts lt hw.swo xs.toArray 0 xs.length (Lib.bitLen xs.length) true true (Nat.zero_le _) (by simp) (Or.inl rfl)
  obtain ⟨⟨h1, h2, h3⟩, h4⟩ := h
  have hsz : (pdq lt xs.toArray 0 xs.length (Lib.bitLen xs.length) true true).size = xs.length := by rw [h1]; simp
  refine ⟨?_, ?_⟩
  · have e0 : ∀ (a : Array α) (n : Nat), a.size = n → a.extract 0 n = a := by
      intro a n h
      subst h
      simp
    have e1 := e0 _ _ hsz
    have e2 : xs.toArray.extract 0 xs.length = xs.toArray := by simp
    rw [e1, e2] at h3
    exact h3
  · refine List.pairwise_iff_getElem.2 fun i j hi hj hij => ?_
    unfold pdqL at hi hj ⊢
    simp only [Array.length_toList] at hi hj
    have := h4 i j (Nat.zero_le _) hij (by omega)
    rw [getElem!_pos _ j hj, getElem!_pos _ i hi] at this
    simpa using this
theorem pdqL_len {α : Type} [Inhabited α] {lt : α → α → Bool} (hw : Weak lt) (xs : List α) : (pdqL lt xs).length = xs.length := (pdqL_sorts hw xs).1.length_eq

theorem args2 {vs : Array Value} {a b : Value} (hs : vs.size = 2) (h0 : vs.getD 0 Go.undef = a) (h1 : vs.getD 1 Go.undef = b) : vs = #[a, b] := by
  subst h0 h1
  apply Array.ext (by simpa using hs)
  intro i hi1 hi2
  simp only [List.size_toArray, List.length_cons, List.length_nil] at hi2
  match i, hi2 with
  | 0, _ => simp [Array.getD, hi1]
  | 1, _ => simp [Array.getD, hi1]

theorem callOk_sortFn {P : Program} {ρ : Ren} {α : Type} [Inhabited α] (L : SlLaysF0.n6 P ρ) (he : Am.Enters P (ρ.f 6)) {k : Nat} (aE : ∀ w, (isAgg (ρ.t 24)).run P w = .ok true w) (zE : ∀ w, (Go.sizeOf (ρ.t 24)).run P w = .ok k w)
    {enc : α → List D} (hk : ∀ x, (enc x).length = k) (hp : ∀ x, ∀ d ∈ enc x, d.pl = true) {cf : α → α → Int} {g : FuncId} (hw : Weak (ltOf cf))
    {caps : List D} (hcf : ∀ x y, CallOk P g (.imm (.agg (enc x)) :: .imm (.agg (enc y)) :: caps.map .imm) { res := [.imm (.int .i64 (cf x y))] }) (ety : TypeId) (xs : List α) (hx : 0 < xs.length) (hm : xs.length < 4611686018427387904) :
    CallOk P (ρ.f 6) [.arr ety k (xs.map enc), .imm (.fn g caps)] { res := [], muts := [.arr ety k ((pdqL (ltOf cf) xs).map enc)] } := by
  have hd'l := pdqL_len hw xs
  have hg : ∀ ys : List α, ∀ r ∈ ys.map enc, r.all D.gr = true := by
    intro ys r hr
    obtain ⟨x, _, rfl⟩ := List.mem_map.1 hr
    exact List.all_eq_true.2 fun d hd => pl_gr (hp x d hd)
  refine callOk_lent (es := [.fn g caps]) he (by simp) (by simp [hd'l]) (fun r hr => by obtain ⟨x, _, rfl⟩ := List.mem_map.1 hr; exact hk x) (hg _) (hg _) (by simpa using hx) ?_
  intro w b o cap cs vs hb hcap hfit hrep hvs hv0 hex htb
  simp only [List.length_map] at hfit hcap hv0
  obtain ⟨B, hBb, r3⟩ := hex 0 _ rfl
  obtain ⟨cb, hcs, v3, hcb⟩ : ∃ cb : Array Value, cb.size = caps.length ∧ vs.getD 1 Go.undef = .func (.func g) #[] cb ∧ ∀ (i : Nat) (x : D), caps[i]? = some x → Rep w B (cb.getD i Go.undef) x := by
    have r3' : Rep w B (vs.getD 1 Go.undef) (.fn g caps) := r3
    generalize vs.getD 1 Go.undef = v at r3'
    cases r3' with
    | fn f cvs ds hs hj => exact ⟨cvs, hs, rfl, hj⟩
  have hvs' := args2 (by simpa using hvs) hv0 v3
  subst hvs'
  have hbs : b < w.heap.size := (Array.getElem?_eq_some_iff.1 hb).1
  have hH := holdsK_of hk hp hb hfit hrep
  have hc := AnyQ.slices_SortFunc_eq L k aE zE (fun x => (enc x).map dval) (fun x => by rw [List.length_map]; exact hk x) (fun x v hv => by obtain ⟨d, hd, rfl⟩ := List.mem_map.1 hv; exact pl_one (hp x d hd)) cf hw.swo g cb b o cap xs.toArray w
    (enters_am (hcf default default).1) (cmpLays_of hp hcf b o _ w htb hcs hBb hcb) hH hbs (by simpa using hm)
  have e0 : xs.toArray.size = xs.length := by simp
  rw [e0] at hc
  refine hc.mono ?_
  rintro e w' ⟨rfl, n, os, rfl⟩
  obtain ⟨hw', hcell⟩ := wrote_sortK (fun x => (enc x).map dval) k (o := o) (n := n) (pdq (ltOf cf) xs.toArray 0 xs.length (Lib.bitLen xs.length) true true) os hb
  refine ⟨rfl, hw', _, hcell, by simp [putCells], ?_⟩
  intro j d hj
  refine cells_of_put hk hp ?_ j d hj
  have : (pdq (ltOf cf) xs.toArray 0 xs.length (Lib.bitLen xs.length) true true).size = xs.length := by simpa [pdqL] using hd'l
  rw [this]
  exact hfit
end Go.Am

/-! The abstract machine, part 55: where equals are one, every sort leaves the same. -/
namespace Go.Am
open Go Go.Sort

theorem insL_perm {α : Type} (lt : α → α → Bool) (s : List α) (x : α) : (insL lt s x).Perm (x :: s) := by
  unfold insL
  have h := List.filter_append_perm (fun y => lt x y) s
  exact List.perm_middle.trans (List.Perm.cons x (List.perm_append_comm.trans h))
theorem foldl_perm {α : Type} (lt : α → α → Bool) : ∀ (xs s : List α), (xs.foldl (insL lt) s).Perm (xs ++ s)
  | [], s => List.Perm.refl s
  | x :: xs, s => by
    refine (foldl_perm lt xs (insL lt s x)).trans ?_
    refine (List.Perm.append_left xs (insL_perm lt s x)).trans ?_
    exact List.perm_middle
theorem sortL_perm {α : Type} (lt : α → α → Bool) (xs : List α) : (sortL lt xs).Perm xs := by
  have := foldl_perm lt xs []
  simpa [sortL] using this

theorem srt_same {α : Type} {lt : α → α → Bool} (anti : ∀ x y, lt x y = false → lt y x = false → x = y) : ∀ {a b : List α}, Srt lt a → Srt lt b → a.Perm b → a = b
  | [], _, _, _, h => List.Perm.nil_eq h
  | x :: a, [], _, _, h => absurd h.symm (by simp)
  | x :: a, y :: b, ha, hb, h => by
    have hx : x ∈ y :: b := h.mem_iff.1 (by simp)
    have hy : y ∈ x :: a := h.mem_iff.2 (by simp)
    have e : x = y := by
      rcases List.mem_cons.1 hx with e | hx
      · exact e
      · rcases List.mem_cons.1 hy with e | hy
        · exact e.symm
        · exact anti x y ((List.pairwise_cons.1 hb).1 x hx) ((List.pairwise_cons.1 ha).1 y hy)
    subst e
    rw [srt_same anti (List.pairwise_cons.1 ha).2 (List.pairwise_cons.1 hb).2 (List.Perm.cons_inv h)]

theorem pdqL_eq {α : Type} [Inhabited α] {lt : α → α → Bool} (hw : Weak lt) (anti : ∀ x y, lt x y = false → lt y x = false → x = y) (xs : List α) : pdqL lt xs = sortL lt xs :=
  srt_same anti (pdqL_sorts hw xs).2 (sortL_srt hw xs) ((pdqL_sorts hw xs).1.trans (sortL_perm lt xs).symm)

/-- Two orders that agree wherever an element is put behind others: the same list. -/
theorem foldl_congr {α : Type} {lt lt' : α → α → Bool} : ∀ (xs s : List α), (∀ x ∈ xs, ∀ y ∈ s, lt x y = lt' x y) → xs.Pairwise (fun y x => lt x y = lt' x y) → xs.foldl (insL lt) s = xs.foldl (insL lt') s
  | [], _, _, _ => rfl
  | x :: xs, s, h, hp => by
    obtain ⟨h1, h2⟩ := List.pairwise_cons.1 hp
    have e : insL lt s x = insL lt' s x := by
      unfold insL
      congr 1
      · exact List.filter_congr fun y hy => by rw [h x (by simp) y hy]
      · congr 1
        exact List.filter_congr fun y hy => by rw [h x (by simp) y hy]
    rw [List.foldl_cons, List.foldl_cons, e]
    refine foldl_congr xs _ (fun z hz y hy => ?_) h2
    rcases mem_insL hy with rfl | hy
    · exact h1 z hz
    · exact h z (by simp [hz]) y hy
theorem sortL_congr {α : Type} {lt lt' : α → α → Bool} {xs : List α} (hp : xs.Pairwise fun y x => lt x y = lt' x y) : sortL lt xs = sortL lt' xs :=
  foldl_congr xs [] (fun _ _ _ hy => by cases hy) hp
end Go.Am

/-! The abstract machine, part 56: sorts of nothing; elements of a variable that is an array. -/
namespace Go.Am
open Go Go.Sort Go.Proofs Go.Shelf

theorem callOk_lent0 {P : Program} {f : FuncId} (he : Am.Enters P f) {ety sz : Nat} {es : List D} (hel : es.length ≤ 900)
    (h0 : ∀ (w : World) (ad : Option Addr) (cap : Nat) (vs : Array Value), vs.size = es.length + 1 → vs.getD 0 Go.undef = .slice ad 0 cap → Calls P f vs w fun e w' => e = .returned (.tuple #[]) ∧ Wrote1 w w.heap.size w') :
    CallOk P f (.arr ety sz [] :: es.map .imm) { res := [], muts := [.arr ety sz []] } := by
  have hinM : ∀ i o, inM (In.arr ety sz [] :: es.map In.imm) i = some o → i = 0 ∧ o = .arr ety sz [] := by
    intro i o hi
    cases i with
    | zero => injection hi with hi; exact ⟨rfl, hi.symm⟩
    | succ i =>
      unfold inM at hi
      rw [lent_ins] at hi
      cases h : es[i]? <;> rw [h] at hi <;> cases hi
  refine ⟨he, by simp; omega, ?_, ?_⟩
  · intro i o hi
    obtain ⟨rfl, rfl⟩ := hinM i o hi
    exact ⟨.inr ⟨ety, [], rfl, by simp⟩, .inl ⟨ety, sz, [], rfl⟩⟩
  · intro w A locs β vs h hvs
    have hm0 : (inS (In.arr ety sz [] :: es.map In.imm) vs.size).m 0 = some (.arr ety sz []) := rfl
    have hs0 := h.slot 0
    have ht0 : (inS (In.arr ety sz [] :: es.map In.imm) vs.size).t 0 = .own 0 0 0 := rfl
    rw [ht0] at hs0
    have hs0' : AvRep0 w (Bl A β (inS (In.arr ety sz [] :: es.map In.imm) vs.size).m) β (inS (In.arr ety sz [] :: es.map In.imm) vs.size).m (.own 0 0 0) (vs.getD 0 Go.undef) := hs0
    simp only [AvRep0, hm0] at hs0'
    have hob := h.ob 0 _ hm0
    obtain ⟨q1, q2, q3⟩ := hob
    have hpme : (inS (In.arr ety sz [] :: es.map In.imm) vs.size).pm = [0] := lent_mutIdx
    have hp0 : locs = [β 0] := by
      obtain ⟨hpl, hpa⟩ := h.pm
      rw [hpme] at hpl hpa
      have e2 := (hpa 0 0 rfl).1
      match locs, hpl with
      | [x], _ => simp at e2; rw [e2]
    have hget : ∀ i o, outM (In.arr ety sz [] :: es.map In.imm) { res := [], muts := [O.arr ety sz []] } i = some o → i = 0 ∧ o = .arr ety sz [] := by
      intro i o hi
      unfold outM at hi
      split at hi
      · cases i with
        | zero => simp at hi; exact ⟨rfl, hi.symm⟩
        | succ i =>
          rw [lent_ins] at hi
          cases h : es[i]? <;> rw [h] at hi <;> cases hi
      · simp at hi
    have hout0 : outM (In.arr ety sz [] :: es.map In.imm) { res := [], muts := [O.arr ety sz []] } 0 = some (.arr ety sz []) := rfl
    have fin : ∀ w', Wrote1 w (match β 0 with | some l => l.b | none => w.heap.size) w' →
        ObRep w' (Bl (sepA w A locs true) β (outM (In.arr ety sz [] :: es.map In.imm) { res := [], muts := [O.arr ety sz []] })) β (outM (In.arr ety sz [] :: es.map In.imm) { res := [], muts := [O.arr ety sz []] }) 0 (.arr ety sz []) →
        Sim w (sepA w A locs true) locs β (outS (In.arr ety sz [] :: es.map In.imm) { res := [], muts := [O.arr ety sz []] }) ⟨#[], []⟩ w' := by
      intro w' hw hob'
      refine { size := rfl, defers := rfl, slot := ?_, ob := ?_, inj := ?_, new := ?_, fr := ?_, lt := ?_, pm := ?_ }
      · intro i
        rfl
      · intro i o hi
        obtain ⟨rfl, rfl⟩ := hget i o hi
        exact hob'
      · intro i i' o o' l l' b hi _ _ hi' _ _ _ _
        exact (hget i o hi).1.trans (hget i' o' hi').1.symm
      · intro i o l hi _ hl
        obtain ⟨rfl, rfl⟩ := hget i o hi
        intro b hb
        obtain ⟨n1, n2, n3⟩ := h.new 0 _ l hm0 rfl hl b hb
        refine ⟨Nat.lt_of_lt_of_le n1 hw.size, ?_, n3⟩
        rintro (hA | ⟨_, _, hne⟩)
        · exact n2 hA
        · exact hne l (by rw [hp0, ← hl]; simp) hb
      · refine ⟨hw.os, hw.tape, hw.output, hw.size, fun b hb hloc => hw.blk b hb ?_, h.fr.tb, hw.drawn⟩
        cases hβ : β 0 with
        | none => simp only; omega
        | some l => simp only; intro e; exact hloc l (by rw [hp0, hβ]; simp) (by rw [e]; exact l.self)
      · rintro b (hA | ⟨_, hb, _⟩)
        · exact Nat.lt_of_lt_of_le (h.lt b hA) hw.size
        · exact Nat.lt_of_lt_of_le hb hw.size
      · have e1 : (outS (In.arr ety sz [] :: es.map In.imm) { res := [], muts := [O.arr ety sz []] }).pm = [0] := lent_mutIdx
        refine ⟨by rw [hp0, e1]; rfl, fun i id hi => ?_⟩
        rw [e1] at hi
        cases i with
        | zero => simp at hi; subst hi; exact ⟨by rw [hp0]; rfl, _, hout0⟩
        | succ i => simp at hi
    have hv : ∃ ad cap, vs.getD 0 Go.undef = .slice ad 0 cap := by
      rcases hs0'.2 with ⟨_, hv⟩ | ⟨l, ad, _, hv, _⟩
      · exact ⟨none, 0, hv⟩
      · exact ⟨some ad, _, hv⟩
    obtain ⟨ad, cap, hv⟩ := hv
    refine (h0 w ad cap vs (by simpa using hvs) hv).mono ?_
    rintro e w' ⟨rfl, hw⟩
    have hblk : ∀ k, k < w.heap.size → w'.heap[k]? = w.heap[k]? := fun k hk => hw.blk k hk (by omega)
    refine ⟨#[], β, rfl, fin w' ⟨hw.os, hw.tape, hw.output, hw.size, fun k hk _ => hblk k hk, hw.drawn⟩ ?_⟩
    refine ⟨(fun r hr => by simp at hr), q2, ?_⟩
    rcases q3 with ⟨q4, _⟩ | ⟨l, cs, q4, q5, q6, q7, q8, _⟩
    · exact .inl ⟨q4, rfl⟩
    · refine .inr ⟨l, cs, q4, ?_, q6, q7, q8, ?_⟩
      · rw [hblk l.b (h.new 0 _ l hm0 rfl q4 l.b l.self).1]; exact q5
      · intro j d hj; simp at hj

theorem go_idxBox {T : TypeId → Option TI} {m : Nat → Option O} {tt : TypeId} {K : Eff → Prop} {kd : IntKind} {i : Nat} {id off len : Nat} {e ty : TypeId} {cells : List AV} {a1 b1 : Nat} {z1 : List D} {te : TI} {x y : AV} (hx : x = .box id off) (hy : y = .imm (.int kd (i : Nat)))
    (hT : T tt = some ⟨.array len e, a1, b1, z1⟩) (hE : T e = some te) (hm : m id = some (.box ty cells)) (hi : i < len) (h : K ⟨.box id (off + i * te.size), []⟩) : opIndexAddr T m tt x y K := by
  subst hx hy
  unfold opIndexAddr
  simp only [hT, hE, hm]
  exact ⟨by omega, by omega, by simpa using h⟩
end Go.Am

