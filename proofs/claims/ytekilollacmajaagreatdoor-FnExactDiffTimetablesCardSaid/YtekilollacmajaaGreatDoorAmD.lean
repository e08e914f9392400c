/- The abstract machine: library contracts. -/
import Derived.Test.YtekilollacmajaaGreatDoorAmB
import Derived.Sort.Grow
import Derived.Deep.Draws
import Derived.Shelf.Strings.Search3
import Derived.Shelf.Strconv.Itoa3
import Derived.Test.YtekilollacmajaaGreatDoorAmC

namespace Go.Am
open Go

theorem rep_gr0 {w : World} {B : Nat → Prop} {d : D} {v : Value} (h : Rep w B v d) (hg : d.gr = true) {w' : World} {B' : Nat → Prop} : Rep w' B' v d := by
  cases h with
  | int k n => exact .int k n
  | bool b => exact .bool b
  | str s => exact .str s
  | other v => exact .other v
  | nil a c => exact .nil a c
  | list ad n c rows sz g hn hc hr hb hB hs hcell hrep =>
    cases rows with
    | nil => simp only [List.length_nil] at hn; subst hn; exact .nil _ _
    | cons r rs => simp [D.gr] at hg
  | agg vs ds hs hr => simp [D.gr] at hg
  | fn f vs ds hs hr => simp [D.gr] at hg
  | ptr ad ds g hb hB hs hc hr => simp [D.gr] at hg


end Go.Am
namespace Go.Am
open Go

/-- The world behind a call that wrote no old block. -/
structure Kept (w w' : World) : Prop where
  os : w'.os = w.os
  tape : w'.tape = w.tape
  output : w'.output = w.output
  size : w.heap.size ≤ w'.heap.size
  blk : ∀ k, k < w.heap.size → w'.heap[k]? = w.heap[k]?
  drawn : w.drawn ≤ w'.drawn

theorem Kept.refl (w : World) : Kept w w := ⟨rfl, rfl, rfl, Nat.le_refl _, fun _ _ => rfl, Nat.le_refl _⟩

theorem Kept.grow (w : World) (k : Nat) (os : Array Obj) : Kept w (Sort.grow (w.drewN k) os) := by
  refine ⟨rfl, rfl, rfl, ?_, fun i hi => ?_, Nat.le_add_right w.drawn k⟩
  · show w.heap.size ≤ (w.heap ++ os).size
    rw [Array.size_append]
    omega
  · show (w.heap ++ os)[i]? = _
    rw [Array.getElem?_append_left hi]

theorem Kept.drewN (w : World) (k : Nat) : Kept w (w.drewN k) := ⟨rfl, rfl, rfl, Nat.le_refl _, fun _ _ => rfl, Nat.le_add_right w.drawn k⟩

set_option maxRecDepth 20000 in
theorem callOk_imm {P : Program} {f : FuncId} (he : Enters P f) {ds : List D} {d : D} (hl : ds.length ≤ 1000) (hd : d.gr = true)
    (hc : ∀ (w : World) (vs : Array Value), vs.size = ds.length → (∀ (i : Nat) (x : D), ds[i]? = some x → ∃ B, Rep w B (vs.getD i Go.undef) x) → Tb w [] →
      Calls P f vs w fun e w' => ∃ v, e = .returned v ∧ (v.oneCell' = true ∧ ∀ t, v ≠ .tuple t) ∧ (∃ B, Rep w' B v d) ∧ Kept w w') :
    CallOk P f (ds.map .imm) { res := [.imm d] } := by
  have hins : ∀ j, (ds.map In.imm)[j]? = (ds[j]?).map In.imm := fun j => List.getElem?_map
  have hinM : inM (ds.map In.imm) = fun _ => none := by
    funext i
    unfold inM
    rw [hins]
    cases ds[i]? <;> rfl
  have hmi : mutIdx (ds.map In.imm) = [] := by
    unfold mutIdx
    refine List.filter_eq_nil_iff.2 fun i _ => ?_
    rw [hins]
    cases ds[i]? <;> simp [In.isMut]
  refine ⟨he, by simpa using hl, ?_, ?_⟩
  · intro i o hi
    rw [hinM] at hi
    cases hi
  · intro w A locs β vs h hvs
    have hlocs : locs = [] := by
      have := h.pm.1
      have e1 : (inS (ds.map In.imm) vs.size).pm = [] := hmi
      rw [e1] at this
      exact List.eq_nil_of_length_eq_zero this.symm
    subst hlocs
    have hout : outM (ds.map In.imm) { res := [.imm d] } = fun _ => none := by
      funext i
      unfold outM
      rw [hins]
      cases ds[i]? <;> cases i - 1000 <;> simp
    refine (hc w vs (by rw [hvs, List.length_map]) (fun i x hi => ?_) h.fr.tb).mono ?_
    · have hs := h.slot i
      have ht : (inS (ds.map In.imm) vs.size).t i = .imm x := by
        show inT (ds.map In.imm) i = _
        unfold inT
        rw [hins, hi]
        rfl
      rw [ht] at hs
      exact ⟨_, hs⟩
    · rintro e w' ⟨v, rfl, ⟨hv1, hv2⟩, ⟨B, hv⟩, hk⟩
      have hs : Sim w (sepA w A [] true) [] β (outS (ds.map In.imm) { res := [R0.imm d] }) ⟨#[v], []⟩ w' := by
        refine { size := rfl, defers := rfl, slot := fun i => ?_, ob := fun id o ho => ?_, inj := fun id id' o o' l l' b h1 => ?_, new := fun id o l h1 => ?_, fr := ⟨hk.os, hk.tape, hk.output, hk.size, fun b hb _ => hk.blk b hb, h.fr.tb, hk.drawn⟩, lt := ?_, pm := ?_ }
        · show AvRep w' _ β (outM _ _) (outT { res := [.imm d] } i) ((#[v] : Array Value).getD i Go.undef)
          cases i with
          | zero => exact rep_gr0 hv hd
          | succ i => rfl
        · have : outM (ds.map In.imm) { res := [.imm d] } id = some o := ho
          rw [hout] at this
          cases this
        · have : outM (ds.map In.imm) { res := [.imm d] } id = some o := h1
          rw [hout] at this
          cases this
        · have : outM (ds.map In.imm) { res := [.imm d] } id = some o := h1
          rw [hout] at this
          cases this
        · rintro b (hA | ⟨_, hb, _⟩)
          · exact Nat.lt_of_lt_of_le (h.lt b hA) hk.size
          · exact Nat.lt_of_lt_of_le hb hk.size
        · have e1 : (outS (ds.map In.imm) { res := [.imm d] }).pm = [] := hmi
          exact ⟨by rw [e1]; rfl, fun i id hi => by rw [e1] at hi; cases hi⟩
      exact ⟨#[v], β, rfl, hs⟩

theorem argsD1 {vs : Array Value} {v : Value} (h : vs.size = 1) (hv : vs.getD 0 Go.undef = v) : vs = #[v] := by
  apply Array.ext (by simpa using h)
  intro i h1 h2
  have hi : i = 0 := by simp at h2; exact h2
  subst hi
  simp only [Array.getD, h1, dite_true] at hv
  simpa using hv

theorem argsD2 {vs : Array Value} {v u : Value} (h : vs.size = 2) (hv : vs.getD 0 Go.undef = v) (hu : vs.getD 1 Go.undef = u) : vs = #[v, u] := by
  apply Array.ext (by simpa using h)
  intro i h1 h2
  have hi : i = 0 ∨ i = 1 := by simp at h2; omega
  rcases hi with rfl | rfl
  · simp only [Array.getD, h1, dite_true] at hv
    simpa using hv
  · simp only [Array.getD, h1, dite_true] at hu
    simpa using hu
end Go.Am

/-! The abstract machine, part 36: strings.Contains and the search for one byte, as contracts. -/
namespace Go.Am
open Go Go.Proofs Go.Shelf

theorem callOk_sliteIndex {P : Program} {ρ : Ren} (L : Lays.n219 P ρ) (he : Enters P (ρ.f 219)) (s : ByteArray) (c : UInt8) :
    CallOk P (ρ.f 219) [.imm (.str s), .imm (.str ⟨#[c]⟩)] { res := [.imm (.int .i64 (Lib.indexByte s.data.toList c))] } := by
  refine callOk_imm (ds := [.str s, .str ⟨#[c]⟩]) he (by simp) rfl ?_
  intro w vs hs hv _
  obtain ⟨B, h0⟩ := hv 0 _ rfl
  obtain ⟨B', h1⟩ := hv 1 _ rfl
  have := argsD2 hs (rep_str h0) (rep_str h1)
  subst this
  refine (Any.stringslite_Index_one L s c w).mono ?_
  rintro e w' ⟨rfl, rfl⟩
  exact ⟨_, rfl, ⟨rfl, fun t h => by cases h⟩, ⟨fun _ => False, .int _ _⟩, .refl _⟩

theorem callOk_containsOne {P : Program} {ρ : Ren} (L : Lays.n144 P ρ) (he : Enters P (ρ.f 144)) (s : ByteArray) (c : UInt8) :
    CallOk P (ρ.f 144) [.imm (.str s), .imm (.str ⟨#[c]⟩)] { res := [.imm (.bool (decide (0 ≤ Lib.indexByte s.data.toList c)))] } := by
  refine callOk_imm (ds := [.str s, .str ⟨#[c]⟩]) he (by simp) rfl ?_
  intro w vs hs hv _
  obtain ⟨B, h0⟩ := hv 0 _ rfl
  obtain ⟨B', h1⟩ := hv 1 _ rfl
  have := argsD2 hs (rep_str h0) (rep_str h1)
  subst this
  refine (Any.strings_Contains_one L s c w).mono ?_
  rintro e w' ⟨rfl, rfl⟩
  exact ⟨_, rfl, ⟨rfl, fun t h => by cases h⟩, ⟨fun _ => False, .bool _⟩, .refl _⟩
end Go.Am

/-! The abstract machine, part 37: strconv.Itoa as a contract. -/
namespace Go.Am
open Go Go.Proofs Go.Shelf

theorem callOk_itoa {P : Program} {ρ : Ren} (L : LaysM.n171 P ρ) (he : Enters P (ρ.f 171)) {g : Nat} (hg : P.globalNamed "internal/strconv.uint64pow10" = some g)
    (ht : (g, (Lib.pow10Tab.map fun z => Value.int .u64 z).toArray) ∈ tabs) (n : Int) (h0 : -9223372036854775808 ≤ n) (h1 : n ≤ 9223372036854775807) :
    CallOk P (ρ.f 171) [.imm (.int .i64 n)] { res := [.imm (.str ⟨(Lib.itoa n).toArray⟩)] } := by
  refine callOk_imm (ds := [.int .i64 n]) he (by simp) rfl ?_
  intro w vs hs hv htb
  obtain ⟨B, e0⟩ := hv 0 _ rfl
  have := argsD1 hs (rep_int e0)
  subst this
  obtain ⟨⟨ty, fz, e1⟩, _⟩ := htb g _ ht
  have htab : Lib.TabIs P w "internal/strconv.uint64pow10" .u64 Lib.pow10Tab := by
    unfold Lib.TabIs World.var?
    rw [hg]
    show (match w.heap[g]? with | some (.cells cs _ _) => some cs | _ => none) = _
    rw [e1]
  refine (Any.strconv_Itoa L n h0 h1 w htab).mono ?_
  rintro e w' ⟨rfl, k, os, rfl⟩
  exact ⟨_, rfl, ⟨rfl, fun t h => by cases h⟩, ⟨fun _ => False, .str _⟩, .grow _ _ _⟩

theorem callOk_itoaSmall {P : Program} {ρ : Ren} (L : Lays.n171 P ρ) (he : Enters P (ρ.f 171)) (i : Nat) (hi : i < 100) :
    CallOk P (ρ.f 171) [.imm (.int .i64 i)] { res := [.imm (.str ⟨(Lib.decDigits i).toArray⟩)] } := by
  refine callOk_imm (ds := [.int .i64 i]) he (by simp) rfl ?_
  intro w vs hs hv _
  obtain ⟨B, e0⟩ := hv 0 _ rfl
  have := argsD1 hs (rep_int e0)
  subst this
  refine (Any.strconv_Itoa_small L i hi w).mono ?_
  rintro e w' ⟨rfl, rfl⟩
  exact ⟨_, rfl, ⟨rfl, fun t h => by cases h⟩, ⟨fun _ => False, .str _⟩, .refl _⟩
end Go.Am

