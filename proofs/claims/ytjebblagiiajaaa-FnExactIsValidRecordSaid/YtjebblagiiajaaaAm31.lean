/- The abstract machine, part 31: a contract over an array that is lent and written in place, from what a call does to one block. -/
import Derived.Test.YtjebblagiiajaaaAm27
namespace Go.Am
open Go

/-- The world behind a call that wrote one block alone, and may have made new ones. -/
structure Wrote (w : World) (b : Nat) (w' : World) : Prop where
  os : w'.os = w.os
  tape : w'.tape = w.tape
  output : w'.output = w.output
  size : w.heap.size ≤ w'.heap.size
  blk : ∀ k, k < w.heap.size → k ≠ b → w'.heap[k]? = w.heap[k]?

theorem rep_gr0 {w : World} {B : Nat → Prop} {d : D} {v : Value} (h : Rep w B v d) (hg : d.gr = true) {w' : World} {B' : Nat → Prop} : Rep w' B' v d := by
  cases h with
  | int k n => exact .int k n
  | bool b => exact .bool b
  | str s => exact .str s
  | other v => exact .other v
  | nil a c => exact .nil a c
  | list ad n c rows sz g hn hc hr hb hB hs hcell hrep =>
    cases rows with
    | nil => simp only [List.length_nil] at hn; subst hn; exact .nil _ _
    | cons r rs => simp [D.gr] at hg
  | agg vs ds hs hr => simp [D.gr] at hg
  | fn f vs ds hs hr => simp [D.gr] at hg
  | ptr ad ds g hb hB hs hc hr => simp [D.gr] at hg

theorem callOk_put {P : Program} {f : FuncId} (he : Enters P f) {ety sz : Nat} {rows rows' : List (List D)} (hlen : rows'.length = rows.length) (hsz' : ∀ r ∈ rows', r.length = sz) (hg' : ∀ r ∈ rows', r.all D.gr = true)
    (h0 : rows = [] → ∀ (w : World) (ad : Option Addr) (cap : Nat), Calls P f #[.slice ad 0 cap] w fun e w' => e = .returned (.tuple #[]) ∧ ∀ b, Wrote w b w' ∧ ∀ k, k < w.heap.size → w'.heap[k]? = w.heap[k]?)
    (h1 : ∀ (w : World) (b o cap : Nat) (cs : Array Value), w.heap[b]? = some (.cells cs ety (0, 0)) → rows.length ≤ cap → o + rows.length * sz ≤ cs.size → (∀ (j : Nat) (d : D), rows.flatten[j]? = some d → Rep w (fun _ => False) (cs.getD (o + j) Go.undef) d) →
      Calls P f #[.slice (some ⟨b, o, none⟩) rows.length cap] w fun e w' => e = .returned (.tuple #[]) ∧ Wrote w b w' ∧ ∃ cs', w'.heap[b]? = some (.cells cs' ety (0, 0)) ∧ cs'.size = cs.size ∧
        ∀ (j : Nat) (d : D), rows'.flatten[j]? = some d → Rep w' (fun _ => False) (cs'.getD (o + j) Go.undef) d)
    (hgr : ∀ r ∈ rows, r.all D.gr = true) :
    CallOk P f [.arr ety sz rows] { res := [], muts := [.arr ety sz rows'] } := by
  refine ⟨he, by simp, ?_, ?_⟩
  · intro i o hi
    cases i with
    | zero =>
      injection hi with hi
      subst hi
      exact ⟨.inr ⟨ety, rows', rfl, by omega⟩, .inl ⟨ety, sz, rows', rfl⟩⟩
    | succ i => simp [inM] at hi
  · intro w A locs β vs h hvs
    have hm0 : (inS [In.arr ety sz rows] vs.size).m 0 = some (.arr ety sz rows) := rfl
    have hs0 := h.slot 0
    have ht0 : (inS [In.arr ety sz rows] vs.size).t 0 = .own 0 0 rows.length := rfl
    rw [ht0] at hs0
    have hs0' : AvRep0 w (Bl A β (inS [In.arr ety sz rows] vs.size).m) β (inS [In.arr ety sz rows] vs.size).m (.own 0 0 rows.length) (vs.getD 0 Go.undef) := hs0
    simp only [AvRep0, hm0] at hs0'
    have hv1 : ∀ v, vs.getD 0 Go.undef = v → vs = #[v] := by
      intro v hv
      have hz : vs.size = 1 := hvs
      apply Array.ext (by simpa using hz)
      intro i h1 h2
      have hi : i = 0 := by simp at h2; exact h2
      subst hi
      simp only [Array.getD, h1, dite_true] at hv
      simpa using hv
    have hob := h.ob 0 _ hm0
    obtain ⟨q1, q2, q3⟩ := hob
    have hp0 : locs = [β 0] := by
      obtain ⟨hpl, hpa⟩ := h.pm
      have e1 : (inS [In.arr ety sz rows] vs.size).pm = [0] := rfl
      rw [e1] at hpl hpa
      have e2 := (hpa 0 0 rfl).1
      match locs, hpl with
      | [x], _ => simp at e2; rw [e2]
    have hget : ∀ i o, outM [In.arr ety sz rows] { res := [], muts := [O.arr ety sz rows'] } i = some o → i = 0 ∧ o = .arr ety sz rows' := by
      intro i o hi
      unfold outM at hi
      split at hi
      · cases i with
        | zero => simp at hi; exact ⟨rfl, hi.symm⟩
        | succ i => simp at hi
      · simp at hi
    have hout0 : outM [In.arr ety sz rows] { res := [], muts := [O.arr ety sz rows'] } 0 = some (.arr ety sz rows') := rfl
    have fin : ∀ w', Wrote w (match β 0 with | some l => l.b | none => w.heap.size) w' →
        ObRep w' (Bl (sepA w A locs true) β (outM [In.arr ety sz rows] { res := [], muts := [O.arr ety sz rows'] })) β (outM [In.arr ety sz rows] { res := [], muts := [O.arr ety sz rows'] }) 0 (.arr ety sz rows') →
        Sim w (sepA w A locs true) locs β (outS [In.arr ety sz rows] { res := [], muts := [O.arr ety sz rows'] }) ⟨#[], []⟩ w' := by
      intro w' hw hob'
      refine { size := rfl, defers := rfl, slot := ?_, ob := ?_, inj := ?_, new := ?_, fr := ?_, lt := ?_, pm := ?_ }
      · intro i
        rfl
      · intro i o hi
        obtain ⟨rfl, rfl⟩ := hget i o hi
        exact hob'
      · intro i i' o o' l l' hi _ _ hi' _ _ _
        exact (hget i o hi).1.trans (hget i' o' hi').1.symm
      · intro i o l hi _ hl
        obtain ⟨rfl, rfl⟩ := hget i o hi
        obtain ⟨n1, n2, n3⟩ := h.new 0 _ l hm0 rfl hl
        refine ⟨Nat.lt_of_lt_of_le n1 hw.size, ?_, n3⟩
        rintro (hA | ⟨_, _, hne⟩)
        · exact n2 hA
        · exact hne l (by rw [hp0, ← hl]; simp) rfl
      · refine ⟨hw.os, hw.tape, hw.output, hw.size, fun b hb hloc => hw.blk b hb ?_, h.fr.tb⟩
        cases hβ : β 0 with
        | none => simp only; omega
        | some l => simp only; intro e; exact hloc l (by rw [hp0, hβ]; simp) e.symm
      · rintro b (hA | ⟨_, hb, _⟩)
        · exact Nat.lt_of_lt_of_le (h.lt b hA) hw.size
        · exact Nat.lt_of_lt_of_le hb hw.size
      · refine ⟨by rw [hp0]; rfl, fun i id hi => ?_⟩
        have e1 : (outS [In.arr ety sz rows] { res := [], muts := [O.arr ety sz rows'] }).pm = [0] := rfl
        rw [e1] at hi
        cases i with
        | zero => simp at hi; subst hi; exact ⟨by rw [hp0]; rfl, _, hout0⟩
        | succ i => simp at hi
    by_cases hnil : rows = []
    · have hnil' : rows' = [] := List.eq_nil_of_length_eq_zero (by rw [hlen, hnil]; rfl)
      have hv : ∃ ad cap, vs = #[.slice ad 0 cap] := by
        rcases hs0'.2 with ⟨_, hv⟩ | ⟨l, ad, _, hv, _⟩
        · exact ⟨none, 0, hv1 _ hv⟩
        · exact ⟨some ad, _, by have := hv1 _ hv; rw [hnil] at this; exact this⟩
      obtain ⟨ad, cap, rfl⟩ := hv
      refine (h0 hnil w ad cap).mono ?_
      rintro e w' ⟨rfl, hw⟩
      refine ⟨#[], β, rfl, fin w' ?_ ?_⟩
      · exact (hw _).1
      · refine ⟨hsz', q2, ?_⟩
        rcases q3 with ⟨q4, _⟩ | ⟨l, cs, q4, q5, q6, q7, q8, _⟩
        · exact .inl ⟨q4, hnil'⟩
        · refine .inr ⟨l, cs, q4, ?_, q6, by rw [hlen]; exact q7, q8, ?_⟩
          · rw [(hw 0).2 l.b (h.new 0 _ l hm0 rfl q4).1]; exact q5
          · intro j d hj; rw [hnil'] at hj; simp at hj
    · have hpos : 0 < rows.length := by
        cases rows with
        | nil => exact absurd rfl hnil
        | cons r rs => simp
      rcases q3 with ⟨_, q4⟩ | ⟨l, cs, q4, q5, q6, q7, q8, q9⟩
      · exact absurd q4 hnil
      · rcases hs0'.2 with ⟨hb, _⟩ | ⟨l', ad, hb, hv, hle, had⟩
        · rw [q4] at hb; cases hb
        · rw [q4] at hb
          injection hb with hb
          subst hb
          have had' := had (by omega)
          simp only [Nat.zero_mul, Nat.add_zero] at had'
          subst had'
          have hvs1 := hv1 _ hv
          subst hvs1
          have hrep : ∀ (j : Nat) (d : D), rows.flatten[j]? = some d → Rep w (fun _ => False) (cs.getD (l.base + j) Go.undef) d := by
            intro j d hj
            refine rep_gr0 (q9 j d hj) ?_
            obtain ⟨r, hr, hd⟩ := List.mem_flatten.1 (List.mem_of_getElem? hj)
            exact List.all_eq_true.1 (hgr r hr) d hd
          have hfit : l.base + rows.length * sz ≤ cs.size := by
            rw [q6]; exact Nat.add_le_add_left (Nat.mul_le_mul_right _ q7) _
          refine (h1 w l.b l.base _ cs q5 (by omega) hfit hrep).mono ?_
          rintro e w' ⟨rfl, hw, cs', r1, r2, r3⟩
          refine ⟨#[], β, rfl, fin w' (by rw [q4]; exact hw) ?_⟩
          refine ⟨hsz', q2, .inr ⟨l, cs', q4, r1, r2.trans q6, by rw [hlen]; exact q7, q8, ?_⟩⟩
          intro j d hj
          refine rep_gr0 (r3 j d hj) ?_
          obtain ⟨r, hr, hd⟩ := List.mem_flatten.1 (List.mem_of_getElem? hj)
          exact List.all_eq_true.1 (hg' r hr) d hd

end Go.Am
