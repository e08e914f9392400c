/- Networks, told by their blocks (turned from r18's X1 .. X5). -/
import Derived.Test.YteoiohkdhdpkoaaH0
import Derived.Test.YteoiohkdhdpkoaaAmHS
namespace Go.Proofs.Yteoiohkdhdpkoaa
open Go Go.Am
set_option maxRecDepth 100000
set_option maxHeartbeats 8000000
attribute [local irreducible] amOps amC opCall opIndexAddr opPick retQ opMake opStore amDraw opAppend opLoad opNilCmp opIndex opSlice xQ

abbrev Cell := Value × List (List D)
/-- The lines' rows: the name, the stops' slice, the runs' slice. -/
def lRow (n : ByteArray) (z : Cell × Cell) : List D := [.str n, .other z.1.1, .other z.2.1]
def lRows (ns : List ByteArray) (zs : List (Cell × Cell)) : List (List D) := List.zipWith lRow ns zs
def flatZ (zs : List (Cell × Cell)) : List Cell := zs.flatMap fun z => [z.1, z.2]
/-- What the inner slices hold. -/
def ZOk (ls : List Line) (zs : List (Cell × Cell)) : Prop := zs.map (fun z => (z.1.2, z.2.2)) = ls.map fun l => (l.stops.map intRow, l.runs.map intRow)
def nmL (ls : List Line) : List ByteArray := ls.map (·.name)

def LinesI (ls : List Line) : VI := fun v w F => ∃ (zs : List (Cell × Cell)) (F0 F1 : Nat → Prop), ZOk ls zs ∧ (∀ b, F0 b ∨ F1 b → F b) ∧ (∀ b, ¬ (F0 b ∧ F1 b)) ∧ FlatI 44 3 (lRows (nmL ls) zs) v w F0 ∧ InnI 3 1 (flatZ zs) w F1
def NetI (n : Network) (vs vl : Value) : World → (Nat → Prop) → Prop := fun w F => ∃ F0 F1 : Nat → Prop, (∀ b, F0 b ∨ F1 b → F b) ∧ (∀ b, ¬ (F0 b ∧ F1 b)) ∧ FlatI 9 1 (n.stops.map strRow) vs w F0 ∧ LinesI n.lines vl w F1
def NetV (n : Network) : VI := fun v w F => ∃ vs vl, v = .agg #[vs, vl] ∧ NetI n vs vl w F
section
variable {ls : List Line} {n : Network} {zs : List (Cell × Cell)} {v vs vl vt : Value} {w : World} {F : Nat → Prop}
theorem LinesI.ext (h : LinesI ls v w F) : ExtAt (LinesI ls v) w F := by
  obtain ⟨zs, F0, F1, h1, h2, h3, h4, h5⟩ := h
  exact fun w' hb hs => ⟨zs, F0, F1, h1, h2, h3, h4.ext w' (fun b hF => hb b (h2 b (.inl hF))) hs, h5.ext w' (fun b hF => hb b (h2 b (.inr hF))) hs⟩
theorem NetI.ext (h : NetI n vs vl w F) : ExtAt (NetI n vs vl) w F := by
  obtain ⟨F0, F1, h2, h3, h4, h5⟩ := h
  exact fun w' hb hs => ⟨F0, F1, h2, h3, h4.ext w' (fun b hF => hb b (h2 b (.inl hF))) hs, h5.ext w' (fun b hF => hb b (h2 b (.inr hF))) hs⟩
theorem NetV.ext (h : NetV n v w F) : ExtAt (NetV n v) w F := by
  obtain ⟨vs, vl, e, h⟩ := h
  exact fun w' hb hs => ⟨vs, vl, e, h.ext w' hb hs⟩
theorem ZOk.len (h : ZOk ls zs) : zs.length = ls.length := by
  have := congrArg List.length h
  simpa using this
theorem ZOk.at (h : ZOk ls zs) {i : Nat} {z : Cell × Cell} {l : Line} (hz : zs[i]? = some z) (hl : ls[i]? = some l) : z.1.2 = l.stops.map intRow ∧ z.2.2 = l.runs.map intRow := by
  have h1 : (zs.map fun z => (z.1.2, z.2.2))[i]? = (ls.map fun l => (l.stops.map intRow, l.runs.map intRow))[i]? := by rw [h]
  rw [List.getElem?_map, List.getElem?_map, hz, hl] at h1
  simp only [Option.map_some, Option.some.injEq, Prod.mk.injEq] at h1
  exact h1
theorem flatZ_at : ∀ {zs : List (Cell × Cell)} {i : Nat} {z : Cell × Cell}, zs[i]? = some z → (flatZ zs)[2 * i]? = some z.1 ∧ (flatZ zs)[2 * i + 1]? = some z.2
  | [], i, z, h => by simp at h
  | y :: ys, 0, z, h => by simp at h; subst h; exact ⟨rfl, rfl⟩
  | y :: ys, i + 1, z, h => by
    have := flatZ_at (zs := ys) (i := i) (z := z) (by simpa using h)
    simpa [flatZ, Nat.mul_add] using this
theorem flatZ_set : ∀ {zs : List (Cell × Cell)} {i : Nat} {z a : Cell × Cell}, zs[i]? = some z → ((flatZ zs).set (2 * i) a.1).set (2 * i + 1) a.2 = flatZ (zs.set i a)
  | [], i, z, a, h => by simp at h
  | y :: ys, 0, z, a, h => rfl
  | y :: ys, i + 1, z, a, h => by
    have := flatZ_set (zs := ys) (i := i) (z := z) (a := a) (by simpa using h)
    have e1 : 2 * (i + 1) = 2 * i + 1 + 1 := by omega
    rw [e1]
    show (((y.1 :: y.2 :: flatZ ys).set (2 * i + 1 + 1) a.1).set (2 * i + 1 + 1 + 1) a.2) = y.1 :: y.2 :: flatZ (ys.set i a)
    simp only [List.set_cons_succ]
    rw [this]
theorem lRows_len (h : ZOk ls zs) : (lRows (nmL ls) zs).length = ls.length := by
  have := h.len
  simp [lRows, nmL, this]
theorem lRows_at {ns : List ByteArray} {i : Nat} {n : ByteArray} {z : Cell × Cell} (hn : ns[i]? = some n) (hz : zs[i]? = some z) : (lRows ns zs)[i]? = some (lRow n z) := by
  unfold lRows
  rw [List.getElem?_zipWith, hn, hz]

/-- As data. -/
theorem LinesI.rep (h : LinesI ls v w F) {B : Nat → Prop} (hB : ∀ b, F b → ¬ B b) : Rep w B v (.list (ls.map Line.enc)) := by
  obtain ⟨zs, F0, F1, hz, h2, h3, h4, G, g1, _, g3⟩ := h
  have hzl := hz.len
  have hll := lRows_len hz
  obtain ⟨p1, p2, p3⟩ := h4
  rcases p3 with ⟨e1, rfl⟩ | ⟨b, base, tot, cs, ad, q1, rfl, q3, q4, q5, q6, q7, q8⟩
  · have : ls = [] := by
      rw [e1] at hll
      exact List.eq_nil_of_length_eq_zero (by simpa using hll.symm)
    subst this
    exact .nil _ _
  · by_cases h0 : ls.length = 0
    · have : ls = [] := List.eq_nil_of_length_eq_zero h0
      subst this
      rw [hll]
      exact .nil _ _
    · have had := q3 (by omega)
      subst had
      have hsz : ∀ r ∈ ls.map Line.enc, r.length = 3 := fun r hr => by
        obtain ⟨l, _, rfl⟩ := List.mem_map.1 hr
        rfl
      have hfl : (ls.map Line.enc).flatten.length = ls.length * 3 := by rw [flat_len _ hsz, List.length_map]
      have hmul : ls.length * 3 ≤ tot * 3 := Nat.mul_le_mul_right _ (by omega)
      refine .list _ _ _ (ls.map Line.enc) 3 (fun j => cs.getD (base + j) Go.undef) (by rw [List.length_map]; exact hll) (by omega) hsz (lt_of_cells q4) (hB b (h2 b (.inl q1))) rfl (fun j d hj => ?_) (fun j d' hj => ?_)
      · have hjl := (List.getElem?_eq_some_iff.1 hj).1
        rw [add_spot rfl]
        exact ⟨run_load_at q4 (by show base + j < _; omega), thaw q4⟩
      · obtain ⟨i, q, r, ej, hq, hr, hrq⟩ := flat_inv _ hsz j d' hj
        rw [List.getElem?_map, Option.map_eq_some_iff] at hr
        obtain ⟨l, hl, rfl⟩ := hr
        have hil := (List.getElem?_eq_some_iff.1 hl).1
        obtain ⟨z, hzz⟩ : ∃ z, zs[i]? = some z := ⟨_, List.getElem?_eq_getElem (by omega)⟩
        have hrow := lRows_at (ns := nmL ls) (n := l.name) (by simp [nmL, hl]) hzz
        obtain ⟨a1, a2⟩ := hz.at hzz hl
        obtain ⟨f1, f2⟩ := flatZ_at hzz
        have hcell : ∀ (c : Nat) (d : D), (lRow l.name z)[c]? = some d → (lRows (nmL ls) zs).flatten[i * 3 + c]? = some d := fun c d hd => flat_at _ p1 i _ hrow c d hd
        subst ej
        match q, hq with
        | 0, _ =>
          simp [Line.enc] at hrq
          subst hrq
          exact q8 _ _ (hcell 0 _ rfl) _ _
        | 1, _ =>
          simp [Line.enc] at hrq
          subst hrq
          have h9 := q8 _ _ (hcell 1 _ rfl) w B
          rw [rep_oth h9, ← a1]
          exact (g3 _ _ f1).rep fun b hb => hB b (h2 b (.inr (g1 _ b hb)))
        | 2, _ =>
          simp [Line.enc] at hrq
          subst hrq
          have h9 := q8 _ _ (hcell 2 _ rfl) w B
          rw [rep_oth h9, ← a2]
          exact (g3 _ _ f2).rep fun b hb => hB b (h2 b (.inr (g1 _ b hb)))
theorem NetI.rep (h : NetI n vs vl w F) {B : Nat → Prop} (hB : ∀ b, F b → ¬ B b) : Rep w B vs (.list (n.stops.map strRow)) ∧ Rep w B vl (.list (n.lines.map Line.enc)) := by
  obtain ⟨F0, F1, h2, h3, h4, h5⟩ := h
  exact ⟨h4.rep fun b hb => hB b (h2 b (.inl hb)), h5.rep fun b hb => hB b (h2 b (.inr hb))⟩
end
theorem nmL_len (ls : List Line) : (nmL ls).length = ls.length := List.length_map _
theorem nmL_at {ls : List Line} {i : Nat} {l : Line} (h : ls[i]? = some l) : (nmL ls)[i]? = some l.name := by simp [nmL, h]
theorem lRows_set {ns : List ByteArray} {zs : List (Cell × Cell)} {i : Nat} {n n' : ByteArray} {z : Cell × Cell} (hn : ns[i]? = some n) (hz : zs[i]? = some z) : (lRows ns zs).set i ((lRow n z).set 0 (.str n')) = lRows (ns.set i n') zs := by
  unfold lRows
  refine List.ext_getElem? fun j => ?_
  rw [List.getElem?_set, List.getElem?_zipWith, List.getElem?_zipWith, List.getElem?_set]
  have hil := (List.getElem?_eq_some_iff.1 hn).1
  have hzl := (List.getElem?_eq_some_iff.1 hz).1
  by_cases e : i = j
  · subst e
    rw [if_pos rfl, if_pos rfl, if_pos (by rw [List.length_zipWith]; omega), if_pos hil, hz]
    rfl
  · rw [if_neg e, if_neg e]
theorem lRows_three (ns : List ByteArray) (zs : List (Cell × Cell)) : ∀ r ∈ lRows ns zs, r.length = 3 := fun r hr => by
  obtain ⟨i, hi⟩ := List.getElem?_of_mem hr
  unfold lRows at hi
  rw [List.getElem?_zipWith] at hi
  cases hn : ns[i]? <;> cases hz : zs[i]? <;> rw [hn, hz] at hi <;> first | (simp at hi; done) | (injection hi with hi; subst hi; rfl)
theorem join_inn {ti j : Nat} {xs : List Cell} {v : Value} {r : List (List D)} {ys : List Cell} (hy : xs.set j (v, r) = ys) : ∀ w F1 F2, ExtAt (InnO ti 1 xs j) w F1 → ExtAt (FlatI ti 1 r v) w F2 → (∀ b, ¬ (F1 b ∧ F2 b)) → ExtAt (InnI ti 1 ys) w fun b => F1 b ∨ F2 b := by
  subst hy
  exact fun _ _ _ h1 h2 hd => (InnO.put h1.now h2.now fun b hb => hd b ⟨hb.2, hb.1⟩).ext
abbrev Sl := Option Addr × Nat × Nat
def Sl.v (s : Sl) : Value := .slice s.1 s.2.1 s.2.2
theorem FlatI.isSl {ty sz : Nat} {rows : List (List D)} {v : Value} {w : World} {F : Nat → Prop} (h : FlatI ty sz rows v w F) : ∃ s : Sl, v = s.v := by
  rcases h.shape with ⟨_, e2⟩ | ⟨ad, cap, e1, _⟩
  · exact ⟨(none, 0, 0), e2⟩
  · exact ⟨(some ad, rows.length, cap), e1⟩
theorem LinesI.isSl {ls : List Line} {v : Value} {w : World} {F : Nat → Prop} (h : LinesI ls v w F) : ∃ s : Sl, v = s.v := by
  obtain ⟨_, _, _, _, _, _, h, _⟩ := h
  exact FlatI.isSl h
theorem net_open {n : Network} {v : Value} {w : World} {F : Nat → Prop} (h : ExtAt (NetV n v) w F) : ∃ (x : { x : Sl × Sl // v = .agg #[x.1.v, x.2.v] }) (F0 F1 : Nat → Prop), (∀ b, F0 b ∨ F1 b → F b) ∧ (∀ b, ¬ (F0 b ∧ F1 b)) ∧ ExtAt (FlatI 9 1 (n.stops.map strRow) x.1.1.v) w F0 ∧ ExtAt (LinesI n.lines x.1.2.v) w F1 := by
  obtain ⟨vs, vl, e, F0, F1, h2, h3, h4, h5⟩ := h.now
  obtain ⟨s1, rfl⟩ := FlatI.isSl h4
  obtain ⟨s2, rfl⟩ := LinesI.isSl h5
  exact ⟨⟨(s1, s2), e⟩, F0, F1, h2, h3, h4.ext, h5.ext⟩
theorem net_join {n : Network} {vs vl : Value} : ∀ w F1 F2, ExtAt (FlatI 9 1 (n.stops.map strRow) vs) w F1 → ExtAt (LinesI n.lines vl) w F2 → (∀ b, ¬ (F1 b ∧ F2 b)) → ExtAt (NetV n (.agg #[vs, vl])) w fun b => F1 b ∨ F2 b :=
  fun _ F1 F2 h1 h2 hd => NetV.ext ⟨vs, vl, rfl, F1, F2, fun _ h => h, hd, h1.now, h2.now⟩
def netR (n : Network) : XR := ⟨aggD, NetV n⟩
theorem ZOk.snoc {ls : List Line} {zs : List (Cell × Cell)} {i : Nat} {l : Line} {a b : Cell} (h : ZOk (ls.take i) zs) (hl : ls[i]? = some l) (h1 : a.2 = l.stops.map intRow) (h2 : b.2 = l.runs.map intRow) : ZOk (ls.take (i + 1)) (zs ++ [(a, b)]) := by
  unfold ZOk at *
  rw [List.take_add_one, hl, List.map_append, h, List.map_append]
  simp [h1, h2]
theorem flatZ_snoc (zs : List (Cell × Cell)) (a b : Cell) : flatZ (zs ++ [(a, b)]) = flatZ zs ++ [a] ++ [b] := by simp [flatZ]
theorem join_add {ti : Nat} {xs : List Cell} {v : Value} {r : List (List D)} : ∀ w F1 F2, ExtAt (InnI ti 1 xs) w F1 → ExtAt (FlatI ti 1 r v) w F2 → (∀ b, ¬ (F1 b ∧ F2 b)) → ExtAt (InnI ti 1 (xs ++ [(v, r)])) w fun b => F1 b ∨ F2 b :=
  fun _ _ _ h1 h2 hd => (InnI.add h1.now h2.now fun b hb => hd b ⟨hb.2, hb.1⟩).ext
theorem lines_join {ls : List Line} {zs : List (Cell × Cell)} {v : Value} (hz : ZOk ls zs) : ∀ w F1 F2, ExtAt (FlatI 44 3 (lRows (nmL ls) zs) v) w F1 → ExtAt (InnI 3 1 (flatZ zs)) w F2 → (∀ b, ¬ (F1 b ∧ F2 b)) → ExtAt (LinesI ls v) w fun b => F1 b ∨ F2 b :=
  fun _ F1 F2 h1 h2 hd => LinesI.ext ⟨zs, F1, F2, hz, fun _ h => h, hd, h1.now, h2.now⟩
theorem lines_join' {ls : List Line} {zs : List (Cell × Cell)} {rows : List (List D)} {v : Value} (hm : rows = lRows (nmL ls) zs) (hz : ZOk ls zs) : ∀ w F1 F2, ExtAt (FlatI 44 3 rows v) w F1 → ExtAt (InnI 3 1 (flatZ zs)) w F2 → (∀ b, ¬ (F1 b ∧ F2 b)) → ExtAt (LinesI ls v) w fun b => F1 b ∨ F2 b := by
  subst hm
  exact lines_join hz
theorem lRows_gr (ns : List ByteArray) (zs : List (Cell × Cell)) : (lRows ns zs).all (fun r => r.all D.gr) = true := by
  refine List.all_eq_true.2 fun r hr => ?_
  obtain ⟨i, hi⟩ := List.getElem?_of_mem hr
  unfold lRows at hi
  rw [List.getElem?_zipWith] at hi
  cases hn : ns[i]? <;> cases hz : zs[i]? <;> rw [hn, hz] at hi <;> first | (simp at hi; done) | (injection hi with hi; subst hi; rfl)
end Go.Proofs.Yteoiohkdhdpkoaa

