/- slices.Insert and slices.Delete as contracts of the abstract machine. -/
import Derived.Test.YtfjphbjbobojbaaAmG
import Derived.Test.YtfjphbjbobojbaaAmI
import Derived.Test.YtfjphbjbobojbaaAmE
/-! A result that lies where a lent array lay. -/
namespace Go.Am
set_option maxRecDepth 20000
open Go Go.Proofs Go.Shelf Go.RowKit

theorem sim_sameArr {w w' : World} {A : Nat → Prop} {locs : List (Option Loc)} {β : Nat → Option Loc} {ins : List In} {a : Act} {n0 : Nat} (h : Sim w A locs β (inS ins n0) a w) (hl : ins.length ≤ 1000) {ix : Nat} {e sz : Nat} {rows0 rows : List (List D)} {sep : Bool}
    (hix : ins[ix]? = some (.arr e sz rows0)) {l : Loc} (hβl : β ix = some l)
    (hk : w'.os = w.os ∧ w'.tape = w.tape ∧ w'.output = w.output ∧ w'.heap.size = w.heap.size ∧ (∀ b, b ≠ l.b → w'.heap[b]? = w.heap[b]?) ∧ w.drawn ≤ w'.drawn)
    (hr0 : ∀ r ∈ rows, r.length = sz) (hp : 0 < sz) (hgr : ∀ r ∈ rows, r.all D.gr = true) {cs : Array Value} (hat : w'.heap[l.b]? = some (.cells cs e (0, 0))) (hcs : cs.size = l.base + l.tot * sz) (hrt : rows.length ≤ l.tot) (htm : l.tot ≤ maxLen)
    (hrep : ∀ (j : Nat) (d : D), rows.flatten[j]? = some d → ∃ B, Rep w' B (cs.getD (l.base + j) Go.undef) d) {v : Value} (hv : v = .slice (some ⟨l.b, l.base, none⟩) rows.length l.tot) :
    ∃ β', Sim w (sepA w A locs sep) locs β' (outS ins { res := [.arr e sz rows], sep := sep }) ⟨#[v], []⟩ w' := by
  obtain ⟨β', hβ0, hβ1⟩ : ∃ β' : Nat → Option Loc, β' 1000 = some ⟨l.b, l.base, l.tot, none⟩ ∧ ∀ id, id ≠ 1000 → β' id = β id := ⟨fun id => if id = 1000 then some ⟨l.b, l.base, l.tot, none⟩ else β id, if_pos rfl, fun id h => if_neg h⟩
  obtain ⟨out, hout⟩ : ∃ out : Out, out = { res := [.arr e sz rows], sep := sep } := ⟨_, rfl⟩
  rw [← hout]
  have hores : out.res = [.arr e sz rows] := by rw [hout]
  have homut : out.muts = [] := by rw [hout]
  have hm0 : outM ins out 1000 = some (.arr e sz rows) := by simp [outM, hores]
  have hm1 : ∀ id o, outM ins out id = some o → o.live = true → id = 1000 ∧ o = .arr e sz rows := by
    intro id o ho hlive
    unfold outM at ho
    split at ho
    · exfalso
      split at ho
      all_goals first | (simp [homut] at ho; subst ho; cases hlive) | cases ho
    · rename_i hge
      cases hk : id - 1000 with
      | zero => rw [hk] at ho; simp [hores] at ho; exact ⟨by omega, ho.symm⟩
      | succ k => rw [hk] at ho; simp [hores] at ho
  have hpmlt : ∀ (i id : Nat), (mutIdx ins)[i]? = some id → id < 1000 ∧ ∃ x, ins[id]? = some x ∧ x.isMut = true := by
    intro i id hi
    have := List.mem_of_getElem? hi
    unfold mutIdx at this
    rw [List.mem_filter, List.mem_range] at this
    obtain ⟨h1, h2⟩ := this
    refine ⟨by omega, ins[id], List.getElem?_eq_getElem h1, ?_⟩
    simpa [List.getElem?_eq_getElem h1] using h2
  have hixlt : ix < ins.length := (List.getElem?_eq_some_iff.1 hix).1
  have hloc : some l ∈ locs := by
    have hmem : ix ∈ mutIdx ins := by
      unfold mutIdx
      rw [List.mem_filter, List.mem_range]
      exact ⟨hixlt, by rw [hix]; rfl⟩
    obtain ⟨k, hk⟩ := List.getElem?_of_mem hmem
    have := (h.pm.2 k ix hk).1
    rw [hβl] at this
    exact List.mem_of_getElem? this
  obtain ⟨hos, htp, hop, hsz, hblk, hdr⟩ := hk
  have hblt : l.b < w.heap.size := by
    have hm : (inS ins n0).m ix = some (.arr e sz rows0) := by
      show inM ins ix = _
      unfold inM
      rw [hix]
    exact (h.new ix _ l hm rfl hβl _ l.self).1
  have hfr : Fr w locs w' := ⟨hos, htp, hop, by omega, fun b _ hb => hblk b (fun e => hb l hloc (.inl e.symm)), h.fr.tb, hdr⟩
  refine ⟨β', { size := by show 1 = out.res.length; rw [hores]; rfl, defers := rfl, slot := fun i => ?_, ob := fun id o ho => ?_, inj := fun id id' o o' l l' b h1 h2 h3 h4 h5 h6 h7 h8 => ?_, new := fun id o l' h1 h2 h3 b hb => ?_, fr := hfr, lt := ?_, pm := ?_ }⟩
  · cases i with
    | zero =>
      have e0 : (outS ins out).t 0 = .own 1000 0 rows.length := by
        show outT out 0 = _
        unfold outT
        rw [hores]
        rfl
      rw [e0]
      show AvRep w' _ β' (outM ins out) (.own 1000 0 rows.length) v
      simp only [AvRep, AvRep0, hm0]
      exact ⟨by omega, .inr ⟨_, _, hβ0, hv, Nat.zero_le _, fun _ => by simp⟩⟩
    | succ i =>
      have e0 : (outS ins out).t (i + 1) = .undef := by
        show outT out (i + 1) = _
        unfold outT
        rw [hores]
        rfl
      rw [e0]
      rfl
  · cases hlive : o.live with
    | false =>
      cases o with
      | gone => trivial
      | arr ty sz rows => cases hlive
      | box ty cells => cases hlive
      | reg c => cases hlive
      | cel sz rows => cases hlive
      | ext I => cases hlive
    | true =>
      obtain ⟨rfl, rfl⟩ := hm1 id o ho hlive
      refine ⟨hr0, hp, .inr ⟨_, cs, hβ0, hat, hcs, hrt, htm, fun j d hj => ?_⟩⟩
      obtain ⟨B, hr⟩ := hrep j d hj
      obtain ⟨r, hr1, hr2⟩ := List.mem_flatten.1 (List.mem_of_getElem? hj)
      exact rep_gr1 hr ((List.all_eq_true.1 (hgr r hr1)) d hr2)
  · obtain ⟨rfl, _⟩ := hm1 id o h1 h2
    exact (hm1 id' o' h4 h5).1.symm
  · obtain ⟨rfl, _⟩ := hm1 id o h1 h2
    rw [hβ0] at h3
    injection h3 with h3
    subst h3
    have hb' := Loc.has_none rfl hb
    simp only at hb'
    subst hb'
    have hm : (inS ins n0).m ix = some (.arr e sz rows0) := by
      show inM ins ix = _
      unfold inM
      rw [hix]
    obtain ⟨n1, n2, n3⟩ := h.new ix _ l hm rfl hβl _ l.self
    refine ⟨by omega, ?_, .inr ⟨l, hloc, l.self⟩⟩
    rintro (hA | ⟨_, _, hno⟩)
    · exact n2 hA
    · exact hno l hloc l.self
  · rintro b (hA | ⟨_, hb, _⟩)
    · exact Nat.lt_of_lt_of_le (h.lt b hA) hfr.size
    · exact Nat.lt_of_lt_of_le hb hfr.size
  · refine ⟨h.pm.1, fun i id hi => ?_⟩
    obtain ⟨h1, x, h2, h3⟩ := hpmlt i id hi
    obtain ⟨h4, o, h5⟩ := h.pm.2 i id hi
    refine ⟨by rw [hβ1 id (by omega)]; exact h4, ?_⟩
    show ∃ o, outM ins out id = some o
    unfold outM
    rw [if_pos h1, h2]
    cases x with
    | imm d => cases h3
    | _ => exact ⟨_, rfl⟩

/-- Cells set, as a block. -/
theorem setCells_heap (P : Program) (b : Nat) (vs : List Value) (o : Nat) (w : World) (cs : Array Value) (ty : TypeId) (h : w.heap[b]? = some (.cells cs ty (0, 0))) (hl : o + vs.length ≤ cs.size) (h1 : ∀ v ∈ vs, v.oneCell' = true) :
    ∃ cs' : Array Value, (w.setCells b o vs).heap[b]? = some (.cells cs' ty (0, 0)) ∧ cs'.size = cs.size ∧ (∀ j, cs'.getD j Go.undef = if o ≤ j ∧ j < o + vs.length then vs.getD (j - o) Go.undef else cs.getD j Go.undef) ∧
      (∀ b', b' ≠ b → (w.setCells b o vs).heap[b']? = w.heap[b']?) ∧ (w.setCells b o vs).heap.size = w.heap.size ∧ (w.setCells b o vs).os = w.os ∧ (w.setCells b o vs).tape = w.tape ∧ (w.setCells b o vs).output = w.output ∧ (w.setCells b o vs).drawn = w.drawn := by
  obtain ⟨w', cs', hr, r⟩ := run_storeCells (P := P) b o ty vs cs h hl h1
  have h2 := run_storeCells_cells (P := P) b o vs 0 w (fun j hj => by
      rw [run_load_at h (by show o + 0 + j < cs.size; omega)]; rfl) (fun j hj => thaw h) h1
  rw [Nat.add_zero] at h2
  rw [hr] at h2
  injection h2 with _ h3
  rw [← h3]
  exact ⟨cs', r⟩

/-- Rows as the cells of a block from a place on. -/
theorem rows_cells {w : World} {cs : Array Value} {base sz : Nat} {rows : List (List D)} {B : Nat → Prop} (hr : ∀ (j : Nat) (d : D), rows.flatten[j]? = some d → Rep w B (cs.getD (base + j) Go.undef) d) (hsz : ∀ r ∈ rows, r.length = sz) (h1 : ∀ r ∈ rows, r.all D.one = true) :
    ∀ v ∈ (List.range (rows.length * sz)).map (fun j => cs.getD (base + j) Go.undef), v.oneCell' = true := by
  intro v hv
  obtain ⟨j, hj, rfl⟩ := List.mem_map.1 hv
  rw [List.mem_range] at hj
  have hlt : j < rows.flatten.length := by rw [flat_len rows hsz]; exact hj
  have := hr j _ (List.getElem?_eq_getElem hlt)
  obtain ⟨r, h2, h3⟩ := List.mem_flatten.1 (List.getElem_mem hlt)
  exact Rep.one this ((List.all_eq_true.1 (h1 r h2)) _ h3)

/-- What a lent array of at least one row is. -/
theorem lent_arr {w : World} {A : Nat → Prop} {locs : List (Option Loc)} {β : Nat → Option Loc} {ins : List In} {vs : Array Value} (h : Sim w A locs β (inS ins vs.size) ⟨vs, []⟩ w) {ix : Nat} {e sz : Nat} {rows : List (List D)} (hix : ins[ix]? = some (.arr e sz rows)) (hne : 0 < rows.length) :
    ∃ (l : Loc) (cs : Array Value), β ix = some l ∧ vs.getD ix Go.undef = .slice (some ⟨l.b, l.base, none⟩) rows.length l.tot ∧ w.heap[l.b]? = some (.cells cs e (0, 0)) ∧ cs.size = l.base + l.tot * sz ∧ rows.length ≤ l.tot ∧ l.tot ≤ maxLen ∧ 0 < sz ∧ (∀ r ∈ rows, r.length = sz) ∧
      ∃ B, ∀ (j : Nat) (d : D), rows.flatten[j]? = some d → Rep w B (cs.getD (l.base + j) Go.undef) d := by
  have hm : (inS ins vs.size).m ix = some (.arr e sz rows) := by
    show inM ins ix = _
    unfold inM
    rw [hix]
  have ht : (inS ins vs.size).t ix = .own ix 0 rows.length := by
    show inT ins ix = _
    unfold inT
    rw [hix]
  have hs := h.slot ix
  rw [ht] at hs
  simp only [AvRep, AvRep0, hm] at hs
  obtain ⟨q1, q2, q3⟩ := h.ob ix _ hm
  rcases q3 with ⟨_, q4⟩ | ⟨l, cs, q4, q5, q6, q7, q8, q9⟩
  · rw [q4] at hne; simp at hne
  · rcases hs.2 with ⟨h1, _⟩ | ⟨l', ad, h1, h2, h3, h4⟩
    · rw [q4] at h1; cases h1
    · rw [q4] at h1
      injection h1 with h1
      subst h1
      refine ⟨l, cs, q4, ?_, q5, q6, q7, q8, q2, q1, _, q9⟩
      rw [h2, h4 (by omega)]
      simp

theorem flat_insert {α : Type} {sz : Nat} (rows : List (List α)) (x : List α) (i : Nat) (hsz : ∀ r ∈ rows, r.length = sz) :
    (rows.take i ++ x :: rows.drop i).flatten = rows.flatten.take (i * sz) ++ x ++ rows.flatten.drop (i * sz) := by
  rw [List.flatten_append, List.flatten_cons, flat_take _ hsz, flat_drop _ hsz, List.append_assoc]

/-- slices.Insert of one element ahead of another. -/
theorem callOk_insert {P : Program} {ρ : Ren} {S : Nat} {i0 : TypeInfo} {zc : Value} (L : InsL P ρ S i0 zc) (he : Enters P (ρ.f 22)) (hzc : zc.cells.size = S) (hby : i0.bytes ≤ 65536) {rows : List (List D)} {x : List D} {i : Nat} (hi : i < rows.length) (hn : rows.length ≤ 1048576)
    (hx : x.length = S) (h1r : ∀ r ∈ rows, r.all D.one = true) (h1x : x.all D.one = true) (hgr : ∀ r ∈ rows, r.all D.gr = true) (hgx : x.all D.gr = true) :
    CallOk P (ρ.f 22) [.arr (ρ.t 9) S rows, .imm (.int .i64 (i : Int)), .arr (ρ.t 9) S [x]] { res := [.arr (ρ.t 9) S (rows.take i ++ x :: rows.drop i)] } := by
  refine ⟨he, by simp, fun k o hk => ⟨?_, .inr (.inr (.inl rfl))⟩, fun w A locs β vs h hvs => ?_⟩
  · show o.sub .gone
    exact O.sub_gone o
  obtain ⟨l, cs, q1, q2, q3, q4, q5, q6, q7, q8, B, q9⟩ := lent_arr h (ix := 0) rfl (by omega)
  obtain ⟨l2, cs2, p1, p2, p3, p4, p5, p6, p7, p8, B2, p9⟩ := lent_arr h (ix := 2) (rows := [x]) rfl (by simp)
  have s1 : Rep w (Bl A β (inS [.arr (ρ.t 9) S rows, .imm (.int .i64 (i : Int)), .arr (ρ.t 9) S [x]] vs.size).m) (vs.getD 1 Go.undef) (.int .i64 (i : Int)) := h.slot 1
  have e1 : vs.getD 1 Go.undef = .int .i64 (i : Int) := by
    generalize vs.getD 1 Go.undef = v at s1
    cases s1 with
    | int a b => rfl
  have hvs' : vs = #[.slice (some ⟨l.b, l.base, none⟩) rows.length l.tot, .int .i64 (i : Int), .slice (some ⟨l2.b, l2.base, none⟩) 1 l2.tot] := by
    apply Array.ext (by simpa using hvs)
    intro k h1 h2
    simp at hvs
    have hk : k = 0 ∨ k = 1 ∨ k = 2 := by omega
    rcases hk with rfl | rfl | rfl
    · simpa [Array.getD, h1] using q2
    · simpa [Array.getD, h1] using e1
    · simpa [Array.getD, h1] using p2
  have hm0 : (inS [.arr (ρ.t 9) S rows, .imm (.int .i64 (i : Int)), .arr (ρ.t 9) S [x]] vs.size).m 0 = some (.arr (ρ.t 9) S rows) := rfl
  have hm2 : (inS [.arr (ρ.t 9) S rows, .imm (.int .i64 (i : Int)), .arr (ρ.t 9) S [x]] vs.size).m 2 = some (.arr (ρ.t 9) S [x]) := rfl
  have hbb : l2.b ≠ l.b := fun e => by
    have := h.inj 0 2 _ _ l l2 l.b hm0 rfl q1 hm2 rfl p1 l.self (.inl e)
    cases this
  have hlt := (h.new 0 _ l hm0 rfl q1 _ l.self).1
  have hlt2 := (h.new 2 _ l2 hm2 rfl p1 _ l2.self).1
  obtain ⟨C, hC⟩ : ∃ C : List Value, C = (List.range (rows.length * S)).map (fun j => cs.getD (l.base + j) Go.undef) := ⟨_, rfl⟩
  obtain ⟨V, hV⟩ : ∃ V : List Value, V = (List.range (1 * S)).map (fun j => cs2.getD (l2.base + j) Go.undef) := ⟨_, rfl⟩
  have hCl : C.length = rows.length * S := by rw [hC]; simp
  have hVl : V.length = 1 * S := by rw [hV]; simp
  have hCg : ∀ j, j < rows.length * S → C.getD j Go.undef = cs.getD (l.base + j) Go.undef := fun j hj => by
    rw [hC]
    simp only [List.getD_eq_getElem?_getD, List.getElem?_map, List.getElem?_range hj, Option.map_some, Option.getD_some]
  have hVg : ∀ j, j < 1 * S → V.getD j Go.undef = cs2.getD (l2.base + j) Go.undef := fun j hj => by
    rw [hV]
    simp only [List.getD_eq_getElem?_getD, List.getElem?_map, List.getElem?_range hj, Option.map_some, Option.getD_some]
  have hrS : rows.length * S ≤ l.tot * S := Nat.mul_le_mul_right _ q5
  have htS : 1 * S ≤ l2.tot * S := Nat.mul_le_mul_right _ (by simpa using p5)
  have hCc : ∀ j v, C[j]? = some v → w.cell? ⟨l.b, l.base + j, none⟩ = some v := fun j v hj => by
    have hjl := (List.getElem?_eq_some_iff.1 hj).1
    rw [run_load_at q3 (by show l.base + j < cs.size; omega)]
    have := hCg j (by omega)
    rw [List.getD_eq_getElem?_getD, hj] at this
    exact congrArg some this.symm
  have hVc : ∀ j v, V[j]? = some v → w.cell? ⟨l2.b, l2.base + j, none⟩ = some v := fun j v hj => by
    have hjl := (List.getElem?_eq_some_iff.1 hj).1
    rw [run_load_at p3 (by show l2.base + j < cs2.size; omega)]
    have := hVg j (by omega)
    rw [List.getD_eq_getElem?_getD, hj] at this
    exact congrArg some this.symm
  have hC1 : ∀ v ∈ C, v.oneCell' = true := by rw [hC]; exact rows_cells q9 q8 h1r
  have hV1 : ∀ v ∈ V, v.oneCell' = true := by rw [hV]; exact rows_cells (rows := [x]) p9 p8 (fun r hr => by simp at hr; subst hr; exact h1x)
  -- what the new rows' cells stand for
  have hflat := flat_insert rows x i q8
  have hfl : rows.flatten.length = rows.length * S := flat_len rows q8
  have hiS : i * S ≤ rows.length * S := Nat.mul_le_mul_right _ (by omega)
  have hnew : ∀ (g : Nat → Value), (∀ j, j < (rows.length + 1) * S → g j = if j < i * S then C.getD j Go.undef else if j < (i + 1) * S then V.getD (j - i * S) Go.undef else C.getD (j - S) Go.undef) →
      ∀ (j : Nat) (d : D), (rows.take i ++ x :: rows.drop i).flatten[j]? = some d → ∃ B, Rep w B (g j) d := by
    intro g hg j d hj
    rw [hflat] at hj
    have hL1 : (rows.flatten.take (i * S)).length = i * S := by rw [List.length_take, hfl]; omega
    have hL2 : (rows.flatten.take (i * S) ++ x).length = i * S + S := by rw [List.length_append, hL1, hx]
    have hL3 : (rows.flatten.drop (i * S)).length = rows.length * S - i * S := by rw [List.length_drop, hfl]
    have hjl := (List.getElem?_eq_some_iff.1 hj).1
    rw [List.length_append, hL2, hL3] at hjl
    have e3 : (rows.length + 1) * S = rows.length * S + S := by rw [Nat.add_mul, Nat.one_mul]
    have e4 : (i + 1) * S = i * S + S := by rw [Nat.add_mul, Nat.one_mul]
    rw [hg j (by omega)]
    by_cases h1 : j < i * S
    · rw [if_pos h1, hCg j (by omega)]
      rw [List.getElem?_append_left (by rw [hL2]; omega), List.getElem?_append_left (by rw [hL1]; omega), List.getElem?_take, if_pos h1] at hj
      exact ⟨B, q9 j d hj⟩
    · rw [if_neg h1]
      by_cases h2 : j < (i + 1) * S
      · rw [if_pos h2, hVg _ (by omega)]
        rw [List.getElem?_append_left (by rw [hL2]; omega), List.getElem?_append_right (by rw [hL1]; omega), hL1] at hj
        exact ⟨B2, p9 _ d (by simpa using hj)⟩
      · rw [if_neg h2, hCg _ (by omega)]
        rw [List.getElem?_append_right (by rw [hL2]; omega), hL2, List.getElem?_drop, show i * S + (j - (i * S + S)) = j - S by omega] at hj
        exact ⟨B, q9 _ d hj⟩
  have hrl : (rows.take i ++ x :: rows.drop i).length = rows.length + 1 := by
    simp only [List.length_append, List.length_take, List.length_cons, List.length_drop]
    omega
  have hr0 : ∀ r ∈ rows.take i ++ x :: rows.drop i, r.length = S := fun r hr => by
    rcases List.mem_append.1 hr with hr | hr
    · exact q8 r (List.mem_of_mem_take hr)
    · rcases List.mem_cons.1 hr with rfl | hr
      · exact hx
      · exact q8 r (List.mem_of_mem_drop hr)
  have hgr' : ∀ r ∈ rows.take i ++ x :: rows.drop i, r.all D.gr = true := fun r hr => by
    rcases List.mem_append.1 hr with hr | hr
    · exact hgr r (List.mem_of_mem_take hr)
    · rcases List.mem_cons.1 hr with rfl | hr
      · exact hgx
      · exact hgr r (List.mem_of_mem_drop hr)
  rw [hvs'] at h ⊢
  obtain ⟨VV, hVV⟩ : ∃ VV : Array Value, VV = #[.slice (some ⟨l.b, l.base, none⟩) rows.length l.tot, .int .i64 (i : Int), .slice (some ⟨l2.b, l2.base, none⟩) 1 l2.tot] := ⟨_, rfl⟩
  have hgrow : ∀ (w' : World) (d : D) (v : Value), (∃ B, Rep w B v d) → (∀ b, b < w.heap.size → w'.heap[b]? = w.heap[b]?) → d.gr = true → ∃ B, Rep w' B v d := fun w' d v ⟨B, hr⟩ _ hg => ⟨B, rep_gr1 hr hg⟩
  have hdgr : ∀ (j : Nat) (d : D), (rows.take i ++ x :: rows.drop i).flatten[j]? = some d → d.gr = true := fun j d hj => by
    obtain ⟨r, hr1, hr2⟩ := List.mem_flatten.1 (List.mem_of_getElem? hj)
    exact (List.all_eq_true.1 (hgr' r hr1)) d hr2
  have e3 : (rows.length + 1) * S = rows.length * S + S := by rw [Nat.add_mul, Nat.one_mul]
  have e4 : (i + 1) * S = i * S + S := by rw [Nat.add_mul, Nat.one_mul]
  have hdl : (C.drop (i * S)).length = rows.length * S - i * S := by rw [List.length_drop, hCl]
  have hm63 : maxLen = 9223372036854775807 := rfl
  by_cases hroom : rows.length + 1 ≤ l.tot
  · have htS2 : (rows.length + 1) * S ≤ l.tot * S := Nat.mul_le_mul_right _ hroom
    refine (insert_shift L l.b l.base rows.length l.tot i l2.b l2.base 1 l2.tot C V w hi (by omega) hroom (by omega) hbb hCl hVl hCc
      (fun j hj => by rw [run_load_at q3 (by show l.base + j < cs.size; omega)]; rfl) (fun j hj => thaw q3) hVc hC1 hV1 (ρ.t 9) (ρ.t 9) cs2.size cs.size (by simp [World.shape?, p3]) (by simp [World.shape?, q3]) (by omega) (thaw p3) (thaw p3)).mono ?_
    rintro e w' ⟨rfl, rfl⟩
    obtain ⟨cs', r1, r2, r3, r4, r5, r6, r7, r8, r9⟩ := setCells_heap P l.b (C.drop (i * S)) (l.base + (i + 1) * S) w.drew cs (ρ.t 9) q3 (by rw [hdl]; omega) (fun v hv => hC1 v (List.mem_of_mem_drop hv))
    obtain ⟨cs'', u1, u2, u3, u4, u5, u6, u7, u8, u9⟩ := setCells_heap P l.b V (l.base + i * S) _ cs' (ρ.t 9) r1 (by rw [hVl, r2]; omega) hV1
    have hd1 : w.drew.drawn = w.drawn + 1 := rfl
    obtain ⟨β', hs⟩ := sim_sameArr (w' := (w.drew.setCells l.b (l.base + (i + 1) * S) (C.drop (i * S))).setCells l.b (l.base + i * S) V) (sep := true) (rows := rows.take i ++ x :: rows.drop i) h (by simp) (ix := 0) rfl q1
      ⟨u6.trans r6, u7.trans r7, u8.trans r8, u5.trans r5, fun b hb => (u4 b hb).trans (r4 b hb), by rw [u9, r9, hd1]; omega⟩ hr0 q7 hgr' u1 (by rw [u2, r2, q4]) (by rw [hrl]; exact hroom) q6
      (fun j d hj => by
        obtain ⟨B', hr⟩ := hnew (fun j => cs''.getD (l.base + j) Go.undef) (fun j hj => by
          show cs''.getD (l.base + j) Go.undef = _
          rw [u3, r3, hVl, hdl]
          by_cases h1 : j < i * S
          · rw [if_pos h1, if_neg (by omega), if_neg (by omega), hCg j (by omega)]
          · rw [if_neg h1]
            by_cases h2 : j < (i + 1) * S
            · rw [if_pos h2, if_pos (by omega)]
              congr 1
              omega
            · rw [if_neg h2, if_neg (by omega), if_pos (by omega)]
              simp only [List.getD_eq_getElem?_getD, List.getElem?_drop]
              congr 2
              omega) j d hj
        exact ⟨B', rep_gr1 hr (hdgr j d hj)⟩) (v := .slice (some ⟨l.b, l.base, none⟩) (rows.length + 1) l.tot) (by rw [hrl])
    exact ⟨_, β', rfl, hs⟩
  · have hbig : (rows.length + 1) * i0.bytes ≤ 140737488355328 := by
      have := Nat.mul_le_mul (show rows.length + 1 ≤ 1048577 by omega) hby
      omega
    refine (insert_grow L l.b l.base rows.length l.tot i l2.b l2.base 1 l2.tot C V w hi (by omega) q5 (by omega) hbig (by omega) hCl hVl hzc hCc hVc hC1 hV1).mono ?_
    rintro e w' ⟨rfl, rfl⟩
    have hG1 := grownCap_ge w (rows.length + 1) l.tot (ρ.t 9)
    have hG2 := grownCap_le_maxLen w (rows.length + 1) l.tot (ρ.t 9) (by omega)
    generalize grownCap w (rows.length + 1) l.tot (ρ.t 9) = G at hG1 hG2 ⊢
    obtain ⟨ROW, hROW⟩ : ∃ ROW : Array Value, ROW = (C.take (i * S)).toArray ++ Builtin.zeroCells zc.cells (rows.length + 1 - i) ++ Builtin.zeroCells zc.cells (G - (rows.length + 1)) := ⟨_, rfl⟩
    rw [← hROW]
    have hRs : ROW.size = G * S := by
      rw [hROW]
      simp only [Array.size_append, size_zeroCells, hzc, List.size_toArray, List.length_take, hCl]
      rw [show min (i * S) (rows.length * S) = i * S by omega, ← Nat.add_mul, ← Nat.add_mul]
      congr 1
      omega
    have hRg : ∀ j, j < i * S → ROW.getD j Go.undef = C.getD j Go.undef := fun j hj => by
      rw [hROW]
      simp only [Array.getD_eq_getD_getElem?, List.getD_eq_getElem?_getD]
      rw [Array.append_assoc, Array.getElem?_append_left (by rw [List.size_toArray, List.length_take, hCl]; omega)]
      simp [hj]
    have hGS : (rows.length + 1) * S ≤ G * S := Nat.mul_le_mul_right _ hG1
    obtain ⟨W1, hW1⟩ : ∃ W1, W1 = (w.alloc (.cells ROW (ρ.t 9))).drew := ⟨_, rfl⟩
    rw [← hW1]
    have hW1at : W1.heap[w.heap.size]? = some (.cells ROW (ρ.t 9) (0, 0)) := by
      rw [hW1]
      show (w.heap.push _)[w.heap.size]? = _
      simp
    have hW1o : ∀ b, b < w.heap.size → W1.heap[b]? = w.heap[b]? := fun b hb => by
      rw [hW1]
      show (w.heap.push _)[b]? = _
      rw [Array.getElem?_push, if_neg (by omega)]
    have hW1s : W1.heap.size = w.heap.size + 1 := by
      rw [hW1]
      show (w.heap.push _).size = _
      simp
    obtain ⟨cs', r1, r2, r3, r4, r5, r6, r7, r8, r9⟩ := setCells_heap P w.heap.size V (i * S) W1 ROW (ρ.t 9) hW1at (by rw [hVl]; omega) hV1
    obtain ⟨cs'', u1, u2, u3, u4, u5, u6, u7, u8, u9⟩ := setCells_heap P w.heap.size (C.drop (i * S)) ((i + 1) * S) (W1.setCells w.heap.size (i * S) V).drew cs' (ρ.t 9) r1 (by rw [hdl, r2]; omega) (fun v hv => hC1 v (List.mem_of_mem_drop hv))
    obtain ⟨W, hW⟩ : ∃ W, W = (W1.setCells w.heap.size (i * S) V).drew.setCells w.heap.size ((i + 1) * S) (C.drop (i * S)) := ⟨_, rfl⟩
    rw [← hW] at u1 u4 u5 u6 u7 u8 u9 ⊢
    have hd1 : W1.drawn = w.drawn + 1 := by rw [hW1]; rfl
    have hd2 : (W1.setCells w.heap.size (i * S) V).drew.drawn = (W1.setCells w.heap.size (i * S) V).drawn + 1 := rfl
    have hfr : Fr w locs W := by
      refine ⟨?_, ?_, ?_, ?_, fun b hb _ => ?_, h.fr.tb, ?_⟩
      · rw [u6]; show (W1.setCells w.heap.size (i * S) V).os = _; rw [r6, hW1]; rfl
      · rw [u7]; show (W1.setCells w.heap.size (i * S) V).tape = _; rw [r7, hW1]; rfl
      · rw [u8]; show (W1.setCells w.heap.size (i * S) V).output = _; rw [r8, hW1]; rfl
      · rw [u5]; show _ ≤ (W1.setCells w.heap.size (i * S) V).heap.size; rw [r5, hW1s]; omega
      · rw [u4 b (by omega)]; show (W1.setCells w.heap.size (i * S) V).heap[b]? = _; rw [r4 b (by omega), hW1o b hb]
      · rw [u9, hd2, r9, hd1]; omega
    obtain ⟨β', hs⟩ := sim_newArr (w' := W) (e := ρ.t 9) (sz := S) (rows := rows.take i ++ x :: rows.drop i) (sep := true) h (by simp) hfr hr0 q7 hgr' (v := .slice (some ⟨w.heap.size, 0, none⟩) (rows.length + 1) G)
      (.inr ⟨G, cs'', by rw [hrl], by rw [u5]; show _ < (W1.setCells w.heap.size (i * S) V).heap.size; rw [r5, hW1s]; omega, u1, by rw [u2, r2, hRs], by rw [hrl]; exact hG1, hG2, fun j d hj => by
        obtain ⟨B', hr⟩ := hnew (fun j => cs''.getD j Go.undef) (fun j hj => by
          show cs''.getD j Go.undef = _
          rw [u3, r3, hVl, hdl]
          by_cases h1 : j < i * S
          · rw [if_pos h1, if_neg (by omega), if_neg (by omega), hRg j h1]
          · rw [if_neg h1]
            by_cases h2 : j < (i + 1) * S
            · rw [if_pos h2, if_neg (by omega), if_pos (by omega)]
            · rw [if_neg h2, if_pos (by omega)]
              simp only [List.getD_eq_getElem?_getD, List.getElem?_drop]
              congr 2
              omega) j d hj
        exact ⟨B', rep_gr1 hr (hdgr j d hj)⟩⟩)
    exact ⟨_, β', rfl, hs⟩

theorem flat_delete {α : Type} {sz : Nat} (rows : List (List α)) (i j : Nat) (hsz : ∀ r ∈ rows, r.length = sz) :
    (rows.take i ++ rows.drop j).flatten = rows.flatten.take (i * sz) ++ rows.flatten.drop (j * sz) := by
  rw [List.flatten_append, flat_take _ hsz, flat_drop _ hsz]

/-- slices.Delete of one element. -/
theorem callOk_delete {P : Program} {ρ : Ren} {S : Nat} {i0 : TypeInfo} {zc : Value} (L : DelL P ρ S i0 zc) (he : Enters P (ρ.f 24)) (hzc : zc.cells.size = S) (hz1 : ∀ v ∈ zc.cells.toList, v.oneCell' = true) {rows : List (List D)} {i : Nat} (hi : i < rows.length)
    (h1r : ∀ r ∈ rows, r.all D.one = true) (hgr : ∀ r ∈ rows, r.all D.gr = true) :
    CallOk P (ρ.f 24) [.arr (ρ.t 9) S rows, .imm (.int .i64 (i : Int)), .imm (.int .i64 ((i + 1 : Nat) : Int))] { res := [.arr (ρ.t 9) S (rows.take i ++ rows.drop (i + 1))] } := by
  refine ⟨he, by simp, fun k o hk => ⟨?_, .inr (.inr (.inl rfl))⟩, fun w A locs β vs h hvs => ?_⟩
  · show o.sub .gone
    exact O.sub_gone o
  obtain ⟨l, cs, q1, q2, q3, q4, q5, q6, q7, q8, B, q9⟩ := lent_arr h (ix := 0) rfl (by omega)
  have s1 : Rep w (Bl A β (inS [.arr (ρ.t 9) S rows, .imm (.int .i64 (i : Int)), .imm (.int .i64 ((i + 1 : Nat) : Int))] vs.size).m) (vs.getD 1 Go.undef) (.int .i64 (i : Int)) := h.slot 1
  have e1 : vs.getD 1 Go.undef = .int .i64 (i : Int) := by
    generalize vs.getD 1 Go.undef = v at s1
    cases s1 with
    | int a b => rfl
  have s2 : Rep w (Bl A β (inS [.arr (ρ.t 9) S rows, .imm (.int .i64 (i : Int)), .imm (.int .i64 ((i + 1 : Nat) : Int))] vs.size).m) (vs.getD 2 Go.undef) (.int .i64 ((i + 1 : Nat) : Int)) := h.slot 2
  have e2 : vs.getD 2 Go.undef = .int .i64 ((i + 1 : Nat) : Int) := by
    generalize vs.getD 2 Go.undef = v at s2
    cases s2 with
    | int a b => rfl
  have hvs' : vs = #[.slice (some ⟨l.b, l.base, none⟩) rows.length l.tot, .int .i64 (i : Int), .int .i64 ((i + 1 : Nat) : Int)] := by
    apply Array.ext (by simpa using hvs)
    intro k h1 h2
    simp at hvs
    have hk : k = 0 ∨ k = 1 ∨ k = 2 := by omega
    rcases hk with rfl | rfl | rfl
    · simpa [Array.getD, h1] using q2
    · simpa [Array.getD, h1] using e1
    · simpa [Array.getD, h1] using e2
  obtain ⟨C, hC⟩ : ∃ C : List Value, C = (List.range (rows.length * S)).map (fun j => cs.getD (l.base + j) Go.undef) := ⟨_, rfl⟩
  have hCl : C.length = rows.length * S := by rw [hC]; simp
  have hCg : ∀ j, j < rows.length * S → C.getD j Go.undef = cs.getD (l.base + j) Go.undef := fun j hj => by
    rw [hC]
    simp only [List.getD_eq_getElem?_getD, List.getElem?_map, List.getElem?_range hj, Option.map_some, Option.getD_some]
  have hrS : rows.length * S ≤ l.tot * S := Nat.mul_le_mul_right _ q5
  have hCc : ∀ j v, C[j]? = some v → w.cell? ⟨l.b, l.base + j, none⟩ = some v := fun j v hj => by
    have hjl := (List.getElem?_eq_some_iff.1 hj).1
    rw [run_load_at q3 (by show l.base + j < cs.size; omega)]
    have := hCg j (by omega)
    rw [List.getD_eq_getElem?_getD, hj] at this
    exact congrArg some this.symm
  have hC1 : ∀ v ∈ C, v.oneCell' = true := by rw [hC]; exact rows_cells q9 q8 h1r
  have hfl : rows.flatten.length = rows.length * S := flat_len rows q8
  have hflat := flat_delete rows i (i + 1) q8
  have hiS : (i + 1) * S ≤ rows.length * S := Nat.mul_le_mul_right _ (by omega)
  have e4 : (i + 1) * S = i * S + S := by rw [Nat.add_mul, Nat.one_mul]
  have e5 : (rows.length - 1) * S + S = rows.length * S := by
    have : (rows.length - 1 + 1) * S = rows.length * S := by congr 1; omega
    rwa [Nat.add_mul, Nat.one_mul] at this
  have hrl : (rows.take i ++ rows.drop (i + 1)).length = rows.length - 1 := by
    simp only [List.length_append, List.length_take, List.length_drop]
    omega
  have hr0 : ∀ r ∈ rows.take i ++ rows.drop (i + 1), r.length = S := fun r hr => by
    rcases List.mem_append.1 hr with hr | hr
    · exact q8 r (List.mem_of_mem_take hr)
    · exact q8 r (List.mem_of_mem_drop hr)
  have hgr' : ∀ r ∈ rows.take i ++ rows.drop (i + 1), r.all D.gr = true := fun r hr => by
    rcases List.mem_append.1 hr with hr | hr
    · exact hgr r (List.mem_of_mem_take hr)
    · exact hgr r (List.mem_of_mem_drop hr)
  have hdgr : ∀ (j : Nat) (d : D), (rows.take i ++ rows.drop (i + 1)).flatten[j]? = some d → d.gr = true := fun j d hj => by
    obtain ⟨r, hr1, hr2⟩ := List.mem_flatten.1 (List.mem_of_getElem? hj)
    exact (List.all_eq_true.1 (hgr' r hr1)) d hr2
  rw [hvs'] at h ⊢
  have hm63 : maxLen = 9223372036854775807 := rfl
  have hdl : (C.drop ((i + 1) * S)).length = rows.length * S - (i + 1) * S := by rw [List.length_drop, hCl]
  refine (delete_run L l.b l.base rows.length l.tot i (i + 1) C w (by omega) (by omega) q5 (by omega) hCl hzc hz1 hCc (fun j hj => thaw q3) hC1).mono ?_
  rintro e w' ⟨rfl, rfl⟩
  obtain ⟨cs', r1, r2, r3, r4, r5, r6, r7, r8, r9⟩ := setCells_heap P l.b (C.drop ((i + 1) * S)) (l.base + i * S) w.drew cs (ρ.t 9) q3 (by rw [hdl]; omega) (fun v hv => hC1 v (List.mem_of_mem_drop hv))
  have en : i + (rows.length - (i + 1)) = rows.length - 1 := by omega
  rw [en, show rows.length - (rows.length - 1) = 1 by omega, show rows.length - (i + 1 - i) = rows.length - 1 by omega]
  have hZl : (Builtin.zeroCells zc.cells 1).toList.length = S := by rw [Array.length_toList, size_zeroCells, hzc, Nat.one_mul]
  have hZ1 : ∀ v ∈ (Builtin.zeroCells zc.cells 1).toList, v.oneCell' = true := by
    intro v hv'
    simp only [Builtin.zeroCells, Array.mem_toList_iff, Array.mem_map, Array.mem_range] at hv'
    obtain ⟨k, hk, rfl⟩ := hv'
    have hp : 0 < zc.cells.size := by omega
    have hlt := Nat.mod_lt k hp
    rw [getElem!_pos zc.cells _ hlt]
    exact hz1 _ (by simp)
  obtain ⟨cs'', u1, u2, u3, u4, u5, u6, u7, u8, u9⟩ := setCells_heap P l.b (Builtin.zeroCells zc.cells 1).toList (l.base + (rows.length - 1) * S) _ cs' (ρ.t 9) r1 (by rw [hZl, r2]; omega) hZ1
  have hd1 : w.drew.drawn = w.drawn + 1 := rfl
  obtain ⟨β', hs⟩ := sim_sameArr (sep := true) (rows := rows.take i ++ rows.drop (i + 1)) h (by simp) (ix := 0) rfl q1
    ⟨u6.trans r6, u7.trans r7, u8.trans r8, u5.trans r5, fun b hb => (u4 b hb).trans (r4 b hb), by rw [u9, r9, hd1]; omega⟩ hr0 q7 hgr' u1 (by rw [u2, r2, q4]) (by rw [hrl]; omega) q6
    (fun j d hj => by
      have hg := hdgr j d hj
      rw [hflat] at hj
      have hL1 : (rows.flatten.take (i * S)).length = i * S := by rw [List.length_take, hfl]; omega
      have hL3 : (rows.flatten.drop ((i + 1) * S)).length = rows.length * S - (i + 1) * S := by rw [List.length_drop, hfl]
      have hjl := (List.getElem?_eq_some_iff.1 hj).1
      rw [List.length_append, hL1, hL3] at hjl
      rw [u3, r3, hZl, hdl]
      by_cases h1 : j < i * S
      · rw [if_neg (by omega), if_neg (by omega)]
        rw [List.getElem?_append_left (by rw [hL1]; omega), List.getElem?_take, if_pos h1] at hj
        exact ⟨B, rep_gr1 (q9 j d hj) hg⟩
      · rw [if_neg (by omega), if_pos (by omega)]
        rw [List.getElem?_append_right (by rw [hL1]; omega), hL1, List.getElem?_drop] at hj
        have hc := hCg ((i + 1) * S + (j - i * S)) (by omega)
        have e6 : (C.drop ((i + 1) * S)).getD (l.base + j - (l.base + i * S)) Go.undef = cs.getD (l.base + ((i + 1) * S + (j - i * S))) Go.undef := by
          rw [← hc]
          simp only [List.getD_eq_getElem?_getD, List.getElem?_drop]
          congr 2
          omega
        rw [e6]
        exact ⟨B, rep_gr1 (q9 _ d hj) hg⟩) (v := .slice (some ⟨l.b, l.base, none⟩) (rows.length - 1) l.tot) (by rw [hrl])
  exact ⟨_, β', rfl, hs⟩
end Go.Am

