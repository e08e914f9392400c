/- Marks of lines, told by their blocks. -/
import Derived.Test.YtfjphbjbobojbaaX1
namespace Go.Proofs.Ytfjphbjbobojbaa
open Go Go.Am
set_option maxRecDepth 100000
set_option maxHeartbeats 4000000
attribute [local irreducible] amOps amC opCall opIndexAddr opPick retQ opMake opStore amDraw opAppend opLoad opNilCmp opIndex opSlice xQ

def cLn (l : Line) : Nat := 1 + l.stops.length + l.runs.length
def cLns (ls : List Line) : Nat := (ls.map cLn).sum
def mLn (k : Int) (l : Line) : Line := ⟨mText k, marksIntX (k + 1) l.stops.length, marksIntX (k + 1 + l.stops.length) l.runs.length⟩
def mLns (k : Int) : List Line → List Line
  | [] => []
  | l :: ls => mLn k l :: mLns (k + cLn l) ls
theorem mLns_len : ∀ (ls : List Line) (k : Int), (mLns k ls).length = ls.length
  | [], _ => rfl
  | l :: ls, k => by simp [mLns, mLns_len ls]
theorem cLns_take (ls : List Line) (i : Nat) : cLns (ls.take i) ≤ cLns ls := by
  unfold cLns
  conv => rhs; rw [← List.take_append_drop i ls]
  rw [List.map_append, List.sum_append]
  omega
theorem cLns_next {ls : List Line} {i : Nat} {l : Line} (h : ls[i]? = some l) : cLns (ls.take (i + 1)) = cLns (ls.take i) + cLn l := by
  unfold cLns
  rw [List.take_add_one, h]
  simp
theorem cLns_all {ls : List Line} {i : Nat} (h : ls.length ≤ i) : cLns (ls.take i) = cLns ls := by rw [List.take_of_length_le h]
theorem mLns_at : ∀ {ls : List Line} {k : Int} {i : Nat} {l : Line}, ls[i]? = some l → (mLns k ls)[i]? = some (mLn (k + (cLns (ls.take i) : Nat)) l)
  | [], k, i, l, h => by simp at h
  | x :: ls, k, 0, l, h => by
    simp at h
    subst h
    simp [mLns, cLns]
  | x :: ls, k, i + 1, l, h => by
    have := mLns_at (ls := ls) (k := k + cLn x) (i := i) (l := l) (by simpa using h)
    simp only [mLns, List.getElem?_cons_succ, List.take_succ_cons]
    rw [this]
    congr 2
    simp only [cLns, List.map_cons, List.sum_cons]
    omega

/-- The slices with their marks. -/
def mZ (k : Int) (ls : List Line) (zs : List (Cell × Cell)) : List (Cell × Cell) := List.zipWith (fun z l => ((z.1.1, l.stops.map intRow), (z.2.1, l.runs.map intRow))) zs (mLns k ls)
theorem mZ_len {k : Int} {ls : List Line} {zs : List (Cell × Cell)} (h : ZOk ls zs) : (mZ k ls zs).length = zs.length := by
  have := h.len
  unfold mZ
  rw [List.length_zipWith, mLns_len]; omega
theorem mZ_at {k : Int} {ls : List Line} {zs : List (Cell × Cell)} {i : Nat} {z : Cell × Cell} {l : Line} (hz : zs[i]? = some z) (hl : ls[i]? = some l) :
    (mZ k ls zs)[i]? = some ((z.1.1, (marksIntX (k + (cLns (ls.take i) : Nat) + 1) l.stops.length).map intRow), (z.2.1, (marksIntX (k + (cLns (ls.take i) : Nat) + 1 + l.stops.length) l.runs.length).map intRow)) := by
  unfold mZ
  rw [List.getElem?_zipWith, hz, mLns_at hl]
  rfl
theorem mZ_ok {k : Int} {ls : List Line} {zs : List (Cell × Cell)} (h : ZOk ls zs) : ZOk (mLns k ls) (mZ k ls zs) := by
  have hl := h.len
  have hm := mLns_len ls k
  refine List.ext_getElem? fun i => ?_
  unfold mZ
  rw [List.getElem?_map, List.getElem?_map, List.getElem?_zipWith]
  cases hz : zs[i]? with
  | none =>
    have h1 := List.getElem?_eq_none_iff.1 hz
    rw [List.getElem?_eq_none (by omega)]
    rfl
  | some z =>
    have h1 := (List.getElem?_eq_some_iff.1 hz).1
    obtain ⟨l, hx⟩ : ∃ l, (mLns k ls)[i]? = some l := ⟨_, List.getElem?_eq_getElem (by omega)⟩
    rw [hx]
    rfl
theorem lRows_mZ {k : Int} {ls : List Line} {zs : List (Cell × Cell)} (h : ZOk ls zs) (ns : List ByteArray) : lRows ns (mZ k ls zs) = lRows ns zs := by
  have hl := h.len
  have hm := mLns_len ls k
  unfold lRows
  refine List.ext_getElem? fun i => ?_
  rw [List.getElem?_zipWith, List.getElem?_zipWith]
  cases hz : zs[i]? with
  | none =>
    have h1 := List.getElem?_eq_none_iff.1 hz
    rw [show (mZ k ls zs)[i]? = none from List.getElem?_eq_none (by rw [mZ_len h]; exact h1)]
  | some z =>
    have h1 := (List.getElem?_eq_some_iff.1 hz).1
    obtain ⟨l, hx⟩ : ∃ l, ls[i]? = some l := ⟨_, List.getElem?_eq_getElem (by omega)⟩
    rw [mZ_at hz hx]
    cases ns[i]? <;> rfl
theorem nmL_len (ls : List Line) : (nmL ls).length = ls.length := List.length_map _
theorem nmL_at {ls : List Line} {i : Nat} {l : Line} (h : ls[i]? = some l) : (nmL ls)[i]? = some l.name := by simp [nmL, h]
theorem lRows_set {ns : List ByteArray} {zs : List (Cell × Cell)} {i : Nat} {n n' : ByteArray} {z : Cell × Cell} (hn : ns[i]? = some n) (hz : zs[i]? = some z) : (lRows ns zs).set i ((lRow n z).set 0 (.str n')) = lRows (ns.set i n') zs := by
  unfold lRows
  refine List.ext_getElem? fun j => ?_
  rw [List.getElem?_set, List.getElem?_zipWith, List.getElem?_zipWith, List.getElem?_set]
  have hil := (List.getElem?_eq_some_iff.1 hn).1
  have hzl := (List.getElem?_eq_some_iff.1 hz).1
  by_cases e : i = j
  · subst e
    rw [if_pos rfl, if_pos rfl, if_pos (by rw [List.length_zipWith]; omega), if_pos hil, hz]
    rfl
  · rw [if_neg e, if_neg e]
theorem lRows_three (ns : List ByteArray) (zs : List (Cell × Cell)) : ∀ r ∈ lRows ns zs, r.length = 3 := fun r hr => by
  obtain ⟨i, hi⟩ := List.getElem?_of_mem hr
  unfold lRows at hi
  rw [List.getElem?_zipWith] at hi
  cases hn : ns[i]? <;> cases hz : zs[i]? <;> rw [hn, hz] at hi <;> first | (simp at hi; done) | (injection hi with hi; subst hi; rfl)

theorem x83 (xs : List Int) (k : Int) (h0 : 0 ≤ k) (h1 : k ≤ 576460752303423488) (hl : xs.length ≤ 1048576) :
    XOk Try.prog 83 (XI.ext (FlatI 3 1 (xs.map intRow)) (FlatI 3 1 ((marksIntX k xs.length).map intRow))) [.int .i64 k] (XR.imm (.int .i64 (k + xs.length))) [] := by
  have e := kAt_eq (k := k) h0 (1 * xs.length) (by omega)
  rw [Nat.one_mul] at e
  rw [← e, ← Nat.one_mul xs.length]
  have := xOk_lent (ds := [.int .i64 k]) (c83 xs k h0 h1 hl) rfl (by simp [marksIntX]) (List.all_eq_true.2 (int_gr _))
  simpa using this
theorem x55 (xs : List ByteArray) (k : Int) (h0 : 0 ≤ k) (h1 : k ≤ 576460752303423488) (hl : xs.length ≤ 1048576) :
    XOk Try.prog 55 (XI.ext (FlatI 9 1 (xs.map strRow)) (FlatI 9 1 ((marksStrX k xs.length).map strRow))) [.int .i64 k] (XR.imm (.int .i64 (k + xs.length))) [] := by
  have e := kAt_eq (k := k) h0 (1 * xs.length) (by omega)
  rw [Nat.one_mul] at e
  rw [← e, ← Nat.one_mul xs.length]
  have := xOk_lent (ds := [.int .i64 k]) (c55 xs k h0 h1 hl) rfl (by simp [marksStrX]) (List.all_eq_true.2 (str_gr _))
  simpa using this
theorem x28 (xs : List Trip) (k : Int) (h0 : 0 ≤ k) (h1 : k ≤ 576460752303423488) (hl : xs.length ≤ 1048576) :
    XOk Try.prog 28 (XI.ext (FlatI 54 3 (xs.map Trip.enc)) (FlatI 54 3 ((marksTrip k xs.length).map Trip.enc))) [.int .i64 k] (XR.imm (.int .i64 (k + (3 * xs.length : Nat)))) [] := by
  have e := kAt_eq (k := k) h0 (3 * xs.length) (by omega)
  rw [← e]
  exact xOk_lent (ds := [.int .i64 k]) (c28 xs k h0 h1 hl) rfl (by simp [marksTrip]) (List.all_eq_true.2 (trip_gr _))

theorem join_inn {ti j : Nat} {xs : List Cell} {v : Value} {r : List (List D)} {ys : List Cell} (hy : xs.set j (v, r) = ys) : ∀ w F1 F2, ExtAt (InnO ti 1 xs j) w F1 → ExtAt (FlatI ti 1 r v) w F2 → (∀ b, ¬ (F1 b ∧ F2 b)) → ExtAt (InnI ti 1 ys) w fun b => F1 b ∨ F2 b := by
  subst hy
  exact fun _ _ _ h1 h2 hd => (InnO.put h1.now h2.now fun b hb => hd b ⟨hb.2, hb.1⟩).ext

theorem add2 {a : Addr} (h : a.spot = none) (x y : Nat) : (a.add x).add y = ⟨a.block, a.off + x + y, none⟩ := by rw [add_spot h, add_spot rfl]

/-- Closing with lines. -/
theorem close_lines {σ : S} {id1 id2 : Nat} {v : Value} {ls : List Line} {zs : List (Cell × Cell)} (h1 : σ.m id1 = some (.ext (FlatI 90 3 (lRows (nmL ls) zs) v))) (h2 : σ.m id2 = some (.ext (InnI 3 1 (flatZ zs)))) (hne : Nat.beq id1 id2 = false) (hz : ZOk ls zs) :
    CloseX σ [id1, id2] (.imm (.other v)) .other (LinesI ls) := by
  intro w0 A locs β a w u hS hu
  have hu : u = v := rep_oth hu
  subst hu
  have o1 : ExtAt _ w (foot (β id1)) := hS.ob id1 _ h1
  have o2 : ExtAt _ w (foot (β id2)) := hS.ob id2 _ h2
  have hn : id1 ≠ id2 := by
    intro e
    rw [e, Nat.beq_refl] at hne
    cases hne
  refine ⟨fun _ _ => .other _, LinesI.ext ⟨zs, foot (β id1), foot (β id2), hz, fun b hb => ?_, fun b ⟨⟨l, a1, a2⟩, l2, b1, b2⟩ => hn (hS.inj id1 id2 _ _ l l2 b h1 rfl a1 h2 rfl b1 a2 b2), o1.now, o2.now⟩⟩
  rcases hb with ⟨l, a1, a2⟩ | ⟨l, a1, a2⟩
  · exact ⟨id1, by simp, _, l, h1, rfl, a1, a2⟩
  · exact ⟨id2, by simp, _, l, h2, rfl, a1, a2⟩

theorem x56 (ls : List Line) (k : Int) (h0 : 0 ≤ k) (h1 : k + cLns ls ≤ 576460752303423488) (hl : ls.length ≤ 1048576) (hlf : ∀ l ∈ ls, l.fit) :
    XOk Try.prog 56 (XI.ext (LinesI ls) (LinesI (mLns k ls))) [.int .i64 k] (XR.imm (.int .i64 (k + cLns ls))) [] := by
  refine xOk_of tyOk Try.func56 rfl rfl (le_of_ble rfl) ?_
  intro v0
  repeat' first | (refine go_split tyOk (X := { zs : List (Cell × Cell) // ZOk ls zs ∧ ShapeX v0 (lRows (nmL ls) zs).length }) (id := 0) (id1 := 1000) (id2 := 1001) (I1 := fun x => FlatI 90 3 (lRows (nmL ls) x.1) v0) (I2 := fun x => InnI 3 1 (flatZ x.1)) rfl rfl rfl rfl (fun w F hF => by obtain ⟨zs, F0, F1, q1, q2, q3, q4, q5⟩ := hF.now; exact ⟨⟨zs, q1, q4.shapeX⟩, F0, F1, q2, q3, q4.ext, q5.ext⟩) ?_; rintro ⟨zs, hzs, hsh⟩; obtain ⟨oad, cap, rfl, hsp⟩ := hsh; conv => whnf) | refine go_seq ?_ | refine go_region ?_ | refine go_miss rfl rfl rfl ?_ | refine go_undef rfl rfl rfl ?_ | refine go_draw drawsOk ?_ | ((first | refine go_op rfl ?_ | refine go_nil ?_ | refine go_hit rfl rfl rfl ?_ | refine go_splitT rfl rfl rfl (fun h => ?_) (fun h => ?_) | refine go_splitF rfl rfl rfl (fun h => ?_) (fun h => ?_) | refine go_storeBox rfl rfl rfl rfl rfl rfl ?_ | refine go_dop rfl ?_ | refine go_dhit rfl rfl ?_ | refine go_dmiss rfl rfl ?_ | refine go_dundef rfl rfl ?_ | refine go_dend (by kernel_rfl) ?_ | refine go_pickT rfl ?_ | refine go_pickF rfl ?_ | refine go_pick rfl (fun h => ?_) (fun h => ?_)) <;> conv => whnf) | ((first | refine Or.inl ?_ | refine go_dsplit2 rfl (fun h => ?_) (fun h => ?_) | refine go_loadB ?_ | refine ⟨by kernel_rfl, ?_⟩ | refine go_ret ?_) <;> conv => whnf) | refine go_block ?_ | ((first | refine go_skip ?_ | refine go_exit ?_) <;> conv => whnf) | refine go_true rfl ?_ | refine go_false rfl ?_ | refine go_cond rfl (fun h => ?_) (fun h => ?_) | refine ⟨rfl, ?_⟩ | ((first | refine ⟨trivial, ?_⟩ | refine ⟨le_of_ble rfl, ?_⟩) <;> conv => whnf) | fail
  have hzl := hzs.len
  have hol := lRows_len hzs
  have hNl : (nmL (mLns k ls)).length = (nmL ls).length := by rw [nmL_len, nmL_len, mLns_len]
  have hZl := mZ_len (k := k) hzs
  refine go_loop (α := Nat) (fun i => i ≤ ls.length) (fun i => ls.length - i)
    (fun i => st Try.f56.ntmps [(0, .imm (.other (.slice oad (lRows (nmL ls) zs).length cap))), (1, .imm (.int .i64 (k + (cLns (ls.take i) : Nat)))), (5, .imm (.int .i64 (i : Nat)))]
      [(1000, .ext (FlatI 90 3 (lRows (upto (nmL (mLns k ls)) (nmL ls) i) zs) (.slice oad (lRows (nmL ls) zs).length cap))), (1001, .ext (InnI 3 1 (flatZ (upto (mZ k ls zs) zs i)))), (1002, .gone)] [1002]) 0 (Nat.zero_le _) ?_ ?_
  · refine ref_st (fun y => if y = 1002 then 0 else y) rfl ⟨rfl, ?_, rfl, trivial⟩ ⟨?_, ?_, rfl, trivial⟩ (by simp) rfl (by simp [lookM])
    · show AV.imm _ = AV.imm _
      simp [cLns]
    · rw [upto_0]; rfl
    · rw [upto_0]; rfl
  intro i hi
  cases hx : ls[i]? with
  | none =>
    have hge := le_of_at hx
    rw [cLns_all hge, upto_end hNl (by rw [nmL_len]; exact hge), upto_end hZl (by omega)]
    repeat' first | (refine go_ext (ext_lenX tyOk rfl rfl rfl ?_); conv => whnf) | refine go_seq ?_ | refine go_region ?_ | refine go_miss rfl rfl rfl ?_ | refine go_undef rfl rfl rfl ?_ | refine go_draw drawsOk ?_ | ((first | refine go_op rfl ?_ | refine go_nil ?_ | refine go_hit rfl rfl rfl ?_ | refine go_splitT rfl rfl rfl (fun h => ?_) (fun h => ?_) | refine go_splitF rfl rfl rfl (fun h => ?_) (fun h => ?_) | refine go_storeBox rfl rfl rfl rfl rfl rfl ?_ | refine go_dop rfl ?_ | refine go_dhit rfl rfl ?_ | refine go_dmiss rfl rfl ?_ | refine go_dundef rfl rfl ?_ | refine go_dend (by kernel_rfl) ?_ | refine go_pickT rfl ?_ | refine go_pickF rfl ?_ | refine go_pick rfl (fun h => ?_) (fun h => ?_)) <;> conv => whnf) | ((first | refine Or.inl ?_ | refine go_dsplit2 rfl (fun h => ?_) (fun h => ?_) | refine go_loadB ?_ | refine ⟨by kernel_rfl, ?_⟩ | refine go_ret ?_) <;> conv => whnf) | refine go_block ?_ | ((first | refine go_skip ?_ | refine go_exit ?_) <;> conv => whnf) | refine go_true rfl ?_ | refine go_false rfl ?_ | refine go_cond rfl (fun h => ?_) (fun h => ?_) | refine ⟨rfl, ?_⟩ | ((first | refine ⟨trivial, ?_⟩ | refine ⟨le_of_ble rfl, ?_⟩) <;> conv => whnf) | fail
    all_goals first
      | (refine ret_x (av := .imm (.int .i64 (k + (cLns ls : Nat)))) [] [1000, 1001] rfl rfl (by intro e; cases e) rfl rfl (close_imm rfl) (close_lines (zs := mZ k ls zs) (by rw [lRows_mZ hzs]; rfl) rfl rfl (mZ_ok hzs)) (by simp)
         done)
      | (exfalso; have h' := of_decide_eq_false h; omega)
      | (exfalso; have h' := of_decide_eq_true h; omega)
      | (exfalso; rename_i hq; have h' := of_decide_eq_true hq; omega)
      | (exfalso; rename_i hq; have h' := of_decide_eq_false hq; omega)
      | (exfalso; rename_i hq _; have h' := of_decide_eq_true hq; omega)
      | (exfalso; rename_i hq _; have h' := of_decide_eq_false hq; omega)
      | (exfalso; simp at h; omega)
      | trace_state
  | some l =>
    have hlt := lt_of_at hx
    obtain ⟨b, o, hb⟩ := hsp (by omega)
    subst hb
    obtain ⟨z, hz⟩ : ∃ z, zs[i]? = some z := ⟨_, List.getElem?_eq_getElem (by omega)⟩
    obtain ⟨hz1, hz2⟩ := hzs.at hz hx
    have hfit := hlf l (List.mem_of_getElem? hx)
    have hc1 := cLns_take ls (i + 1)
    have hcn := cLns_next hx
    have hcl : cLn l = 1 + l.stops.length + l.runs.length := rfl
    generalize hK : k + ((cLns (ls.take i) : Nat) : Int) = K at *
    have hK1 : k + ((cLns (ls.take (i + 1)) : Nat) : Int) = K + 1 + l.stops.length + l.runs.length := by rw [hcn]; omega
    have hw : IntKind.i64.wrap (K + 1) = K + 1 := wrap_small (by omega) (by omega)
    have hT := c82 K (by omega)
    have hX1 : XOk Try.prog 83 (XI.ext (FlatI 3 1 z.1.2) (FlatI 3 1 ((marksIntX (K + 1) l.stops.length).map intRow))) [.int .i64 (IntKind.i64.wrap (K + 1))] (XR.imm (.int .i64 (K + 1 + l.stops.length))) [] := by
      rw [hw, hz1]
      exact x83 l.stops (K + 1) (by omega) (by omega) hfit.2.1
    have hX2 : XOk Try.prog 83 (XI.ext (FlatI 3 1 z.2.2) (FlatI 3 1 ((marksIntX (K + 1 + l.stops.length) l.runs.length).map intRow))) [.int .i64 (K + 1 + l.stops.length)] (XR.imm (.int .i64 (K + 1 + l.stops.length + l.runs.length))) [] := by
      rw [hz2]
      exact x83 l.runs (K + 1 + l.stops.length) (by omega) (by omega) hfit.2.2
    have hmz := mZ_at (k := k) hz hx
    rw [hK] at hmz
    have hupz := upto_at hZl hz
    have hsz := upto_set hZl hz hmz
    have hup1 := (flatZ_at hupz).1
    have hup2 : ((flatZ (upto (mZ k ls zs) zs i)).set (2 * i) (z.1.1, (marksIntX (K + 1) l.stops.length).map intRow))[2 * i + 1]? = some z.2 := by
      rw [List.getElem?_set_ne (by omega)]
      exact (flatZ_at hupz).2
    have hjoin : ((flatZ (upto (mZ k ls zs) zs i)).set (2 * i) (z.1.1, (marksIntX (K + 1) l.stops.length).map intRow)).set (2 * i + 1) (z.2.1, (marksIntX (K + 1 + l.stops.length) l.runs.length).map intRow) = flatZ (upto (mZ k ls zs) zs (i + 1)) := by
      rw [← hsz]
      exact flatZ_set (a := ((z.1.1, (marksIntX (K + 1) l.stops.length).map intRow), (z.2.1, (marksIntX (K + 1 + l.stops.length) l.runs.length).map intRow))) hupz
    have hnm := nmL_at hx
    have hnm2 : (nmL (mLns k ls))[i]? = some (mText K) := by rw [nmL_at (mLns_at hx), hK]; rfl
    have hun := upto_at hNl hnm
    have hus := upto_set hNl hnm hnm2
    have hrow := lRows_at hun hz
    have hrow2 : (lRows (upto (nmL (mLns k ls)) (nmL ls) (i + 1)) zs)[i]? = some (lRow (mText K) z) := by
      refine lRows_at ?_ hz
      rw [← hus, List.getElem?_set_self (by rw [upto_len hNl, nmL_len]; exact hlt)]
    have hset : (lRows (upto (nmL (mLns k ls)) (nmL ls) i) zs).set i ((lRow l.name z).set 0 (.str (mText K))) = lRows (upto (nmL (mLns k ls)) (nmL ls) (i + 1)) zs := by rw [lRows_set hun hz, hus]
    have hwr := fun w F (h : FlatI 90 3 (lRows (upto (nmL (mLns k ls)) (nmL ls) i) zs) (.slice (some ⟨b, o, none⟩) (lRows (nmL ls) zs).length cap) w F) => (hset ▸ FlatI.write (dd := .str (mText K)) (c := 0) hrow (by omega) h : _)
    have hl1 := flat_at _ (lRows_three _ _) i _ hrow2 1 (.other z.1.1) rfl
    have hl2 := flat_at _ (lRows_three _ _) i _ hrow2 2 (.other z.2.1) rfl
    have hld1 := fun w F (h : FlatI 90 3 (lRows (upto (nmL (mLns k ls)) (nmL ls) (i + 1)) zs) (.slice (some ⟨b, o, none⟩) (lRows (nmL ls) zs).length cap) w F) => flat_load (o' := o + ((i : Nat) : Int).toNat * ty90.size + 1) hl1 (by show _ + _ * 3 + 1 = _; omega) h
    have hld2 := fun w F (h : FlatI 90 3 (lRows (upto (nmL (mLns k ls)) (nmL ls) (i + 1)) zs) (.slice (some ⟨b, o, none⟩) (lRows (nmL ls) zs).length cap) w F) => flat_load (o' := o + ((i : Nat) : Int).toNat * ty90.size + 2) hl2 (by show _ + _ * 3 + 2 = _; omega) h
    repeat' first | (refine go_ext (ext_lenX tyOk rfl rfl rfl ?_); conv => whnf) | (refine go_ext (ext_idxX tyOk rfl rfl rfl rfl (by omega) (by omega) rfl ?_); conv => whnf) | (refine go_ext (ext_fieldX tyOk rfl rfl rfl rfl ?_); conv => whnf) | (refine go_ext (ext_storeX (id := 1000) (id' := 6000) (I' := FlatI 90 3 (lRows (upto (nmL (mLns k ls)) (nmL ls) (i + 1)) zs) (.slice (some ⟨b, o, none⟩) (lRows (nmL ls) zs).length cap)) tyOk rfl (add2 rfl _ _) rfl rfl rfl rfl rfl rfl rfl hwr ?_); conv => whnf) | (refine go_ext (ext_loadX (id := 6000) tyOk rfl (add2 rfl _ _) rfl rfl rfl hld1 rfl ?_); conv => whnf) | (refine go_ext (ext_loadX (id := 6000) tyOk rfl (add2 rfl _ _) rfl rfl rfl hld2 rfl ?_); conv => whnf) | (refine go_ext (ext_xcall hX1 [1001] (InnO 3 1 (flatZ (upto (mZ k ls zs) zs i)) (2 * i)) (v := z.1.1) [] (look2 (look_imm _ _ _) (look_imm _ _ _)) (by simp) (.inl rfl) (split_inn rfl hup1) (have1 rfl) rfl rfl rfl rfl ?_); intro rr; conv => whnf) | (refine go_join tyOk (id1 := rid 5 26 2) (id2 := rid 5 26 1) (id3 := 5000) rfl rfl rfl rfl (join_inn rfl) ?_; conv => whnf) | (refine go_ext (ext_xcall hX2 [5000] (InnO 3 1 ((flatZ (upto (mZ k ls zs) zs i)).set (2 * i) (z.1.1, (marksIntX (K + 1) l.stops.length).map intRow)) (2 * i + 1)) (v := z.2.1) [] (look2 (look_imm _ _ _) (look_imm _ _ _)) (by simp) (.inl rfl) (split_inn rfl hup2) (have1 rfl) rfl rfl rfl rfl ?_); intro rr2; conv => whnf) | refine go_seq ?_ | refine go_region ?_ | refine go_miss rfl rfl rfl ?_ | refine go_undef rfl rfl rfl ?_ | refine go_draw drawsOk ?_ | ((first | refine go_op rfl ?_ | refine go_nil ?_ | refine go_hit rfl rfl rfl ?_ | refine go_splitT rfl rfl rfl (fun h => ?_) (fun h => ?_) | refine go_splitF rfl rfl rfl (fun h => ?_) (fun h => ?_) | refine go_storeBox rfl rfl rfl rfl rfl rfl ?_ | refine go_dop rfl ?_ | refine go_dhit rfl rfl ?_ | refine go_dmiss rfl rfl ?_ | refine go_dundef rfl rfl ?_ | refine go_dend (by kernel_rfl) ?_ | refine go_pickT rfl ?_ | refine go_pickF rfl ?_ | refine go_pick rfl (fun h => ?_) (fun h => ?_) | refine go_call [] (hT) rfl rfl rfl rfl ?_) <;> conv => whnf) | ((first | refine Or.inl ?_ | refine go_dsplit2 rfl (fun h => ?_) (fun h => ?_) | refine go_loadB ?_ | refine ⟨by kernel_rfl, ?_⟩ | refine go_ret ?_) <;> conv => whnf) | refine go_block ?_ | ((first | refine go_skip ?_ | refine go_exit ?_) <;> conv => whnf) | refine go_true rfl ?_ | refine go_false rfl ?_ | refine go_cond rfl (fun h => ?_) (fun h => ?_) | refine ⟨rfl, ?_⟩ | ((first | refine ⟨trivial, ?_⟩ | refine ⟨le_of_ble rfl, ?_⟩) <;> conv => whnf) | fail
    all_goals first
      | (refine go_next (i + 1) (by omega) (by omega) (Ref.trans (ref_joinX (id1 := rid 6 33 2) (id2 := rid 6 33 1) (id3 := 7000) rfl rfl rfl rfl (join_inn hjoin)) (ref_st (fun y => if y = 1000 then 6000 else if y = 1001 then 7000 else y) rfl ⟨rfl, ?_, next_i (by omega), trivial⟩ ⟨rfl, rfl, rfl, trivial⟩ (by simp) rfl (by simp [lookM])))
         rw [hK1]
         rfl)
      | (exfalso; have h' := of_decide_eq_false h; omega)
      | (exfalso; have h' := of_decide_eq_true h; omega)
      | (exfalso; rename_i hq; have h' := of_decide_eq_true hq; omega)
      | (exfalso; rename_i hq; have h' := of_decide_eq_false hq; omega)
      | (exfalso; rename_i hq _; have h' := of_decide_eq_true hq; omega)
      | (exfalso; rename_i hq _; have h' := of_decide_eq_false hq; omega)
      | (exfalso; simp at h; omega)
      | trace_state
end Go.Proofs.Ytfjphbjbobojbaa

