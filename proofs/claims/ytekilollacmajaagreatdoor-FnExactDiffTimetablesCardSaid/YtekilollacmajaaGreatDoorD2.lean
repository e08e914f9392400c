/- The differences of two timetables: the reference's, and the law. -/
import Derived.Test.YtekilollacmajaaGreatDoorD1
namespace Go.Proofs.YtekilollacmajaaGreatDoor
open Go Go.Am Go.Proofs
set_option maxRecDepth 100000
set_option maxHeartbeats 8000000
attribute [local irreducible] amOps amC opCall opIndexAddr opPick retQ opMake opStore amDraw opAppend opLoad opNilCmp opIndex opSlice

/-- The reference's merge, on its way. -/
structure MInv (us bs : List Trip) (p : Nat × Nat × List Change) : Prop where
  i : p.1 ≤ us.length
  k : p.2.1 ≤ bs.length
  len : p.2.2.length ≤ p.1 + p.2.1
  eq : mrgD us bs = (mrgD (us.drop p.1) (bs.drop p.2.1)).map (p.2.2 ++ ·)

theorem mInv0 (us bs : List Trip) : MInv us bs (0, 0, []) := ⟨Nat.zero_le _, Nat.zero_le _, Nat.le_refl _, by cases h : mrgD us bs <;> simp [h]⟩
section
variable {us bs : List Trip} {i k : Nat} {out : List Change} {x y : Trip}
theorem map_cons (o : Option (List Change)) (out : List Change) (c : Change) : ((o.map (c :: ·)).map (out ++ ·)) = o.map ((out ++ [c]) ++ ·) := by cases o <;> simp
theorem MInv.last (h : MInv us bs (i, k, out)) (hx : us[i]? = none) (hy : bs[k]? = none) : mrgD us bs = some out := by
  have := h.eq
  simp only at this
  rw [drop_no hx, drop_no hy, mrgD] at this
  rw [this]; simp
theorem MInv.rem (h : MInv us bs (i, k, out)) (hx : us[i]? = some x) (hy : bs[k]? = none) : MInv us bs (i + 1, k, out ++ [chgR x]) := by
  have h1 := lt_of_at hx
  have h2 := h.len
  have h3 := h.eq
  simp only at h2 h3
  refine ⟨by show i + 1 ≤ _; omega, h.k, by simp only [List.length_append, List.length_cons, List.length_nil]; omega, ?_⟩
  simp only
  rw [h3, drop_at hx, drop_no hy, mrgD, map_cons]
theorem MInv.add (h : MInv us bs (i, k, out)) (hx : us[i]? = none) (hy : bs[k]? = some y) : MInv us bs (i, k + 1, out ++ [chgA y]) := by
  have h1 := lt_of_at hy
  have h2 := h.len
  have h3 := h.eq
  simp only at h2 h3
  refine ⟨h.i, by show k + 1 ≤ _; omega, by simp only [List.length_append, List.length_cons, List.length_nil]; omega, ?_⟩
  simp only
  rw [h3, drop_at hy, drop_no hx, mrgD, map_cons]
theorem MInv.lo (h : MInv us bs (i, k, out)) (hx : us[i]? = some x) (hy : bs[k]? = some y) (hlt : x.id < y.id) : MInv us bs (i + 1, k, out ++ [chgR x]) := by
  have h1 := lt_of_at hx
  have h2 := h.len
  have h3 := h.eq
  simp only at h2 h3
  refine ⟨by show i + 1 ≤ _; omega, h.k, by simp only [List.length_append, List.length_cons, List.length_nil]; omega, ?_⟩
  simp only
  rw [h3, drop_at hx, drop_at hy, mrgD, if_pos hlt, map_cons]
theorem MInv.hi (h : MInv us bs (i, k, out)) (hx : us[i]? = some x) (hy : bs[k]? = some y) (hlt : y.id < x.id) : MInv us bs (i, k + 1, out ++ [chgA y]) := by
  have h1 := lt_of_at hy
  have h2 := h.len
  have h3 := h.eq
  simp only at h2 h3
  refine ⟨h.i, by show k + 1 ≤ _; omega, by simp only [List.length_append, List.length_cons, List.length_nil]; omega, ?_⟩
  simp only
  rw [h3, drop_at hx, drop_at hy, mrgD, if_neg (by omega), if_pos hlt, map_cons]
theorem MInv.bad (h : MInv us bs (i, k, out)) (hx : us[i]? = some x) (hy : bs[k]? = some y) (he : x.id = y.id) (hl : x.line ≠ y.line) : mrgD us bs = none := by
  have h3 := h.eq
  simp only at h3
  rw [h3, drop_at hx, drop_at hy, mrgD, if_neg (by omega), if_neg (by omega), if_pos hl]
  rfl
theorem MInv.mv (h : MInv us bs (i, k, out)) (hx : us[i]? = some x) (hy : bs[k]? = some y) (he : x.id = y.id) (hl : x.line = y.line) (hs : x.start ≠ y.start) : MInv us bs (i + 1, k + 1, out ++ [chgM x y]) := by
  have h1 := lt_of_at hx
  have h1' := lt_of_at hy
  have h2 := h.len
  have h3 := h.eq
  simp only at h2 h3
  refine ⟨by show i + 1 ≤ _; omega, by show k + 1 ≤ _; omega, by simp only [List.length_append, List.length_cons, List.length_nil]; omega, ?_⟩
  simp only
  rw [h3, drop_at hx, drop_at hy, mrgD, if_neg (by omega), if_neg (by omega), if_neg (not_not_intro hl)]
  simp only [if_pos hs]
  exact map_cons _ _ _
theorem MInv.same (h : MInv us bs (i, k, out)) (hx : us[i]? = some x) (hy : bs[k]? = some y) (he : x.id = y.id) (hl : x.line = y.line) (hs : x.start = y.start) : MInv us bs (i + 1, k + 1, out) := by
  have h1 := lt_of_at hx
  have h1' := lt_of_at hy
  have h2 := h.len
  have h3 := h.eq
  simp only at h2 h3
  refine ⟨by show i + 1 ≤ _; omega, by show k + 1 ≤ _; omega, by simp only; omega, ?_⟩
  simp only
  rw [h3, drop_at hx, drop_at hy, mrgD, if_neg (by omega), if_neg (by omega), if_neg (not_not_intro hl)]
  simp only [if_neg (not_not_intro hs)]
  cases mrgD (us.drop (i + 1)) (bs.drop (k + 1)) <;> simp
end

theorem c5 (a b : Timetable) (hfa : a.fit) (hfb : b.fit) : CallOk Tryz.prog 5 [.imm (.agg a.enc), .imm (.agg b.enc)] { res := [.arr 52 5 ((dfL a b).map Change.enc), .imm (.bool (dfOk a b))] } := by
  refine callOk_of tyOk Tryz.func5 rfl rfl (le_of_ble rfl) (le_of_ble rfl) (mutOk_imm rfl _) ?_
  have h0 := c15 a hfa
  have h1 := c15 b hfb
  cases ha : ttOk a with
  | false =>
    have hn := df_none (df_not (a := a) (b := b) (by unfold dfB; rw [ha]; rfl))
    rw [ha] at h0
    rw [hn.1, hn.2]
    repeat' first | refine go_seq ?_ | refine go_region ?_ | refine go_miss rfl rfl rfl ?_ | refine go_undef rfl rfl rfl ?_ | refine go_draw drawsOk ?_ | ((first | refine go_op rfl ?_ | refine go_nil ?_ | refine go_hit rfl rfl rfl ?_ | refine go_splitT rfl rfl rfl (fun h => ?_) (fun h => ?_) | refine go_splitF rfl rfl rfl (fun h => ?_) (fun h => ?_) | refine go_dop rfl ?_ | refine go_dhit rfl rfl ?_ | refine go_dmiss rfl rfl ?_ | refine go_dundef rfl rfl ?_ | refine go_dend (by kernel_rfl) ?_ | refine go_pickT rfl ?_ | refine go_pickF rfl ?_ | refine go_pick rfl (fun h => ?_) (fun h => ?_) | refine go_call [] (h0) rfl rfl rfl rfl ?_ | refine go_call [] (h1) rfl rfl rfl rfl ?_) <;> conv => whnf) | ((first | refine Or.inl ?_ | refine go_dsplit2 rfl (fun h => ?_) (fun h => ?_) | refine go_loadB ?_ | refine ⟨by kernel_rfl, ?_⟩ | refine go_ret ?_) <;> conv => whnf) | refine go_block ?_ | ((first | refine go_skip ?_ | refine go_exit ?_) <;> conv => whnf) | refine go_true rfl ?_ | refine go_false rfl ?_ | refine go_cond rfl (fun h => ?_) (fun h => ?_) | refine ⟨rfl, ?_⟩ | ((first | refine ⟨trivial, ?_⟩ | refine ⟨le_of_ble rfl, ?_⟩) <;> conv => whnf) | fail
    all_goals first
      | exact ret_arr2 rfl rfl rfl rfl rfl rfl (by intro r hr; cases hr) rfl rfl rfl
      | (exfalso; rw [List.length_map] at h; have h2 := of_decide_eq_false h; omega)
      | (exfalso; simp at h; done)
      | (exfalso; simp only [List.length_map, decide_eq_false_iff_not, decide_eq_true_eq] at *; omega)
      | trace_state
  | true =>
  cases hb : ttOk b with
  | false =>
    have hn := df_none (df_not (a := a) (b := b) (by unfold dfB; rw [ha, hb]; rfl))
    rw [ha] at h0
    rw [hb] at h1
    rw [hn.1, hn.2]
    repeat' first | refine go_seq ?_ | refine go_region ?_ | refine go_miss rfl rfl rfl ?_ | refine go_undef rfl rfl rfl ?_ | refine go_draw drawsOk ?_ | ((first | refine go_op rfl ?_ | refine go_nil ?_ | refine go_hit rfl rfl rfl ?_ | refine go_splitT rfl rfl rfl (fun h => ?_) (fun h => ?_) | refine go_splitF rfl rfl rfl (fun h => ?_) (fun h => ?_) | refine go_dop rfl ?_ | refine go_dhit rfl rfl ?_ | refine go_dmiss rfl rfl ?_ | refine go_dundef rfl rfl ?_ | refine go_dend (by kernel_rfl) ?_ | refine go_pickT rfl ?_ | refine go_pickF rfl ?_ | refine go_pick rfl (fun h => ?_) (fun h => ?_) | refine go_call [] (h0) rfl rfl rfl rfl ?_ | refine go_call [] (h1) rfl rfl rfl rfl ?_) <;> conv => whnf) | ((first | refine Or.inl ?_ | refine go_dsplit2 rfl (fun h => ?_) (fun h => ?_) | refine go_loadB ?_ | refine ⟨by kernel_rfl, ?_⟩ | refine go_ret ?_) <;> conv => whnf) | refine go_block ?_ | ((first | refine go_skip ?_ | refine go_exit ?_) <;> conv => whnf) | refine go_true rfl ?_ | refine go_false rfl ?_ | refine go_cond rfl (fun h => ?_) (fun h => ?_) | refine ⟨rfl, ?_⟩ | ((first | refine ⟨trivial, ?_⟩ | refine ⟨le_of_ble rfl, ?_⟩) <;> conv => whnf) | fail
    all_goals first
      | exact ret_arr2 rfl rfl rfl rfl rfl rfl (by intro r hr; cases hr) rfl rfl rfl
      | (exfalso; rw [List.length_map] at h; have h2 := of_decide_eq_false h; omega)
      | (exfalso; simp at h; done)
      | (exfalso; simp only [List.length_map, decide_eq_false_iff_not, decide_eq_true_eq] at *; omega)
      | trace_state
  | true =>
  rw [ha] at h0
  rw [hb] at h1
  have h2 := c16 a.net hfa.1 (tt_net ha)
  have h3 := c16 b.net hfb.1 (tt_net hb)
  by_cases hne : netT a.net = netT b.net
  case neg =>
    have hn := df_none (df_not (a := a) (b := b) (by unfold dfB; rw [ha, hb, decide_eq_false hne]; rfl))
    rw [hn.1, hn.2]
    have hs := str_ne hne
    repeat' first | refine go_seq ?_ | refine go_region ?_ | refine go_miss rfl rfl rfl ?_ | refine go_undef rfl rfl rfl ?_ | refine go_draw drawsOk ?_ | ((first | refine go_op rfl ?_ | refine go_nil ?_ | refine go_hit rfl rfl rfl ?_ | refine go_splitT rfl rfl rfl (fun h => ?_) (fun h => ?_) | refine go_splitF rfl rfl rfl (fun h => ?_) (fun h => ?_) | refine go_dop rfl ?_ | refine go_dhit rfl rfl ?_ | refine go_dmiss rfl rfl ?_ | refine go_dundef rfl rfl ?_ | refine go_dend (by kernel_rfl) ?_ | refine go_pickT rfl ?_ | refine go_pickF rfl ?_ | refine go_pick rfl (fun h => ?_) (fun h => ?_) | refine go_call [] (h0) rfl rfl rfl rfl ?_ | refine go_call [] (h1) rfl rfl rfl rfl ?_ | refine go_call [] (h2) rfl rfl rfl rfl ?_ | refine go_call [] (h3) rfl rfl rfl rfl ?_) <;> conv => whnf) | ((first | refine Or.inl ?_ | refine go_dsplit2 rfl (fun h => ?_) (fun h => ?_) | refine go_loadB ?_ | refine ⟨by kernel_rfl, ?_⟩ | refine go_ret ?_) <;> conv => whnf) | refine go_block ?_ | ((first | refine go_skip ?_ | refine go_exit ?_) <;> conv => whnf) | refine go_true rfl ?_ | refine go_false rfl ?_ | refine go_cond rfl (fun h => ?_) (fun h => ?_) | refine ⟨rfl, ?_⟩ | ((first | refine ⟨trivial, ?_⟩ | refine ⟨le_of_ble rfl, ?_⟩) <;> conv => whnf) | fail
    all_goals first
      | exact ret_arr2 rfl rfl rfl rfl rfl rfl (by intro r hr; cases hr) rfl rfl rfl
      | (exfalso; rw [hs] at h; cases h; done)
      | (exfalso; rw [List.length_map] at h; have h2 := of_decide_eq_false h; omega)
      | (exfalso; simp at h; done)
      | (exfalso; simp only [List.length_map, decide_eq_false_iff_not, decide_eq_true_eq] at *; omega)
      | trace_state
  have hm := df_mrg (a := a) (b := b) (by unfold dfB; rw [ha, hb, decide_eq_true hne]; rfl)
  have hla := tt_trips ha
  have hlb := tt_trips hb
  rw [← hne] at h3
  repeat' first | refine go_seq ?_ | refine go_region ?_ | refine go_miss rfl rfl rfl ?_ | refine go_undef rfl rfl rfl ?_ | refine go_draw drawsOk ?_ | ((first | refine go_op rfl ?_ | refine go_nil ?_ | refine go_hit rfl rfl rfl ?_ | refine go_splitT rfl rfl rfl (fun h => ?_) (fun h => ?_) | refine go_splitF rfl rfl rfl (fun h => ?_) (fun h => ?_) | refine go_dop rfl ?_ | refine go_dhit rfl rfl ?_ | refine go_dmiss rfl rfl ?_ | refine go_dundef rfl rfl ?_ | refine go_dend (by kernel_rfl) ?_ | refine go_pickT rfl ?_ | refine go_pickF rfl ?_ | refine go_pick rfl (fun h => ?_) (fun h => ?_) | refine go_call [] (h0) rfl rfl rfl rfl ?_ | refine go_call [] (h1) rfl rfl rfl rfl ?_ | refine go_call [] (h2) rfl rfl rfl rfl ?_ | refine go_call [] (h3) rfl rfl rfl rfl ?_) <;> conv => whnf) | ((first | refine Or.inl ?_ | refine go_dsplit2 rfl (fun h => ?_) (fun h => ?_) | refine go_loadB ?_ | refine ⟨by kernel_rfl, ?_⟩ | refine go_ret ?_) <;> conv => whnf) | refine go_block ?_ | ((first | refine go_skip ?_ | refine go_exit ?_) <;> conv => whnf) | refine go_true rfl ?_ | refine go_false rfl ?_ | refine go_cond rfl (fun h => ?_) (fun h => ?_) | refine ⟨rfl, ?_⟩ | ((first | refine ⟨trivial, ?_⟩ | refine ⟨le_of_ble rfl, ?_⟩) <;> conv => whnf) | fail
  all_goals try first
    | (exfalso; rw [str_self] at h; cases h; done)
    | (exfalso; simp [str_self] at h; done)
    | (exfalso; rw [List.length_map] at h; have h2 := of_decide_eq_false h; omega)
    | (exfalso; simp at h; done)
  refine go_loop (α := Nat × Nat × List Change) (MInv a.trips b.trips) (fun p => (a.trips.length - p.1) + (b.trips.length - p.2.1))
    (fun p => st Tryz.f5.ntmps [(2, .box 1000 0), (3, .box 1001 0), (6, .own 1002 0 (p.2.2.map Change.enc).length), (7, .imm (.int .i64 (p.1 : Nat))), (8, .imm (.int .i64 (p.2.1 : Nat)))]
      [(1000, .box 38 (a.enc.map .imm)), (1001, .box 38 (b.enc.map .imm)), (1002, .arr 52 5 (p.2.2.map Change.enc))] []) (0, 0, []) (mInv0 _ _) ?_ ?_
  · exact ref_st (fun y => if y = 1000 then nid 1 2 else if y = 1001 then nid 1 3 else nid 2 9) rfl ⟨⟨rfl, rfl⟩, ⟨rfl, rfl⟩, ⟨rfl, rfl⟩, rfl, rfl, trivial⟩ ⟨⟨rfl, wavs_imm _⟩, ⟨rfl, wavs_imm _⟩, rfl, trivial⟩ (by simp [nid]) rfl (by simp)
  rintro ⟨i, k, out⟩ hI
  have i1 := hI.i
  have i2 := hI.k
  have i3 := hI.len
  simp only at i1 i2 i3
  have hbd : (out.map Change.enc).length + 1 ≤ 1073741824 := by rw [List.length_map]; omega
  have hml : (out.map Change.enc).length = out.length := List.length_map _
  cases hx : a.trips[i]? with
  | none =>
    have hge := le_of_at hx
    cases hy : b.trips[k]? with
    | none =>
      have hge2 := le_of_at hy
      rw [hI.last hx hy] at hm
      simp only at hm
      by_cases hbig : 24 < out.length
      · omega
      rw [if_neg hbig] at hm
      have hgood := df_some hm
      rw [hgood.1, hgood.2]
      repeat' first | refine go_seq ?_ | refine go_region ?_ | refine go_miss rfl rfl rfl ?_ | refine go_undef rfl rfl rfl ?_ | refine go_draw drawsOk ?_ | ((first | refine go_op rfl ?_ | refine go_nil ?_ | refine go_hit rfl rfl rfl ?_ | refine go_splitT rfl rfl rfl (fun h => ?_) (fun h => ?_) | refine go_splitF rfl rfl rfl (fun h => ?_) (fun h => ?_) | refine go_dop rfl ?_ | refine go_dhit rfl rfl ?_ | refine go_dmiss rfl rfl ?_ | refine go_dundef rfl rfl ?_ | refine go_dend (by kernel_rfl) ?_ | refine go_pickT rfl ?_ | refine go_pickF rfl ?_ | refine go_pick rfl (fun h => ?_) (fun h => ?_)) <;> conv => whnf) | ((first | refine Or.inl ?_ | refine go_dsplit2 rfl (fun h => ?_) (fun h => ?_) | refine go_loadB ?_ | refine ⟨by kernel_rfl, ?_⟩ | refine go_ret ?_) <;> conv => whnf) | refine go_block ?_ | ((first | refine go_skip ?_ | refine go_exit ?_) <;> conv => whnf) | refine go_true rfl ?_ | refine go_false rfl ?_ | refine go_cond rfl (fun h => ?_) (fun h => ?_) | refine ⟨rfl, ?_⟩ | ((first | refine ⟨trivial, ?_⟩ | refine ⟨le_of_ble rfl, ?_⟩) <;> conv => whnf) | fail
      all_goals first
        | exact ret_arr2 rfl rfl rfl rfl rfl (by rw [List.drop_zero, List.take_length]) (change_gr _) rfl rfl rfl
        | (exfalso; have h' := of_decide_eq_false h; omega)
        | (exfalso; have h' := of_decide_eq_true h; omega)
        | (exfalso; rename_i hq; have h' := of_decide_eq_true hq; omega)
        | (exfalso; rename_i hq; have h' := of_decide_eq_false hq; omega)
        | (exfalso; rename_i hq _; have h' := of_decide_eq_true hq; omega)
        | (exfalso; rename_i hq _; have h' := of_decide_eq_false hq; omega)
        | (exfalso; rw [List.length_map] at h; have h2 := of_decide_eq_false h; omega)
        | (exfalso; simp at h; done)
        | (exfalso; simp at h; omega)
        | (exfalso; simp only [List.length_map, decide_eq_false_iff_not, decide_eq_true_eq] at *; omega)
        | trace_state
    | some y =>
      have hlt2 := lt_of_at hy
      have hry := row_at Trip.enc hy
      have hone := change_one [chgA y]
      repeat' first | refine go_seq ?_ | refine go_region ?_ | refine go_miss rfl rfl rfl ?_ | refine go_undef rfl rfl rfl ?_ | refine go_draw drawsOk ?_ | ((first | refine go_op rfl ?_ | refine go_nil ?_ | refine go_hit rfl rfl rfl ?_ | refine go_splitT rfl rfl rfl (fun h => ?_) (fun h => ?_) | refine go_splitF rfl rfl rfl (fun h => ?_) (fun h => ?_) | refine go_dop rfl ?_ | refine go_dhit rfl rfl ?_ | refine go_dmiss rfl rfl ?_ | refine go_dundef rfl rfl ?_ | refine go_dend (by kernel_rfl) ?_ | refine go_pickT rfl ?_ | refine go_pickF rfl ?_ | refine go_pick rfl (fun h => ?_) (fun h => ?_) | refine go_idx rfl rfl rfl rfl (by omega) hry rfl ?_ | refine go_append (rows2 := [chgA y].map Change.enc) rfl rfl rfl rfl rfl rfl rfl rfl rfl rfl rfl rfl hone rfl rfl rfl hbd ?_) <;> conv => whnf) | ((first | refine Or.inl ?_ | refine go_dsplit2 rfl (fun h => ?_) (fun h => ?_) | refine go_loadB ?_ | refine ⟨by kernel_rfl, ?_⟩ | refine go_ret ?_) <;> conv => whnf) | refine go_block ?_ | ((first | refine go_skip ?_ | refine go_exit ?_) <;> conv => whnf) | refine go_true rfl ?_ | refine go_false rfl ?_ | refine go_cond rfl (fun h => ?_) (fun h => ?_) | refine ⟨rfl, ?_⟩ | ((first | refine ⟨trivial, ?_⟩ | refine ⟨le_of_ble rfl, ?_⟩) <;> conv => whnf) | fail
      all_goals first
        | (refine go_next (i, k + 1, out ++ [chgA y]) (hI.add hx hy) (by show (a.trips.length - i) + (b.trips.length - (k + 1)) < (a.trips.length - i) + (b.trips.length - k); omega) (ref_st (fun y => if y = 1002 then nid 5 154 else y) rfl ⟨⟨rfl, rfl⟩, ⟨rfl, rfl⟩, ⟨?_, rfl⟩, rfl, next_i (i := k) (by omega), trivial⟩ ⟨⟨rfl, wavs_imm _⟩, ⟨rfl, wavs_imm _⟩, ?_, trivial⟩ (by simp [nid]) rfl (by simp))
           · show AV.own _ _ _ = AV.own _ _ _
             rw [List.map_append, List.length_append]; try rfl
           · rw [List.map_append]; rfl)
        | (exfalso; have h' := of_decide_eq_false h; omega)
        | (exfalso; have h' := of_decide_eq_true h; omega)
        | (exfalso; rename_i hq; have h' := of_decide_eq_true hq; omega)
        | (exfalso; rename_i hq; have h' := of_decide_eq_false hq; omega)
        | (exfalso; rename_i hq _; have h' := of_decide_eq_true hq; omega)
        | (exfalso; rename_i hq _; have h' := of_decide_eq_false hq; omega)
        | (exfalso; rw [List.length_map] at h; have h2 := of_decide_eq_false h; omega)
        | (exfalso; simp at h; done)
        | (exfalso; simp at h; omega)
        | (exfalso; simp only [List.length_map, decide_eq_false_iff_not, decide_eq_true_eq] at *; omega)
        | trace_state
  | some x =>
    have hlt := lt_of_at hx
    have hrx := row_at Trip.enc hx
    cases hy : b.trips[k]? with
    | none =>
      have hge2 := le_of_at hy
      have hone := change_one [chgR x]
      repeat' first | refine go_seq ?_ | refine go_region ?_ | refine go_miss rfl rfl rfl ?_ | refine go_undef rfl rfl rfl ?_ | refine go_draw drawsOk ?_ | ((first | refine go_op rfl ?_ | refine go_nil ?_ | refine go_hit rfl rfl rfl ?_ | refine go_splitT rfl rfl rfl (fun h => ?_) (fun h => ?_) | refine go_splitF rfl rfl rfl (fun h => ?_) (fun h => ?_) | refine go_dop rfl ?_ | refine go_dhit rfl rfl ?_ | refine go_dmiss rfl rfl ?_ | refine go_dundef rfl rfl ?_ | refine go_dend (by kernel_rfl) ?_ | refine go_pickT rfl ?_ | refine go_pickF rfl ?_ | refine go_pick rfl (fun h => ?_) (fun h => ?_) | refine go_idx rfl rfl rfl rfl (by omega) hrx rfl ?_ | refine go_append (rows2 := [chgR x].map Change.enc) rfl rfl rfl rfl rfl rfl rfl rfl rfl rfl rfl rfl hone rfl rfl rfl hbd ?_) <;> conv => whnf) | ((first | refine Or.inl ?_ | refine go_dsplit2 rfl (fun h => ?_) (fun h => ?_) | refine go_loadB ?_ | refine ⟨by kernel_rfl, ?_⟩ | refine go_ret ?_) <;> conv => whnf) | refine go_block ?_ | ((first | refine go_skip ?_ | refine go_exit ?_) <;> conv => whnf) | refine go_true rfl ?_ | refine go_false rfl ?_ | refine go_cond rfl (fun h => ?_) (fun h => ?_) | refine ⟨rfl, ?_⟩ | ((first | refine ⟨trivial, ?_⟩ | refine ⟨le_of_ble rfl, ?_⟩) <;> conv => whnf) | fail
      all_goals first
        | (refine go_next (i + 1, k, out ++ [chgR x]) (hI.rem hx hy) (by show (a.trips.length - (i + 1)) + (b.trips.length - k) < (a.trips.length - i) + (b.trips.length - k); omega) (ref_st (fun y => if y = 1002 then nid 4 122 else y) rfl ⟨⟨rfl, rfl⟩, ⟨rfl, rfl⟩, ⟨?_, rfl⟩, next_i (i := i) (by omega), rfl, trivial⟩ ⟨⟨rfl, wavs_imm _⟩, ⟨rfl, wavs_imm _⟩, ?_, trivial⟩ (by simp [nid]) rfl (by simp))
           · show AV.own _ _ _ = AV.own _ _ _
             rw [List.map_append, List.length_append]; try rfl
           · rw [List.map_append]; rfl)
        | (exfalso; have h' := of_decide_eq_false h; omega)
        | (exfalso; have h' := of_decide_eq_true h; omega)
        | (exfalso; rename_i hq; have h' := of_decide_eq_true hq; omega)
        | (exfalso; rename_i hq; have h' := of_decide_eq_false hq; omega)
        | (exfalso; rename_i hq _; have h' := of_decide_eq_true hq; omega)
        | (exfalso; rename_i hq _; have h' := of_decide_eq_false hq; omega)
        | (exfalso; rw [List.length_map] at h; have h2 := of_decide_eq_false h; omega)
        | (exfalso; simp at h; done)
        | (exfalso; simp at h; omega)
        | (exfalso; simp only [List.length_map, decide_eq_false_iff_not, decide_eq_true_eq] at *; omega)
        | trace_state
    | some y =>
      have hlt2 := lt_of_at hy
      have hry := row_at Trip.enc hy
      rcases Int.lt_trichotomy x.id y.id with hlo | heq | hhi
      · have hone := change_one [chgR x]
        have hd1 : decide (x.id < y.id) = true := decide_eq_true hlo
        repeat' first | refine go_seq ?_ | refine go_region ?_ | refine go_miss rfl rfl rfl ?_ | refine go_undef rfl rfl rfl ?_ | refine go_draw drawsOk ?_ | ((first | refine go_op rfl ?_ | refine go_nil ?_ | refine go_hit rfl rfl rfl ?_ | refine go_splitT rfl rfl rfl (fun h => ?_) (fun h => ?_) | refine go_splitF rfl rfl rfl (fun h => ?_) (fun h => ?_) | refine go_dop rfl ?_ | refine go_dhit rfl rfl ?_ | refine go_dmiss rfl rfl ?_ | refine go_dundef rfl rfl ?_ | refine go_dend (by kernel_rfl) ?_ | refine go_pickT rfl ?_ | refine go_pickF rfl ?_ | refine go_pick rfl (fun h => ?_) (fun h => ?_) | refine go_idx rfl rfl rfl rfl (by omega) hrx rfl ?_ | refine go_idx rfl rfl rfl rfl (by omega) hry rfl ?_ | refine go_append (rows2 := [chgR x].map Change.enc) rfl rfl rfl rfl rfl rfl rfl rfl rfl rfl rfl rfl hone rfl rfl rfl hbd ?_) <;> conv => whnf) | ((first | refine Or.inl ?_ | refine go_dsplit2 rfl (fun h => ?_) (fun h => ?_) | refine go_loadB ?_ | refine ⟨by kernel_rfl, ?_⟩ | refine go_ret ?_) <;> conv => whnf) | refine go_block ?_ | ((first | refine go_skip ?_ | refine go_exit ?_) <;> conv => whnf) | refine go_true rfl ?_ | refine go_false rfl ?_ | refine go_cond rfl (fun h => ?_) (fun h => ?_) | refine ⟨rfl, ?_⟩ | ((first | refine ⟨trivial, ?_⟩ | refine ⟨le_of_ble rfl, ?_⟩) <;> conv => whnf) | fail
        all_goals first
          | (refine go_next (i + 1, k, out ++ [chgR x]) (hI.lo hx hy hlo) (by show (a.trips.length - (i + 1)) + (b.trips.length - k) < (a.trips.length - i) + (b.trips.length - k); omega) (ref_st (fun y => if y = 1002 then nid 4 122 else y) rfl ⟨⟨rfl, rfl⟩, ⟨rfl, rfl⟩, ⟨?_, rfl⟩, next_i (i := i) (by omega), rfl, trivial⟩ ⟨⟨rfl, wavs_imm _⟩, ⟨rfl, wavs_imm _⟩, ?_, trivial⟩ (by simp [nid]) rfl (by simp))
             · show AV.own _ _ _ = AV.own _ _ _
               rw [List.map_append, List.length_append]; try rfl
             · rw [List.map_append]; rfl)
          | (exfalso; have h' := of_decide_eq_false h; omega)
          | (exfalso; have h' := of_decide_eq_true h; omega)
          | (exfalso; rename_i hq; have h' := of_decide_eq_true hq; omega)
          | (exfalso; rename_i hq; have h' := of_decide_eq_false hq; omega)
          | (exfalso; rename_i hq _; have h' := of_decide_eq_true hq; omega)
          | (exfalso; rename_i hq _; have h' := of_decide_eq_false hq; omega)
          | (exfalso; rw [List.length_map] at h; have h2 := of_decide_eq_false h; omega)
          | (exfalso; simp at h; done)
          | (exfalso; simp at h; omega)
          | (exfalso; simp_all; done)
          | (exfalso; simp_all; omega)
          | (exfalso; simp only [List.length_map, decide_eq_false_iff_not, decide_eq_true_eq] at *; omega)
          | trace_state
      · by_cases hl : x.line = y.line
        · by_cases hs : x.start = y.start
          · skip
            repeat' first | refine go_seq ?_ | refine go_region ?_ | refine go_miss rfl rfl rfl ?_ | refine go_undef rfl rfl rfl ?_ | refine go_draw drawsOk ?_ | ((first | refine go_op rfl ?_ | refine go_nil ?_ | refine go_hit rfl rfl rfl ?_ | refine go_splitT rfl rfl rfl (fun h => ?_) (fun h => ?_) | refine go_splitF rfl rfl rfl (fun h => ?_) (fun h => ?_) | refine go_dop rfl ?_ | refine go_dhit rfl rfl ?_ | refine go_dmiss rfl rfl ?_ | refine go_dundef rfl rfl ?_ | refine go_dend (by kernel_rfl) ?_ | refine go_pickT rfl ?_ | refine go_pickF rfl ?_ | refine go_pick rfl (fun h => ?_) (fun h => ?_) | refine go_idx rfl rfl rfl rfl (by omega) hrx rfl ?_ | refine go_idx rfl rfl rfl rfl (by omega) hry rfl ?_) <;> conv => whnf) | ((first | refine Or.inl ?_ | refine go_dsplit2 rfl (fun h => ?_) (fun h => ?_) | refine go_loadB ?_ | refine ⟨by kernel_rfl, ?_⟩ | refine go_ret ?_) <;> conv => whnf) | refine go_block ?_ | ((first | refine go_skip ?_ | refine go_exit ?_) <;> conv => whnf) | refine go_true rfl ?_ | refine go_false rfl ?_ | refine go_cond rfl (fun h => ?_) (fun h => ?_) | refine ⟨rfl, ?_⟩ | ((first | refine ⟨trivial, ?_⟩ | refine ⟨le_of_ble rfl, ?_⟩) <;> conv => whnf) | fail
            all_goals first
              | exact go_next (i + 1, k + 1, out) (hI.same hx hy heq hl hs) (by show (a.trips.length - (i + 1)) + (b.trips.length - (k + 1)) < (a.trips.length - i) + (b.trips.length - k); omega) (ref_st id rfl ⟨⟨rfl, rfl⟩, ⟨rfl, rfl⟩, ⟨rfl, rfl⟩, next_i (i := i) (by omega), next_i (i := k) (by omega), trivial⟩ ⟨⟨rfl, wavs_imm _⟩, ⟨rfl, wavs_imm _⟩, rfl, trivial⟩ (by simp [nid]) rfl (by simp))
              | (exfalso; have h' := of_decide_eq_false h; omega)
              | (exfalso; have h' := of_decide_eq_true h; omega)
              | (exfalso; rename_i hq; have h' := of_decide_eq_true hq; omega)
              | (exfalso; rename_i hq; have h' := of_decide_eq_false hq; omega)
              | (exfalso; rename_i hq _; have h' := of_decide_eq_true hq; omega)
              | (exfalso; rename_i hq _; have h' := of_decide_eq_false hq; omega)
              | (exfalso; rw [List.length_map] at h; have h2 := of_decide_eq_false h; omega)
              | (exfalso; simp at h; done)
              | (exfalso; simp at h; omega)
              | (exfalso; simp_all; done)
              | (exfalso; simp_all; omega)
              | (exfalso; simp only [List.length_map, decide_eq_false_iff_not, decide_eq_true_eq] at *; omega)
              | trace_state
          · have hone := change_one [chgM x y]
            repeat' first | refine go_seq ?_ | refine go_region ?_ | refine go_miss rfl rfl rfl ?_ | refine go_undef rfl rfl rfl ?_ | refine go_draw drawsOk ?_ | ((first | refine go_op rfl ?_ | refine go_nil ?_ | refine go_hit rfl rfl rfl ?_ | refine go_splitT rfl rfl rfl (fun h => ?_) (fun h => ?_) | refine go_splitF rfl rfl rfl (fun h => ?_) (fun h => ?_) | refine go_dop rfl ?_ | refine go_dhit rfl rfl ?_ | refine go_dmiss rfl rfl ?_ | refine go_dundef rfl rfl ?_ | refine go_dend (by kernel_rfl) ?_ | refine go_pickT rfl ?_ | refine go_pickF rfl ?_ | refine go_pick rfl (fun h => ?_) (fun h => ?_) | refine go_idx rfl rfl rfl rfl (by omega) hrx rfl ?_ | refine go_idx rfl rfl rfl rfl (by omega) hry rfl ?_ | refine go_append (rows2 := [chgM x y].map Change.enc) rfl rfl rfl rfl rfl rfl rfl rfl rfl rfl rfl rfl hone rfl rfl rfl hbd ?_) <;> conv => whnf) | ((first | refine Or.inl ?_ | refine go_dsplit2 rfl (fun h => ?_) (fun h => ?_) | refine go_loadB ?_ | refine ⟨by kernel_rfl, ?_⟩ | refine go_ret ?_) <;> conv => whnf) | refine go_block ?_ | ((first | refine go_skip ?_ | refine go_exit ?_) <;> conv => whnf) | refine go_true rfl ?_ | refine go_false rfl ?_ | refine go_cond rfl (fun h => ?_) (fun h => ?_) | refine ⟨rfl, ?_⟩ | ((first | refine ⟨trivial, ?_⟩ | refine ⟨le_of_ble rfl, ?_⟩) <;> conv => whnf) | fail
            all_goals first
              | (refine go_next (i + 1, k + 1, out ++ [chgM x y]) (hI.mv hx hy heq hl hs) (by show (a.trips.length - (i + 1)) + (b.trips.length - (k + 1)) < (a.trips.length - i) + (b.trips.length - k); omega) (ref_st (fun y => if y = 1002 then nid 7 81 else y) rfl ⟨⟨rfl, rfl⟩, ⟨rfl, rfl⟩, ⟨?_, rfl⟩, next_i (i := i) (by omega), next_i (i := k) (by omega), trivial⟩ ⟨⟨rfl, wavs_imm _⟩, ⟨rfl, wavs_imm _⟩, ?_, trivial⟩ (by simp [nid]) rfl (by simp))
                 · show AV.own _ _ _ = AV.own _ _ _
                   rw [List.map_append, List.length_append]; try rfl
                 · rw [List.map_append]; rfl)
              | (exfalso; have h' := of_decide_eq_false h; omega)
              | (exfalso; have h' := of_decide_eq_true h; omega)
              | (exfalso; rename_i hq; have h' := of_decide_eq_true hq; omega)
              | (exfalso; rename_i hq; have h' := of_decide_eq_false hq; omega)
              | (exfalso; rename_i hq _; have h' := of_decide_eq_true hq; omega)
              | (exfalso; rename_i hq _; have h' := of_decide_eq_false hq; omega)
              | (exfalso; rw [List.length_map] at h; have h2 := of_decide_eq_false h; omega)
              | (exfalso; simp at h; done)
              | (exfalso; simp at h; omega)
              | (exfalso; simp_all; done)
              | (exfalso; simp_all; omega)
              | (exfalso; simp only [List.length_map, decide_eq_false_iff_not, decide_eq_true_eq] at *; omega)
              | trace_state
        · rw [hI.bad hx hy heq hl] at hm
          have hbad := df_none hm
          rw [hbad.1, hbad.2]
          repeat' first | refine go_seq ?_ | refine go_region ?_ | refine go_miss rfl rfl rfl ?_ | refine go_undef rfl rfl rfl ?_ | refine go_draw drawsOk ?_ | ((first | refine go_op rfl ?_ | refine go_nil ?_ | refine go_hit rfl rfl rfl ?_ | refine go_splitT rfl rfl rfl (fun h => ?_) (fun h => ?_) | refine go_splitF rfl rfl rfl (fun h => ?_) (fun h => ?_) | refine go_dop rfl ?_ | refine go_dhit rfl rfl ?_ | refine go_dmiss rfl rfl ?_ | refine go_dundef rfl rfl ?_ | refine go_dend (by kernel_rfl) ?_ | refine go_pickT rfl ?_ | refine go_pickF rfl ?_ | refine go_pick rfl (fun h => ?_) (fun h => ?_) | refine go_idx rfl rfl rfl rfl (by omega) hrx rfl ?_ | refine go_idx rfl rfl rfl rfl (by omega) hry rfl ?_) <;> conv => whnf) | ((first | refine Or.inl ?_ | refine go_dsplit2 rfl (fun h => ?_) (fun h => ?_) | refine go_loadB ?_ | refine ⟨by kernel_rfl, ?_⟩ | refine go_ret ?_) <;> conv => whnf) | refine go_block ?_ | ((first | refine go_skip ?_ | refine go_exit ?_) <;> conv => whnf) | refine go_true rfl ?_ | refine go_false rfl ?_ | refine go_cond rfl (fun h => ?_) (fun h => ?_) | refine ⟨rfl, ?_⟩ | ((first | refine ⟨trivial, ?_⟩ | refine ⟨le_of_ble rfl, ?_⟩) <;> conv => whnf) | fail
          all_goals first
            | exact ret_arr2 rfl rfl rfl rfl rfl rfl (by intro r hr; cases hr) rfl rfl rfl
            | (exfalso; have h' := of_decide_eq_false h; omega)
            | (exfalso; have h' := of_decide_eq_true h; omega)
            | (exfalso; rename_i hq; have h' := of_decide_eq_true hq; omega)
            | (exfalso; rename_i hq; have h' := of_decide_eq_false hq; omega)
            | (exfalso; rename_i hq _; have h' := of_decide_eq_true hq; omega)
            | (exfalso; rename_i hq _; have h' := of_decide_eq_false hq; omega)
            | (exfalso; rw [List.length_map] at h; have h2 := of_decide_eq_false h; omega)
            | (exfalso; simp at h; done)
            | (exfalso; simp at h; omega)
            | (exfalso; simp_all; done)
            | (exfalso; simp_all; omega)
            | (exfalso; simp only [List.length_map, decide_eq_false_iff_not, decide_eq_true_eq] at *; omega)
            | trace_state
      · have hone := change_one [chgA y]
        repeat' first | refine go_seq ?_ | refine go_region ?_ | refine go_miss rfl rfl rfl ?_ | refine go_undef rfl rfl rfl ?_ | refine go_draw drawsOk ?_ | ((first | refine go_op rfl ?_ | refine go_nil ?_ | refine go_hit rfl rfl rfl ?_ | refine go_splitT rfl rfl rfl (fun h => ?_) (fun h => ?_) | refine go_splitF rfl rfl rfl (fun h => ?_) (fun h => ?_) | refine go_dop rfl ?_ | refine go_dhit rfl rfl ?_ | refine go_dmiss rfl rfl ?_ | refine go_dundef rfl rfl ?_ | refine go_dend (by kernel_rfl) ?_ | refine go_pickT rfl ?_ | refine go_pickF rfl ?_ | refine go_pick rfl (fun h => ?_) (fun h => ?_) | refine go_idx rfl rfl rfl rfl (by omega) hrx rfl ?_ | refine go_idx rfl rfl rfl rfl (by omega) hry rfl ?_ | refine go_append (rows2 := [chgA y].map Change.enc) rfl rfl rfl rfl rfl rfl rfl rfl rfl rfl rfl rfl hone rfl rfl rfl hbd ?_) <;> conv => whnf) | ((first | refine Or.inl ?_ | refine go_dsplit2 rfl (fun h => ?_) (fun h => ?_) | refine go_loadB ?_ | refine ⟨by kernel_rfl, ?_⟩ | refine go_ret ?_) <;> conv => whnf) | refine go_block ?_ | ((first | refine go_skip ?_ | refine go_exit ?_) <;> conv => whnf) | refine go_true rfl ?_ | refine go_false rfl ?_ | refine go_cond rfl (fun h => ?_) (fun h => ?_) | refine ⟨rfl, ?_⟩ | ((first | refine ⟨trivial, ?_⟩ | refine ⟨le_of_ble rfl, ?_⟩) <;> conv => whnf) | fail
        all_goals first
          | (refine go_next (i, k + 1, out ++ [chgA y]) (hI.hi hx hy hhi) (by show (a.trips.length - i) + (b.trips.length - (k + 1)) < (a.trips.length - i) + (b.trips.length - k); omega) (ref_st (fun y => if y = 1002 then nid 5 154 else y) rfl ⟨⟨rfl, rfl⟩, ⟨rfl, rfl⟩, ⟨?_, rfl⟩, rfl, next_i (i := k) (by omega), trivial⟩ ⟨⟨rfl, wavs_imm _⟩, ⟨rfl, wavs_imm _⟩, ?_, trivial⟩ (by simp [nid]) rfl (by simp))
             · show AV.own _ _ _ = AV.own _ _ _
               rw [List.map_append, List.length_append]; try rfl
             · rw [List.map_append]; rfl)
          | (exfalso; have h' := of_decide_eq_false h; omega)
          | (exfalso; have h' := of_decide_eq_true h; omega)
          | (exfalso; rename_i hq; have h' := of_decide_eq_true hq; omega)
          | (exfalso; rename_i hq; have h' := of_decide_eq_false hq; omega)
          | (exfalso; rename_i hq _; have h' := of_decide_eq_true hq; omega)
          | (exfalso; rename_i hq _; have h' := of_decide_eq_false hq; omega)
          | (exfalso; rw [List.length_map] at h; have h2 := of_decide_eq_false h; omega)
          | (exfalso; simp at h; done)
          | (exfalso; simp at h; omega)
          | (exfalso; simp_all; done)
          | (exfalso; simp_all; omega)
          | (exfalso; simp only [List.length_map, decide_eq_false_iff_not, decide_eq_true_eq] at *; omega)
          | trace_state
end Go.Proofs.YtekilollacmajaaGreatDoor

