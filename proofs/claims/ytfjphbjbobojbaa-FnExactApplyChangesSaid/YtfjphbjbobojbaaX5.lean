/- Copies of networks, told by their blocks. -/
import Derived.Test.YtfjphbjbobojbaaX4
namespace Go.Proofs.Ytfjphbjbobojbaa
open Go Go.Am
set_option maxRecDepth 100000
set_option maxHeartbeats 8000000
attribute [local irreducible] amOps amC opCall opIndexAddr opPick retQ opMake opStore amDraw opAppend opLoad opNilCmp opIndex opSlice xQ

def netR (n : Network) : XR := ⟨aggD, NetV n⟩
def ttR (t : Timetable) : XR := ⟨aggD, TimeV t⟩
/-- The lines' rows while they are made. -/
def lMake (ls : List Line) (zs : List (Cell × Cell)) (i : Nat) : List (List D) := lRows ((nmL ls).take i) zs ++ List.replicate (ls.length - i) ty90.zero
theorem lMake_len {ls : List Line} {zs : List (Cell × Cell)} {i : Nat} (hi : i ≤ ls.length) (hz : zs.length = i) : (lMake ls zs i).length = ls.length := by
  unfold lMake lRows nmL
  rw [List.length_append, List.length_zipWith, List.length_take, List.length_map, List.length_replicate]
  omega
theorem lMake_at {ls : List Line} {zs : List (Cell × Cell)} {i : Nat} (hi : i < ls.length) (hz : zs.length = i) : (lMake ls zs i)[i]? = some ty90.zero := by
  unfold lMake
  have h1 : (lRows ((nmL ls).take i) zs).length = i := by
    unfold lRows nmL
    rw [List.length_zipWith, List.length_take, List.length_map]; omega
  rw [List.getElem?_append_right (by omega), h1, Nat.sub_self, List.getElem?_replicate, if_pos (by omega)]
theorem lMake_set {ls : List Line} {zs : List (Cell × Cell)} {i : Nat} {l : Line} {a b : Cell} (hl : ls[i]? = some l) (hz : zs.length = i) : (lMake ls zs i).set i [.str l.name, .other a.1, .other b.1] = lMake ls (zs ++ [(a, b)]) (i + 1) := by
  have hi := (List.getElem?_eq_some_iff.1 hl).1
  have hn := nmL_at hl
  unfold lMake
  have h1 : (lRows ((nmL ls).take i) zs).length = i := by
    unfold lRows nmL
    rw [List.length_zipWith, List.length_take, List.length_map]; omega
  rw [List.set_append_right _ _ (by omega), h1, Nat.sub_self, show ls.length - i = (ls.length - (i + 1)) + 1 from by omega, List.replicate_succ, List.set_cons_zero]
  have h2 : lRows ((nmL ls).take (i + 1)) (zs ++ [(a, b)]) = lRows ((nmL ls).take i) zs ++ [[.str l.name, .other a.1, .other b.1]] := by
    unfold lRows
    rw [List.take_add_one, hn, Option.toList_some, List.zipWith_append (by rw [List.length_take, nmL_len, hz]; omega)]
    rfl
  rw [h2, List.append_assoc]
  rfl
theorem ZOk.snoc {ls : List Line} {zs : List (Cell × Cell)} {i : Nat} {l : Line} {a b : Cell} (h : ZOk (ls.take i) zs) (hl : ls[i]? = some l) (h1 : a.2 = l.stops.map intRow) (h2 : b.2 = l.runs.map intRow) : ZOk (ls.take (i + 1)) (zs ++ [(a, b)]) := by
  unfold ZOk at *
  rw [List.take_add_one, hl, List.map_append, h, List.map_append]
  simp [h1, h2]
theorem flatZ_snoc (zs : List (Cell × Cell)) (a b : Cell) : flatZ (zs ++ [(a, b)]) = flatZ zs ++ [a] ++ [b] := by simp [flatZ]
theorem join_add {ti : Nat} {xs : List Cell} {v : Value} {r : List (List D)} : ∀ w F1 F2, ExtAt (InnI ti 1 xs) w F1 → ExtAt (FlatI ti 1 r v) w F2 → (∀ b, ¬ (F1 b ∧ F2 b)) → ExtAt (InnI ti 1 (xs ++ [(v, r)])) w fun b => F1 b ∨ F2 b :=
  fun _ _ _ h1 h2 hd => (InnI.add h1.now h2.now fun b hb => hd b ⟨hb.2, hb.1⟩).ext
theorem lines_join {ls : List Line} {zs : List (Cell × Cell)} {v : Value} (hz : ZOk ls zs) : ∀ w F1 F2, ExtAt (FlatI 90 3 (lRows (nmL ls) zs) v) w F1 → ExtAt (InnI 3 1 (flatZ zs)) w F2 → (∀ b, ¬ (F1 b ∧ F2 b)) → ExtAt (LinesI ls v) w fun b => F1 b ∨ F2 b :=
  fun _ F1 F2 h1 h2 hd => LinesI.ext ⟨zs, F1, F2, hz, fun _ h => h, hd, h1.now, h2.now⟩
theorem lines_join' {ls : List Line} {zs : List (Cell × Cell)} {rows : List (List D)} {v : Value} (hm : rows = lRows (nmL ls) zs) (hz : ZOk ls zs) : ∀ w F1 F2, ExtAt (FlatI 90 3 rows v) w F1 → ExtAt (InnI 3 1 (flatZ zs)) w F2 → (∀ b, ¬ (F1 b ∧ F2 b)) → ExtAt (LinesI ls v) w fun b => F1 b ∨ F2 b := by
  subst hm
  exact lines_join hz
theorem lRows_gr (ns : List ByteArray) (zs : List (Cell × Cell)) : (lRows ns zs).all (fun r => r.all D.gr) = true := by
  refine List.all_eq_true.2 fun r hr => ?_
  obtain ⟨i, hi⟩ := List.getElem?_of_mem hr
  unfold lRows at hi
  rw [List.getElem?_zipWith] at hi
  cases hn : ns[i]? <;> cases hz : zs[i]? <;> rw [hn, hz] at hi <;> first | (simp at hi; done) | (injection hi with hi; subst hi; rfl)

theorem x75 (n : Network) (hf : n.fit) : XOk Try.prog 75 (XI.imm (.agg n.enc)) [] (netR n) [] := by
  refine xOk_of tyOk Try.func75 rfl rfl (le_of_ble rfl) ?_
  intro v0
  have h1 := o96 n.stops hf.1
  have hl : n.lines.length ≤ 1048576 := hf.2.2.1
  repeat' first | refine go_seq ?_ | refine go_region ?_ | refine go_miss rfl rfl rfl ?_ | refine go_undef rfl rfl rfl ?_ | refine go_draw drawsOk ?_ | ((first | refine go_op rfl ?_ | refine go_nil ?_ | refine go_hit rfl rfl rfl ?_ | refine go_splitT rfl rfl rfl (fun h => ?_) (fun h => ?_) | refine go_splitF rfl rfl rfl (fun h => ?_) (fun h => ?_) | refine go_storeBox rfl rfl rfl rfl rfl rfl ?_ | refine go_dop rfl ?_ | refine go_dhit rfl rfl ?_ | refine go_dmiss rfl rfl ?_ | refine go_dundef rfl rfl ?_ | refine go_dend (by kernel_rfl) ?_ | refine go_pickT rfl ?_ | refine go_pickF rfl ?_ | refine go_pick rfl (fun h => ?_) (fun h => ?_) | refine go_call [] (h1) rfl rfl rfl rfl ?_ | refine go_makeN rfl rfl rfl rfl rfl rfl rfl rfl rfl (by omega) (by simp; omega) ?_ | refine Or.inr ?_) <;> conv => whnf) | ((first | refine Or.inl ?_ | refine go_dsplit2 rfl (fun h => ?_) (fun h => ?_) | refine go_loadB ?_ | refine ⟨by kernel_rfl, ?_⟩ | refine go_ret ?_) <;> conv => whnf) | refine go_block ?_ | ((first | refine go_skip ?_ | refine go_exit ?_) <;> conv => whnf) | refine go_true rfl ?_ | refine go_false rfl ?_ | refine go_cond rfl (fun h => ?_) (fun h => ?_) | refine ⟨rfl, ?_⟩ | ((first | refine ⟨trivial, ?_⟩ | refine ⟨le_of_ble rfl, ?_⟩) <;> conv => whnf) | fail
  refine go_loop (α := Nat × List (Cell × Cell)) (fun q => q.1 ≤ n.lines.length ∧ q.2.length = q.1 ∧ ZOk (n.lines.take q.1) q.2) (fun q => n.lines.length - q.1)
    (fun q => st Try.f75.ntmps [(2, .box 1000 0), (3, .box 1001 0), (15, .imm (.list (n.lines.map Line.enc))), (16, .imm (.int .i64 (n.lines.map Line.enc).length)), (17, .imm (.int .i64 (q.1 : Nat)))]
      [(1000, .box 34 ([.list [], .list []].map .imm)), (1001, .box 34 [.own 1003 0 (n.stops.map strRow).length, .own 1002 0 (n.lines.map Line.enc).length]), (1002, .arr 90 3 (lMake n.lines q.2 q.1)), (1003, .arr 9 1 (n.stops.map strRow)), (1004, .ext (InnI 3 1 (flatZ q.2))), (1005, .gone)] [1005]) (0, []) ⟨Nat.zero_le _, rfl, rfl⟩ ?_ ?_
  · refine Ref.trans (ref_newX (id := 3000) (I := InnI 3 1 []) rfl (fun w => (InnI.nil _ _ w _).ext)) (ref_st (fun y => if y = 1000 then nid 1 2 else if y = 1001 then nid 2 3 else if y = 1002 then nid 2 12 else if y = 1003 then rid 2 8 0 else if y = 1004 then 3000 else 0) rfl ⟨⟨rfl, rfl⟩, ⟨rfl, rfl⟩, rfl, rfl, rfl, trivial⟩ ⟨⟨rfl, wavs_imm _⟩, ⟨rfl, ⟨rfl, rfl⟩, ⟨rfl, rfl⟩, trivial⟩, ?_, rfl, rfl, rfl, trivial⟩ (by simp [nid, rid]) rfl (by simp [lookM]))
    show some _ = some _
    simp [lMake, lRows]
    rfl
  rintro ⟨i, zs⟩ ⟨hi, hzl, hz⟩
  simp only at hi hzl hz
  have hml := lMake_len hi hzl
  cases hx : n.lines[i]? with
  | none =>
    have hge := le_of_at hx
    rw [List.take_of_length_le hge] at hz
    have hmk : lMake n.lines zs i = lRows (nmL n.lines) zs := by
      unfold lMake
      rw [List.take_of_length_le (by rw [nmL_len]; exact hge), show n.lines.length - i = 0 from by omega]
      simp
    have hgl : (n.lines.map Line.enc).length = (lMake n.lines zs i).length := by rw [List.length_map, hml]
    have hgr : (lMake n.lines zs i).all (fun r => r.all D.gr) = true := by rw [hmk]; exact lRows_gr _ _
    repeat' first | (refine ret_boxCell (bid := 1000) (j := 0) (id := 1003) (id' := 8000) (ty := 9) (sz := 1) (rows := n.stops.map strRow) rfl rfl rfl rfl (List.all_eq_true.2 (str_gr _)) rfl ?_; intro o1 c1; conv => whnf) | (refine ret_boxCell (bid := 1000) (j := 1) (id := 1002) (id' := 8001) (ty := 90) (sz := 3) (rows := lMake n.lines zs i) rfl rfl rfl hgl hgr rfl ?_; intro o2 c2; conv => whnf) | (refine ret_join (id1 := 8001) (id2 := 1004) (id3 := 8002) (I3 := LinesI n.lines (.slice o2 (lMake n.lines zs i).length c2)) rfl rfl rfl rfl (lines_join' hmk hz) ?_; conv => whnf) | refine go_seq ?_ | refine go_region ?_ | refine go_miss rfl rfl rfl ?_ | refine go_undef rfl rfl rfl ?_ | refine go_draw drawsOk ?_ | ((first | refine go_op rfl ?_ | refine go_nil ?_ | refine go_hit rfl rfl rfl ?_ | refine go_splitT rfl rfl rfl (fun h => ?_) (fun h => ?_) | refine go_splitF rfl rfl rfl (fun h => ?_) (fun h => ?_) | refine go_storeBox rfl rfl rfl rfl rfl rfl ?_ | refine go_dop rfl ?_ | refine go_dhit rfl rfl ?_ | refine go_dmiss rfl rfl ?_ | refine go_dundef rfl rfl ?_ | refine go_dend (by kernel_rfl) ?_ | refine go_pickT rfl ?_ | refine go_pickF rfl ?_ | refine go_pick rfl (fun h => ?_) (fun h => ?_)) <;> conv => whnf) | ((first | refine Or.inl ?_ | refine go_dsplit2 rfl (fun h => ?_) (fun h => ?_) | refine go_loadB ?_ | refine ⟨by kernel_rfl, ?_⟩ | refine go_ret ?_) <;> conv => whnf) | refine go_block ?_ | ((first | refine go_skip ?_ | refine go_exit ?_) <;> conv => whnf) | refine go_true rfl ?_ | refine go_false rfl ?_ | refine go_cond rfl (fun h => ?_) (fun h => ?_) | refine ⟨rfl, ?_⟩ | ((first | refine ⟨trivial, ?_⟩ | refine ⟨le_of_ble rfl, ?_⟩) <;> conv => whnf) | fail
    all_goals first
      | (refine ret_x (av := .imm (.agg [.other (.slice o1 (n.stops.map strRow).length c1), .other (.slice o2 (lMake n.lines zs i).length c2)])) [8000, 8002] [] rfl rfl (by intro e; cases e) rfl rfl (close_agg2 (vs := [.slice o1 (n.stops.map strRow).length c1, .slice o2 (lMake n.lines zs i).length c2]) rfl rfl rfl net_join) (close_no v0) (by simp)
         done)
      | (exfalso; have h' := of_decide_eq_false h; omega)
      | (exfalso; have h' := of_decide_eq_true h; omega)
      | (exfalso; rename_i hq; have h' := of_decide_eq_true hq; omega)
      | (exfalso; rename_i hq; have h' := of_decide_eq_false hq; omega)
      | (exfalso; rename_i hq _; have h' := of_decide_eq_true hq; omega)
      | (exfalso; rename_i hq _; have h' := of_decide_eq_false hq; omega)
      | (exfalso; simp at h; omega)
      | trace_state
  | some l =>
    have hlt := lt_of_at hx
    have hr := row_at Line.enc hx
    have hC := o97 l (hf.2.2.2 l (List.mem_of_getElem? hx))
    have hil : i < (n.lines.map Line.enc).length := by rw [List.length_map]; exact hlt
    repeat' first | (refine go_drawT 5 6 drawsOk ?_; conv => whnf) | (refine go_mixCell tyOk (s := 26) (j := 1) (id := rid 4 26 1) (id' := 6000) (ty := 3) (sz := 1) (rows := l.stops.map intRow) rfl rfl rfl rfl (List.all_eq_true.2 (int_gr _)) rfl ?_; intro o1 c1; conv => whnf) | (refine go_mixCell tyOk (s := 26) (j := 2) (id := rid 4 26 2) (id' := 6001) (ty := 3) (sz := 1) (rows := l.runs.map intRow) rfl rfl rfl rfl (List.all_eq_true.2 (int_gr _)) rfl ?_; intro o2 c2; conv => whnf) | (refine go_mixAll tyOk (s := 26) (ds := [.str l.name, .other (.slice o1 (l.stops.map intRow).length c1), .other (.slice o2 (l.runs.map intRow).length c2)]) rfl ?_; conv => whnf) | refine go_seq ?_ | refine go_region ?_ | refine go_miss rfl rfl rfl ?_ | refine go_undef rfl rfl rfl ?_ | refine go_draw drawsOk ?_ | ((first | refine go_op rfl ?_ | refine go_nil ?_ | refine go_hit rfl rfl rfl ?_ | refine go_splitT rfl rfl rfl (fun h => ?_) (fun h => ?_) | refine go_splitF rfl rfl rfl (fun h => ?_) (fun h => ?_) | refine go_storeBox rfl rfl rfl rfl rfl rfl ?_ | refine go_dop rfl ?_ | refine go_dhit rfl rfl ?_ | refine go_dmiss rfl rfl ?_ | refine go_dundef rfl rfl ?_ | refine go_dend (by kernel_rfl) ?_ | refine go_pickT rfl ?_ | refine go_pickF rfl ?_ | refine go_pick rfl (fun h => ?_) (fun h => ?_) | refine Two.mk ?_ trivial | refine Two.mk ?_ ?_ | refine go_call [] (hC) rfl rfl rfl rfl ?_ | refine go_idx rfl rfl rfl rfl (by omega) hr rfl ?_ | refine go_idxOwn rfl rfl rfl rfl rfl rfl hil ?_ | refine go_storeRow rfl rfl rfl rfl (lMake_at hlt hzl) rfl rfl (lMake_set (a := (.slice o1 (l.stops.map intRow).length c1, l.stops.map intRow)) (b := (.slice o2 (l.runs.map intRow).length c2, l.runs.map intRow)) hx hzl) ?_) <;> conv => whnf) | ((first | refine Or.inl ?_ | refine go_dsplit2 rfl (fun h => ?_) (fun h => ?_) | refine go_loadB ?_ | refine ⟨by kernel_rfl, ?_⟩ | refine go_ret ?_) <;> conv => whnf) | refine go_block ?_ | ((first | refine go_skip ?_ | refine go_exit ?_) <;> conv => whnf) | refine go_true rfl ?_ | refine go_false rfl ?_ | refine go_cond rfl (fun h => ?_) (fun h => ?_) | refine ⟨rfl, ?_⟩ | ((first | refine ⟨trivial, ?_⟩ | refine ⟨le_of_ble rfl, ?_⟩) <;> conv => whnf) | fail
    all_goals first
      | (refine go_next (i + 1, zs ++ [((Value.slice o1 (l.stops.map intRow).length c1, l.stops.map intRow), (Value.slice o2 (l.runs.map intRow).length c2, l.runs.map intRow))]) ⟨hlt, by simp [hzl], hz.snoc hx rfl rfl⟩ (by show n.lines.length - (i + 1) < n.lines.length - i; omega)
           (Ref.trans (ref_joinX (id1 := 1004) (id2 := 6000) (id3 := 7000) rfl rfl rfl rfl join_add) (Ref.trans (ref_joinX (id1 := 7000) (id2 := 6001) (id3 := 7001) rfl rfl rfl rfl join_add) (ref_st (fun y => if y = 1004 then 7001 else y) rfl ⟨⟨rfl, rfl⟩, ⟨rfl, rfl⟩, rfl, rfl, next_i (i := i) (by omega), trivial⟩ ⟨⟨rfl, wavs_imm _⟩, ⟨rfl, ⟨rfl, rfl⟩, ⟨rfl, rfl⟩, trivial⟩, rfl, rfl, ?_, rfl, trivial⟩ (by simp) rfl (by simp [lookM]))))
         show some _ = some _
         rw [flatZ_snoc]
         done)
      | (exfalso; have h' := of_decide_eq_false h; omega)
      | (exfalso; have h' := of_decide_eq_true h; omega)
      | (exfalso; rename_i hq; have h' := of_decide_eq_true hq; omega)
      | (exfalso; rename_i hq; have h' := of_decide_eq_false hq; omega)
      | (exfalso; rename_i hq _; have h' := of_decide_eq_true hq; omega)
      | (exfalso; rename_i hq _; have h' := of_decide_eq_false hq; omega)
      | (exfalso; simp at h; omega)
      | trace_state
end Go.Proofs.Ytfjphbjbobojbaa

