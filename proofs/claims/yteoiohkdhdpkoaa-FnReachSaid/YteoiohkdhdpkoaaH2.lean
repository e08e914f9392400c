/- The reference's copies of networks, told by their blocks. -/
import Derived.Test.YteoiohkdhdpkoaaH1
namespace Go.Proofs.Yteoiohkdhdpkoaa
open Go Go.Am
set_option maxRecDepth 100000
set_option maxHeartbeats 16000000
attribute [local irreducible] amOps amC opCall opIndexAddr opPick retQ opMake opStore amDraw opAppend opLoad opNilCmp opIndex opSlice xQ

theorem ints_one (xs : List Int) : ∀ r ∈ xs.map intRow, r.length = 1 ∧ r.all D.one = true := by
  intro r hr
  obtain ⟨_, _, rfl⟩ := List.mem_map.1 hr
  exact ⟨rfl, rfl⟩
theorem strs_one (xs : List ByteArray) : ∀ r ∈ xs.map strRow, r.length = 1 ∧ r.all D.one = true := by
  intro r hr
  obtain ⟨_, _, rfl⟩ := List.mem_map.1 hr
  exact ⟨rfl, rfl⟩
theorem o46 (xs : List Int) (hl : xs.length ≤ 1048576) : CallOk Try.prog 46 [.imm (.list (xs.map intRow))] { res := [.arr 3 1 (xs.map intRow)] } := by
  refine callOk_of tyOk Try.func46 rfl rfl (le_of_ble rfl) (le_of_ble rfl) (mutOk_imm rfl _) ?_
  have hbd : (List.replicate 0 (ty3.zero)).length + (xs.map intRow).length ≤ 1073741824 := by simp; omega
  repeat' first | refine go_seq ?_ | refine go_region ?_ | ((first | refine go_op rfl ?_ | refine go_nil ?_ | refine go_appImm rfl rfl rfl rfl rfl rfl rfl rfl rfl (ints_one _) rfl rfl hbd ?_) <;> conv => whnf) | ((first | refine ⟨by kernel_rfl, ?_⟩ | refine go_ret ?_) <;> conv => whnf) | ((first | refine go_skip ?_) <;> conv => whnf) | refine ⟨rfl, ?_⟩ | ((first | refine ⟨trivial, ?_⟩ | refine ⟨le_of_ble rfl, ?_⟩) <;> conv => whnf) | fail
  all_goals first
    | exact ret_arr rfl rfl rfl rfl rfl (by simp only [List.replicate_zero, List.nil_append, Nat.zero_add, List.drop_zero, List.take_length]) (int_gr _)
    | trace_state
theorem lRows_snoc {ls : List Line} {zs : List (Cell × Cell)} {i : Nat} {l : Line} {a b : Cell} (hl : ls[i]? = some l) (hz : zs.length = i) : lRows ((nmL ls).take (i + 1)) (zs ++ [(a, b)]) = lRows ((nmL ls).take i) zs ++ [[.str l.name, .other a.1, .other b.1]] := by
  have hi := (List.getElem?_eq_some_iff.1 hl).1
  unfold lRows
  rw [List.take_add_one, nmL_at hl, Option.toList_some, List.zipWith_append (by rw [List.length_take, nmL_len, hz]; omega)]
  rfl
theorem lRows_len' {ls : List Line} {zs : List (Cell × Cell)} {i : Nat} (hi : i ≤ ls.length) (hz : zs.length = i) : (lRows ((nmL ls).take i) zs).length = i := by
  unfold lRows
  rw [List.length_zipWith, List.length_take, nmL_len]; omega

theorem x44 (n : Network) (hf : n.fit) : XOk Try.prog 44 (XI.imm (.agg n.enc)) [] (netR n) [] := by
  refine xOk_of tyOk Try.func44 rfl rfl (le_of_ble rfl) ?_
  intro v0
  obtain ⟨f1, _, f2, f3⟩ := hf
  have hbd0 : (List.replicate 0 (ty9.zero)).length + (n.stops.map strRow).length ≤ 1073741824 := by simp; omega
  repeat' first | refine go_seq ?_ | refine go_region ?_ | refine go_miss rfl rfl rfl ?_ | refine go_undef rfl rfl rfl ?_ | refine go_draw drawsOk ?_ | ((first | refine go_op rfl ?_ | refine go_nil ?_ | refine go_hit rfl rfl rfl ?_ | refine go_splitT rfl rfl rfl (fun h => ?_) (fun h => ?_) | refine go_splitF rfl rfl rfl (fun h => ?_) (fun h => ?_) | refine go_storeBox rfl rfl rfl rfl rfl rfl ?_ | refine go_dop rfl ?_ | refine go_dhit rfl rfl ?_ | refine go_dmiss rfl rfl ?_ | refine go_dundef rfl rfl ?_ | refine go_dend (by kernel_rfl) ?_ | refine go_pickT rfl ?_ | refine go_pickF rfl ?_ | refine go_pick rfl (fun h => ?_) (fun h => ?_) | refine go_appImm rfl rfl rfl rfl rfl rfl rfl rfl rfl (strs_one _) rfl rfl hbd0 ?_ | refine Or.inr ?_) <;> conv => whnf) | ((first | refine Or.inl ?_ | refine go_dsplit2 rfl (fun h => ?_) (fun h => ?_) | refine go_loadB ?_ | refine ⟨by kernel_rfl, ?_⟩ | refine go_ret ?_) <;> conv => whnf) | refine go_block ?_ | ((first | refine go_skip ?_ | refine go_exit ?_) <;> conv => whnf) | refine go_true rfl ?_ | refine go_false rfl ?_ | refine go_cond rfl (fun h => ?_) (fun h => ?_) | refine ⟨rfl, ?_⟩ | ((first | refine ⟨trivial, ?_⟩ | refine ⟨le_of_ble rfl, ?_⟩) <;> conv => whnf) | fail
  refine go_loop (α := Nat × List (Cell × Cell)) (fun q => q.1 ≤ n.lines.length ∧ q.2.length = q.1 ∧ ZOk (n.lines.take q.1) q.2) (fun q => n.lines.length - q.1)
    (fun q => st Try.f44.ntmps [(1, .box 1000 0), (2, .box 1001 0), (3, .box 1002 0), (4, .imm (.int .i64 (q.1 : Nat)))]
      [(1000, .box 27 (n.enc.map .imm)), (1001, .box 27 ([.list [], .list []].map .imm)), (1002, .box 27 [.own 1003 0 (n.stops.map strRow).length, .own 1004 0 (lRows ((nmL n.lines).take q.1) q.2).length]), (1003, .arr 9 1 (n.stops.map strRow)), (1004, .arr 44 3 (lRows ((nmL n.lines).take q.1) q.2)), (1005, .ext (InnI 3 1 (flatZ q.2))), (1006, .gone)] [1006]) (0, []) ⟨Nat.zero_le _, rfl, rfl⟩ ?_ ?_
  · refine Ref.trans (ref_newX (id := 3000) (I := InnI 3 1 []) rfl (fun w => (InnI.nil _ _ w _).ext)) (Ref.trans (ref_nilBox (b := nid 2 3) (q := 5001) (j := 1) (e := 44) (sz := 3) rfl rfl rfl (by decide)) ?_)
    refine ref_st (fun y => if y = 1000 then nid 1 1 else if y = 1001 then nid 1 2 else if y = 1002 then nid 2 3 else if y = 1003 then nid 2 8 else if y = 1004 then 5001 else if y = 1005 then 3000 else 0) rfl ⟨⟨rfl, rfl⟩, ⟨rfl, rfl⟩, ⟨rfl, rfl⟩, rfl, trivial⟩ ⟨⟨rfl, wavs_imm _⟩, ⟨rfl, wavs_imm _⟩, ⟨rfl, ⟨?_, rfl⟩, ⟨rfl, rfl⟩, trivial⟩, ?_, rfl, rfl, rfl, trivial⟩ (by simp [nid]) rfl (by simp [lookM])
    · show AV.own _ _ _ = AV.own _ _ _
      simp only [List.length_replicate, List.length_nil, Nat.zero_add]
      rfl
    · show some _ = some _
      rfl
  rintro ⟨i, zs⟩ ⟨hi, hzl, hz⟩
  simp only at hi hzl hz
  have hrl := lRows_len' hi hzl
  cases hx : n.lines[i]? with
  | none =>
    have hge := le_of_at hx
    rw [List.take_of_length_le hge] at hz
    rw [List.take_of_length_le (by rw [nmL_len]; exact hge)]
    repeat' first | (refine ret_boxCell (bid := 1001) (j := 0) (id := 1003) (id' := 8000) (ty := 9) (sz := 1) (rows := n.stops.map strRow) rfl rfl rfl rfl (List.all_eq_true.2 (str_gr _)) rfl ?_; intro o1 c1; conv => whnf) | (refine ret_boxCell (bid := 1001) (j := 1) (id := 1004) (id' := 8001) (ty := 44) (sz := 3) (rows := lRows (nmL n.lines) zs) rfl rfl rfl rfl (lRows_gr _ _) rfl ?_; intro o2 c2; conv => whnf) | (refine ret_join (id1 := 8001) (id2 := 1005) (id3 := 8002) (I3 := LinesI n.lines (.slice o2 (lRows (nmL n.lines) zs).length c2)) rfl rfl rfl rfl (lines_join hz) ?_; conv => whnf) | refine go_seq ?_ | refine go_region ?_ | refine go_miss rfl rfl rfl ?_ | refine go_undef rfl rfl rfl ?_ | refine go_draw drawsOk ?_ | ((first | refine go_op rfl ?_ | refine go_nil ?_ | refine go_hit rfl rfl rfl ?_ | refine go_splitT rfl rfl rfl (fun h => ?_) (fun h => ?_) | refine go_splitF rfl rfl rfl (fun h => ?_) (fun h => ?_) | refine go_storeBox rfl rfl rfl rfl rfl rfl ?_ | refine go_dop rfl ?_ | refine go_dhit rfl rfl ?_ | refine go_dmiss rfl rfl ?_ | refine go_dundef rfl rfl ?_ | refine go_dend (by kernel_rfl) ?_ | refine go_pickT rfl ?_ | refine go_pickF rfl ?_ | refine go_pick rfl (fun h => ?_) (fun h => ?_)) <;> conv => whnf) | ((first | refine Or.inl ?_ | refine go_dsplit2 rfl (fun h => ?_) (fun h => ?_) | refine go_loadB ?_ | refine ⟨by kernel_rfl, ?_⟩ | refine go_ret ?_) <;> conv => whnf) | refine go_block ?_ | ((first | refine go_skip ?_ | refine go_exit ?_) <;> conv => whnf) | refine go_true rfl ?_ | refine go_false rfl ?_ | refine go_cond rfl (fun h => ?_) (fun h => ?_) | refine ⟨rfl, ?_⟩ | ((first | refine ⟨trivial, ?_⟩ | refine ⟨le_of_ble rfl, ?_⟩) <;> conv => whnf) | fail
    all_goals first
      | (refine ret_x (av := .imm (.agg [.other (.slice o1 (n.stops.map strRow).length c1), .other (.slice o2 (lRows (nmL n.lines) zs).length c2)])) [8000, 8002] [] rfl rfl (by intro e; cases e) rfl rfl (close_agg2 (vs := [.slice o1 (n.stops.map strRow).length c1, .slice o2 (lRows (nmL n.lines) zs).length c2]) rfl rfl rfl net_join) (close_no v0) (by simp)
         done)
      | (exfalso; simp only [decide_eq_true_eq, List.length_map] at *; omega)
      | trace_state
  | some l =>
    have hlt := lt_of_at hx
    have hr := row_at Line.enc hx
    have hfl := f3 l (List.mem_of_getElem? hx)
    have hC1 := o46 l.stops hfl.2.1
    have hC2 := o46 l.runs hfl.2.2
    have hbd : (lRows ((nmL n.lines).take i) zs).length + 1 ≤ 1073741824 := by rw [hrl]; omega
    repeat' first | (refine go_drawU 5 22 [0, 1] drawsOk ?_; conv => whnf) | (refine go_exact tyOk (s := 31) (id := rid 3 31 0) (id' := 6000) (ty := 3) (sz := 1) (rows := l.stops.map intRow) rfl rfl rfl (List.all_eq_true.2 (int_gr _)) rfl ?_; intro o1 c1; conv => whnf) | (refine go_exact tyOk (s := 38) (id := rid 3 38 0) (id' := 6001) (ty := 3) (sz := 1) (rows := l.runs.map intRow) rfl rfl rfl (List.all_eq_true.2 (int_gr _)) rfl ?_; intro o2 c2; conv => whnf) | refine go_seq ?_ | refine go_region ?_ | refine go_miss rfl rfl rfl ?_ | refine go_undef rfl rfl rfl ?_ | refine go_draw drawsOk ?_ | ((first | refine go_op rfl ?_ | refine go_nil ?_ | refine go_hit rfl rfl rfl ?_ | refine go_splitT rfl rfl rfl (fun h => ?_) (fun h => ?_) | refine go_splitF rfl rfl rfl (fun h => ?_) (fun h => ?_) | refine go_storeBox rfl rfl rfl rfl rfl rfl ?_ | refine go_dop rfl ?_ | refine go_dhit rfl rfl ?_ | refine go_dmiss rfl rfl ?_ | refine go_dundef rfl rfl ?_ | refine go_dend (by kernel_rfl) ?_ | refine go_pickT rfl ?_ | refine go_pickF rfl ?_ | refine go_pick rfl (fun h => ?_) (fun h => ?_) | refine Two.mk ?_ trivial | refine Two.mk ?_ ?_ | refine go_dendU (by kernel_rfl) ?_ | refine go_call [] (hC1) rfl rfl rfl rfl ?_ | refine go_call [] (hC2) rfl rfl rfl rfl ?_ | refine go_idx rfl rfl rfl rfl (by omega) hr rfl ?_ | refine go_append (rows2 := [[.str l.name, .other (.slice o1 (l.stops.map intRow).length c1), .other (.slice o2 (l.runs.map intRow).length c2)]]) rfl rfl rfl rfl rfl rfl rfl rfl rfl rfl rfl rfl rfl rfl rfl rfl hbd ?_) <;> conv => whnf) | ((first | refine Or.inl ?_ | refine go_dsplit2 rfl (fun h => ?_) (fun h => ?_) | refine go_loadB ?_ | refine ⟨by kernel_rfl, ?_⟩ | refine go_ret ?_) <;> conv => whnf) | refine go_block ?_ | ((first | refine go_skip ?_ | refine go_exit ?_) <;> conv => whnf) | refine go_true rfl ?_ | refine go_false rfl ?_ | refine go_cond rfl (fun h => ?_) (fun h => ?_) | refine ⟨rfl, ?_⟩ | ((first | refine ⟨trivial, ?_⟩ | refine ⟨le_of_ble rfl, ?_⟩) <;> conv => whnf) | fail
    all_goals first
      | (exfalso; simp only [decide_eq_false_iff_not, List.length_map] at *; omega)
      | (refine go_next (i + 1, zs ++ [((Value.slice o1 (l.stops.map intRow).length c1, l.stops.map intRow), (Value.slice o2 (l.runs.map intRow).length c2, l.runs.map intRow))]) ⟨hlt, by simp [hzl], hz.snoc hx rfl rfl⟩ (by show n.lines.length - (i + 1) < n.lines.length - i; omega)
           (Ref.trans (ref_joinX (id1 := 1005) (id2 := 6000) (id3 := 7000) rfl rfl rfl rfl join_add) (Ref.trans (ref_joinX (id1 := 7000) (id2 := 6001) (id3 := 7001) rfl rfl rfl rfl join_add) (ref_st (fun y => if y = 1004 then nid 3 41 else if y = 1005 then 7001 else y) rfl ⟨⟨rfl, rfl⟩, ⟨rfl, rfl⟩, ⟨rfl, rfl⟩, next_i (i := i) (by omega), trivial⟩ ⟨⟨rfl, wavs_imm _⟩, ⟨rfl, wavs_imm _⟩, ⟨rfl, ⟨rfl, rfl⟩, ⟨?_, rfl⟩, trivial⟩, rfl, ?_, ?_, rfl, trivial⟩ (by simp [nid]) rfl (by simp [lookM]))))
         · show AV.own _ _ _ = AV.own _ _ _
           rw [lRows_snoc hx hzl, List.length_append]; rfl
         · show some _ = some _
           rw [lRows_snoc hx hzl]; rfl
         · show some _ = some _
           rw [flatZ_snoc])
      | trace_state
end Go.Proofs.Yteoiohkdhdpkoaa

