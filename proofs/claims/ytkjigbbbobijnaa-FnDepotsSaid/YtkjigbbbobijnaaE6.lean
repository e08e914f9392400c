/- The reference's copies of depots, told by their blocks. -/
import Derived.Test.YtkjigbbbobijnaaE5
namespace Go.Proofs.Ytkjigbbbobijnaa
open Go Go.Am
set_option maxRecDepth 100000
set_option maxHeartbeats 16000000
attribute [local irreducible] amOps amC opCall opIndexAddr opPick retQ opMake opStore amDraw opAppend opLoad opNilCmp opIndex opSlice xQ

theorem x39 (d : Depot) (hf : d.fit) : XOk Try.prog 39 (XI.imm (.agg d.enc)) [] (depR d) [] := by
  refine xOk_of tyOk Try.func39 rfl rfl (le_of_ble rfl) ?_
  intro v0
  obtain ⟨f1, f2, f3⟩ := hf
  have el : (d.tracks.map intsRow).length = d.tracks.length := List.length_map _
  have hS := o42 d.sizes (by omega)
  repeat' first | refine go_seq ?_ | refine go_region ?_ | refine go_miss rfl rfl rfl ?_ | refine go_undef rfl rfl rfl ?_ | refine go_draw drawsOk ?_ | ((first | refine go_op rfl ?_ | refine go_nil ?_ | refine go_hit rfl rfl rfl ?_ | refine go_splitT rfl rfl rfl (fun h => ?_) (fun h => ?_) | refine go_splitF rfl rfl rfl (fun h => ?_) (fun h => ?_) | refine go_storeBox rfl rfl rfl rfl rfl rfl ?_ | refine go_dop rfl ?_ | refine go_dhit rfl rfl ?_ | refine go_dmiss rfl rfl ?_ | refine go_dundef rfl rfl ?_ | refine go_dend (by kernel_rfl) ?_ | refine go_pickT rfl ?_ | refine go_pickF rfl ?_ | refine go_pick rfl (fun h => ?_) (fun h => ?_) | refine go_call [] (hS) rfl rfl rfl rfl ?_ | refine Or.inr ?_) <;> conv => whnf) | ((first | refine Or.inl ?_ | refine go_dsplit2 rfl (fun h => ?_) (fun h => ?_) | refine go_loadB ?_ | refine ⟨by kernel_rfl, ?_⟩ | refine go_ret ?_) <;> conv => whnf) | refine go_block ?_ | ((first | refine go_skip ?_ | refine go_exit ?_) <;> conv => whnf) | refine go_true rfl ?_ | refine go_false rfl ?_ | refine go_cond rfl (fun h => ?_) (fun h => ?_) | refine ⟨rfl, ?_⟩ | ((first | refine ⟨trivial, ?_⟩ | refine ⟨le_of_ble rfl, ?_⟩) <;> conv => whnf) | fail
  refine go_loop (α := Nat × List Cell) (fun q => q.1 ≤ d.tracks.length ∧ q.2.length = q.1 ∧ TOk (d.tracks.take q.1) q.2) (fun q => d.tracks.length - q.1)
    (fun q => st Try.f39.ntmps [(1, .box 1000 0), (2, .box 1001 0), (3, .box 1002 0), (4, .imm (.int .i64 (q.1 : Nat)))]
      [(1000, .box 27 (d.enc.map .imm)), (1001, .box 27 ([.list [], .list []].map .imm)), (1002, .box 27 [.own 1003 0 (d.sizes.map intRow).length, .own 1004 0 (outS q.2).length]), (1003, .arr 3 1 (d.sizes.map intRow)), (1004, .arr 24 1 (outS q.2)), (1005, .ext (InnI 3 1 q.2)), (1006, .gone)] [1006]) (0, []) ⟨Nat.zero_le _, rfl, rfl⟩ ?_ ?_
  · refine Ref.trans (ref_newX (id := 3000) (I := InnI 3 1 []) rfl (fun w => (InnI.nil _ _ w _).ext)) (Ref.trans (ref_nilBox (b := nid 2 3) (q := 5001) (j := 1) (e := 24) (sz := 1) rfl rfl rfl (by decide)) ?_)
    exact ref_st (fun y => if y = 1000 then nid 1 1 else if y = 1001 then nid 1 2 else if y = 1002 then nid 2 3 else if y = 1003 then rid 2 7 0 else if y = 1004 then 5001 else if y = 1005 then 3000 else 0) rfl ⟨⟨rfl, rfl⟩, ⟨rfl, rfl⟩, ⟨rfl, rfl⟩, rfl, trivial⟩ ⟨⟨rfl, wavs_imm _⟩, ⟨rfl, wavs_imm _⟩, ⟨rfl, ⟨rfl, rfl⟩, ⟨rfl, rfl⟩, trivial⟩, rfl, rfl, rfl, rfl, trivial⟩ (by simp [nid, rid]) rfl (by simp [lookM])
  rintro ⟨i, xs⟩ ⟨hi, hxl, hx⟩
  simp only at hi hxl hx
  cases ht : d.tracks[i]? with
  | none =>
    have hge := le_of_at ht
    rw [List.take_of_length_le hge] at hx
    repeat' first | (refine ret_boxCell (bid := 1001) (j := 0) (id := 1003) (id' := 8000) (ty := 3) (sz := 1) (rows := d.sizes.map intRow) rfl rfl rfl rfl (List.all_eq_true.2 (int_gr _)) rfl ?_; intro o1 c1; conv => whnf) | (refine ret_boxCell (bid := 1001) (j := 1) (id := 1004) (id' := 8001) (ty := 24) (sz := 1) (rows := outS xs) rfl rfl rfl rfl (outS_gr _) rfl ?_; intro o2 c2; conv => whnf) | (refine ret_join (id1 := 8001) (id2 := 1005) (id3 := 8002) (I3 := LstI d.tracks (.slice o2 (outS xs).length c2)) rfl rfl rfl rfl (lst_join hx) ?_; conv => whnf) | refine go_seq ?_ | refine go_region ?_ | refine go_miss rfl rfl rfl ?_ | refine go_undef rfl rfl rfl ?_ | refine go_draw drawsOk ?_ | ((first | refine go_op rfl ?_ | refine go_nil ?_ | refine go_hit rfl rfl rfl ?_ | refine go_splitT rfl rfl rfl (fun h => ?_) (fun h => ?_) | refine go_splitF rfl rfl rfl (fun h => ?_) (fun h => ?_) | refine go_storeBox rfl rfl rfl rfl rfl rfl ?_ | refine go_dop rfl ?_ | refine go_dhit rfl rfl ?_ | refine go_dmiss rfl rfl ?_ | refine go_dundef rfl rfl ?_ | refine go_dend (by kernel_rfl) ?_ | refine go_pickT rfl ?_ | refine go_pickF rfl ?_ | refine go_pick rfl (fun h => ?_) (fun h => ?_)) <;> conv => whnf) | ((first | refine Or.inl ?_ | refine go_dsplit2 rfl (fun h => ?_) (fun h => ?_) | refine go_loadB ?_ | refine ⟨by kernel_rfl, ?_⟩ | refine go_ret ?_) <;> conv => whnf) | refine go_block ?_ | ((first | refine go_skip ?_ | refine go_exit ?_) <;> conv => whnf) | refine go_true rfl ?_ | refine go_false rfl ?_ | refine go_cond rfl (fun h => ?_) (fun h => ?_) | refine ⟨rfl, ?_⟩ | ((first | refine ⟨trivial, ?_⟩ | refine ⟨le_of_ble rfl, ?_⟩) <;> conv => whnf) | fail
    all_goals first
      | (refine ret_x (av := .imm (.agg [.other (.slice o1 (d.sizes.map intRow).length c1), .other (.slice o2 (outS xs).length c2)])) [8000, 8002] [] rfl rfl (by intro e; cases e) rfl rfl (close_agg2 (vs := [.slice o1 (d.sizes.map intRow).length c1, .slice o2 (outS xs).length c2]) rfl rfl rfl (dep_join (d := d) (vs := .slice o1 (d.sizes.map intRow).length c1) (vt := .slice o2 (outS xs).length c2))) (close_no v0) (by simp)
         done)
      | (exfalso; simp at h; omega)
      | trace_state
  | some t =>
    have hlt := lt_of_at ht
    have hr := ints_row ht
    have hC := o42 t (by have := f3 t (List.mem_of_getElem? ht); omega)
    have hbd : (outS xs).length + 1 ≤ 1073741824 := by rw [outS_len]; omega
    repeat' first | (refine go_drawT 5 0 drawsOk ?_; conv => whnf) | (refine go_exact tyOk (s := 23) (id := rid 3 23 0) (id' := 6000) (ty := 3) (sz := 1) (rows := t.map intRow) rfl rfl rfl (List.all_eq_true.2 (int_gr _)) rfl ?_; intro o1 c1; conv => whnf) | refine go_seq ?_ | refine go_region ?_ | refine go_miss rfl rfl rfl ?_ | refine go_undef rfl rfl rfl ?_ | refine go_draw drawsOk ?_ | ((first | refine go_op rfl ?_ | refine go_nil ?_ | refine go_hit rfl rfl rfl ?_ | refine go_splitT rfl rfl rfl (fun h => ?_) (fun h => ?_) | refine go_splitF rfl rfl rfl (fun h => ?_) (fun h => ?_) | refine go_storeBox rfl rfl rfl rfl rfl rfl ?_ | refine go_dop rfl ?_ | refine go_dhit rfl rfl ?_ | refine go_dmiss rfl rfl ?_ | refine go_dundef rfl rfl ?_ | refine go_dend (by kernel_rfl) ?_ | refine go_pickT rfl ?_ | refine go_pickF rfl ?_ | refine go_pick rfl (fun h => ?_) (fun h => ?_) | refine Two.mk ?_ trivial | refine Two.mk ?_ ?_ | refine go_call [] (hC) rfl rfl rfl rfl ?_ | refine go_idx rfl rfl rfl rfl (by omega) hr rfl ?_ | refine go_append (rows2 := [[.other (.slice o1 (t.map intRow).length c1)]]) rfl rfl rfl rfl rfl rfl rfl rfl rfl rfl rfl rfl rfl rfl rfl rfl hbd ?_) <;> conv => whnf) | ((first | refine Or.inl ?_ | refine go_dsplit2 rfl (fun h => ?_) (fun h => ?_) | refine go_loadB ?_ | refine ⟨by kernel_rfl, ?_⟩ | refine go_ret ?_) <;> conv => whnf) | refine go_block ?_ | ((first | refine go_skip ?_ | refine go_exit ?_) <;> conv => whnf) | refine go_true rfl ?_ | refine go_false rfl ?_ | refine go_cond rfl (fun h => ?_) (fun h => ?_) | refine ⟨rfl, ?_⟩ | ((first | refine ⟨trivial, ?_⟩ | refine ⟨le_of_ble rfl, ?_⟩) <;> conv => whnf) | fail
    all_goals first
      | (refine go_next (i + 1, xs ++ [(Value.slice o1 (t.map intRow).length c1, t.map intRow)]) ⟨hlt, by simp [hxl], hx.snoc ht rfl⟩ (by show d.tracks.length - (i + 1) < d.tracks.length - i; omega)
           (Ref.trans (ref_joinX (id1 := 1005) (id2 := 6000) (id3 := 7000) rfl rfl rfl rfl join_add) (ref_st (fun y => if y = 1004 then nid 3 25 else if y = 1005 then 7000 else y) rfl ⟨⟨rfl, rfl⟩, ⟨rfl, rfl⟩, ⟨rfl, rfl⟩, next_i (i := i) (by omega), trivial⟩ ⟨⟨rfl, wavs_imm _⟩, ⟨rfl, wavs_imm _⟩, ⟨rfl, ⟨rfl, rfl⟩, ⟨?_, rfl⟩, trivial⟩, rfl, ?_, rfl, rfl, trivial⟩ (by simp [nid]) rfl (by simp [lookM])))
         · show AV.own _ _ _ = AV.own _ _ _
           rw [outS_app, List.length_append]; rfl
         · show some _ = some _
           rw [outS_app]; rfl)
      | (exfalso; simp at h; omega)
      | trace_state
end Go.Proofs.Ytkjigbbbobijnaa

