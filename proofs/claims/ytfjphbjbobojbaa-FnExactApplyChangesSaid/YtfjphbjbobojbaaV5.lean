/- Timetables copied, trips put in and taken out: the reference. -/
import Derived.Test.YtfjphbjbobojbaaV3
import Derived.Test.YtfjphbjbobojbaaAmN
namespace Go.Proofs.Ytfjphbjbobojbaa
open Go Go.Am
set_option maxRecDepth 100000
set_option maxHeartbeats 8000000
attribute [local irreducible] amOps amC opCall opIndexAddr opPick retQ opMake opStore amDraw opAppend opLoad opNilCmp opIndex opSlice

theorem c89 (xs : List Int) (hl : xs.length ≤ 1048576) : CallOk Try.prog 89 [.imm (.list (xs.map intRow))] { res := [.imm (.list (xs.map intRow))] } := by
  refine callOk_of tyOk Try.func89 rfl rfl (le_of_ble rfl) (le_of_ble rfl) (mutOk_imm rfl _) ?_
  have hbd : (List.replicate 0 (ty3.zero)).length + (xs.map intRow).length ≤ 1073741824 := by simp; omega
  repeat' first | refine go_seq ?_ | refine go_region ?_ | ((first | refine go_op rfl ?_ | refine go_nil ?_ | refine go_appImm rfl rfl rfl rfl rfl rfl rfl rfl rfl (int_one' _) rfl rfl hbd ?_) <;> conv => whnf) | ((first | refine ⟨by kernel_rfl, ?_⟩ | refine go_ret ?_) <;> conv => whnf) | ((first | refine go_skip ?_) <;> conv => whnf) | refine ⟨rfl, ?_⟩ | ((first | refine ⟨trivial, ?_⟩ | refine ⟨le_of_ble rfl, ?_⟩) <;> conv => whnf) | fail
  all_goals exact ret_own rfl rfl rfl rfl rfl (by simp only [List.replicate_zero, List.nil_append, Nat.zero_add, List.drop_zero, List.take_length]) (int_gr _)

theorem c66 (n : Network) (hf : n.fit) : CallOk Try.prog 66 [.imm (.agg n.enc)] { res := [.imm (.list (n.stops.map strRow)), .imm (.list (n.lines.map Line.enc))], sep := false, agg := true } := by
  refine callOk_of tyOk Try.func66 rfl rfl (le_of_ble rfl) (le_of_ble rfl) (mutOk_imm rfl _) ?_
  have hs := hf.1
  have hl : n.lines.length ≤ 1048576 := hf.2.2.1
  have hbd : (List.replicate 0 (ty9.zero)).length + (n.stops.map strRow).length ≤ 1073741824 := by simp; omega
  repeat' first | refine go_seq ?_ | refine go_region ?_ | refine go_draw drawsOk ?_ | ((first | refine go_op rfl ?_ | refine go_nil ?_ | refine go_storeBox rfl rfl rfl rfl rfl rfl ?_ | refine go_dop rfl ?_ | refine go_dend (by kernel_rfl) ?_ | refine go_appImm rfl rfl rfl rfl rfl rfl rfl rfl rfl (str_one' _) rfl rfl hbd ?_ | refine Or.inr ?_) <;> conv => whnf) | ((first | refine Or.inl ?_ | refine go_loadB ?_ | refine ⟨by kernel_rfl, ?_⟩ | refine go_ret ?_) <;> conv => whnf) | refine go_block ?_ | ((first | refine go_skip ?_ | refine go_exit ?_) <;> conv => whnf) | refine go_true rfl ?_ | refine go_false rfl ?_ | refine go_cond rfl (fun h => ?_) (fun h => ?_) | refine ⟨rfl, ?_⟩ | ((first | refine ⟨trivial, ?_⟩ | refine ⟨le_of_ble rfl, ?_⟩) <;> conv => whnf) | fail
  refine go_loop (α := Nat) (fun i => i ≤ n.lines.length) (fun i => n.lines.length - i)
    (fun i => st Try.f66.ntmps [(1, .box 1003 0), (2, .box 1000 0), (3, .box 1001 0), (4, .imm (.int .i64 (i : Nat)))]
      [(1000, .box 34 ([.list [], .list []].map .imm)), (1001, .box 34 [.own 1004 0 (n.stops.map strRow).length, .own 1002 0 ((n.lines.take i).map Line.enc).length]), (1002, .arr 90 3 ((n.lines.take i).map Line.enc)), (1003, .box 34 (n.enc.map .imm)), (1004, .arr 9 1 (n.stops.map strRow))] []) 0 (Nat.zero_le _) ?_ ?_
  · refine Ref.trans (ref_nilBox (b := nid 2 3) (q := nid 2 4000) (j := 1) (e := 90) (sz := 3) rfl rfl rfl (by decide)) ?_
    refine ref_st (fun i => if i = 1000 then nid 1 2 else if i = 1001 then nid 2 3 else if i = 1002 then nid 2 4000 else if i = 1003 then nid 1 1 else nid 2 8) rfl ⟨⟨rfl, rfl⟩, ⟨rfl, rfl⟩, ⟨rfl, rfl⟩, rfl, trivial⟩ ⟨⟨rfl, wavs_imm _⟩, ⟨rfl, ⟨?_, rfl⟩, ⟨rfl, rfl⟩, trivial⟩, rfl, ⟨rfl, wavs_imm _⟩, ?_, trivial⟩ (by simp [nid]) rfl (by simp)
    · show AV.own _ _ _ = AV.own _ _ _
      simp only [List.length_replicate, List.length_nil, Nat.zero_add]
      rfl
    · show some _ = some _
      rfl
  intro i hi
  cases hx : n.lines[i]? with
  | none =>
    have hge := le_of_at hx
    rw [List.take_of_length_le hge]
    repeat' first | refine go_seq ?_ | refine go_region ?_ | refine go_draw drawsOk ?_ | ((first | refine go_op rfl ?_ | refine go_nil ?_ | refine go_storeBox rfl rfl rfl rfl rfl rfl ?_ | refine go_dop rfl ?_ | refine go_dend (by kernel_rfl) ?_) <;> conv => whnf) | ((first | refine Or.inl ?_ | refine go_loadB ?_ | refine ⟨by kernel_rfl, ?_⟩ | refine go_ret ?_) <;> conv => whnf) | refine go_block ?_ | ((first | refine go_skip ?_ | refine go_exit ?_) <;> conv => whnf) | refine go_true rfl ?_ | refine go_false rfl ?_ | refine go_cond rfl (fun h => ?_) (fun h => ?_) | refine ⟨rfl, ?_⟩ | ((first | refine ⟨trivial, ?_⟩ | refine ⟨le_of_ble rfl, ?_⟩) <;> conv => whnf) | fail
    · exfalso; simp at h; omega
    · refine ret_agg rfl rfl rfl ⟨⟨?_, (fun h => by cases h), by show _ ∉ ([] : List Nat); simp⟩, ⟨?_, (fun h => by cases h), by show _ ∉ ([] : List Nat); simp⟩, trivial⟩ ?_ List.nodup_nil trivial
      · show D.list _ = D.list _
        rw [List.drop_zero, List.take_length]
      · show D.list _ = D.list _
        rw [List.drop_zero, List.take_length]
      · exact List.nodup_cons.2 ⟨by simp [ownIds], List.nodup_cons.2 ⟨by simp [ownIds], List.nodup_nil⟩⟩
  | some l =>
    have hlt := lt_of_at hx
    have hr := row_at Line.enc hx
    have hlf := hf.2.2.2 l (List.mem_of_getElem? hx)
    have h1 := c89 l.stops hlf.2.1
    have h2 := c89 l.runs hlf.2.2
    have hnx : (n.lines.take (i + 1)).map Line.enc = (n.lines.take i).map Line.enc ++ [l].map Line.enc := by
      rw [List.take_add_one, hx, List.map_append]; rfl
    have hone : ([l].map Line.enc).all (fun r => r.all D.one) = true := rfl
    have hb : ((n.lines.take i).map Line.enc).length + 1 ≤ 1073741824 := by rw [List.length_map, List.length_take]; omega
    repeat' first | refine go_seq ?_ | refine go_region ?_ | refine go_draw drawsOk ?_ | ((first | refine go_op rfl ?_ | refine go_nil ?_ | refine go_storeBox rfl rfl rfl rfl rfl rfl ?_ | refine go_dop rfl ?_ | refine go_dend (by kernel_rfl) ?_ | refine go_call [] (h1) rfl rfl rfl rfl ?_ | refine go_call [] (h2) rfl rfl rfl rfl ?_ | refine go_idx rfl rfl rfl rfl (by omega) hr rfl ?_ | refine go_append (rows2 := [l].map Line.enc) rfl rfl rfl rfl rfl rfl rfl rfl rfl rfl rfl rfl hone rfl rfl rfl hb ?_) <;> conv => whnf) | ((first | refine Or.inl ?_ | refine go_loadB ?_ | refine ⟨by kernel_rfl, ?_⟩ | refine go_ret ?_) <;> conv => whnf) | refine go_block ?_ | ((first | refine go_skip ?_ | refine go_exit ?_) <;> conv => whnf) | refine go_true rfl ?_ | refine go_false rfl ?_ | refine go_cond rfl (fun h => ?_) (fun h => ?_) | refine ⟨rfl, ?_⟩ | ((first | refine ⟨trivial, ?_⟩ | refine ⟨le_of_ble rfl, ?_⟩) <;> conv => whnf) | fail
    all_goals first
      | (refine go_next (i + 1) (by omega) (by omega) (ref_st (fun j => if j = 1002 then nid 3 41 else j) rfl ⟨⟨rfl, rfl⟩, ⟨rfl, rfl⟩, ⟨rfl, rfl⟩, next_i (by omega), trivial⟩ ⟨⟨rfl, wavs_imm _⟩, ⟨rfl, ⟨rfl, rfl⟩, ⟨?_, rfl⟩, trivial⟩, ?_, ⟨rfl, wavs_imm _⟩, rfl, trivial⟩ (by simp [nid]) rfl (by simp))
         · show AV.own _ _ _ = AV.own _ _ _
           rw [hnx, List.length_append]; try rfl
         · show some _ = some _
           rw [hnx]; try rfl
         done)
      | (exfalso; simp at h; omega)
      | trace_state
end Go.Proofs.Ytfjphbjbobojbaa

