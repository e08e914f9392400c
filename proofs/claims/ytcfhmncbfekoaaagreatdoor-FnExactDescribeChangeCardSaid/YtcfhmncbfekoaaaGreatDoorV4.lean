/- Changes applied: the program. -/
import Derived.Test.YtcfhmncbfekoaaaGreatDoorV40
namespace Go.Proofs.YtcfhmncbfekoaaaGreatDoor
open Go Go.Am
set_option maxRecDepth 100000
set_option maxHeartbeats 8000000
attribute [local irreducible] amOps amC opCall opIndexAddr opPick retQ opMake opStore amDraw opAppend opLoad opNilCmp opIndex opSlice


theorem c101 (t : Timetable) (hf : t.fit) : CallOk Tryz.prog 101 [.imm (.agg t.enc)] { res := [.imm (.agg (ckT t).enc), .imm (.bool (ttOk t))], sep := false } := by
  refine callOk_of tyOk Tryz.func101 rfl rfl (le_of_ble rfl) (le_of_ble rfl) (mutOk_imm rfl _) ?_
  have h0 := c39 t hf
  unfold ckT
  cases hb : ttOk t with
  | true =>
    rw [hb] at h0
    rw [if_pos rfl]
    repeat' first | refine go_seq ?_ | refine go_region ?_ | ((first | refine go_op rfl ?_ | refine go_nil ?_ | refine go_storeBox rfl rfl rfl rfl rfl rfl ?_ | refine go_call [] (h0) rfl rfl rfl rfl ?_) <;> conv => whnf) | ((first | refine Or.inl ?_ | refine go_loadB ?_ | refine ⟨by kernel_rfl, ?_⟩ | refine go_ret ?_) <;> conv => whnf) | ((first | refine go_skip ?_) <;> conv => whnf) | refine go_true rfl ?_ | refine go_false rfl ?_ | refine go_cond rfl (fun h => ?_) (fun h => ?_) | refine ⟨rfl, ?_⟩ | ((first | refine ⟨trivial, ?_⟩ | refine ⟨le_of_ble rfl, ?_⟩) <;> conv => whnf) | fail
    all_goals first
      | exact ret_all rfl ⟨⟨rfl, fun h => by cases h⟩, ⟨rfl, fun h => by cases h⟩, trivial⟩ List.nodup_nil List.nodup_nil trivial
      | (exfalso; simp at h; done)
      | trace_state
  | false =>
    rw [hb] at h0
    rw [if_neg (by simp)]
    repeat' first | refine go_seq ?_ | refine go_region ?_ | ((first | refine go_op rfl ?_ | refine go_nil ?_ | refine go_storeBox rfl rfl rfl rfl rfl rfl ?_ | refine go_call [] (h0) rfl rfl rfl rfl ?_) <;> conv => whnf) | ((first | refine Or.inl ?_ | refine go_loadB ?_ | refine ⟨by kernel_rfl, ?_⟩ | refine go_ret ?_) <;> conv => whnf) | ((first | refine go_skip ?_) <;> conv => whnf) | refine go_true rfl ?_ | refine go_false rfl ?_ | refine go_cond rfl (fun h => ?_) (fun h => ?_) | refine ⟨rfl, ?_⟩ | ((first | refine ⟨trivial, ?_⟩ | refine ⟨le_of_ble rfl, ?_⟩) <;> conv => whnf) | fail
    all_goals first
      | exact ret_all rfl ⟨⟨rfl, fun h => by cases h⟩, ⟨rfl, fun h => by cases h⟩, trivial⟩ List.nodup_nil List.nodup_nil trivial
      | (exfalso; simp at h; done)
      | trace_state

theorem c60 (t : Timetable) (hf : t.fit) (hv : ttOk t = true) (cs : List Change) (hl : cs.length ≤ 1048576) : CallOk Tryz.prog 60 [.imm (.agg t.enc), .imm (.list (cs.map Change.enc))]
    { res := [.imm (.agg (apT t cs).enc), .imm (.bool (apOk t cs))], sep := false } := by
  refine callOk_of tyOk Tryz.func60 rfl rfl (le_of_ble rfl) (le_of_ble rfl) (mutOk_imm rfl _) ?_
  have h1 := c97 t hf
  have ht12 := tt_12 hv
  by_cases hlong : 24 < cs.length
  · have e1 : apT t cs = ttNone := by unfold apT apO; rw [if_pos hlong]
    have e2 : apOk t cs = false := by unfold apOk apO; rw [if_pos hlong]
    rw [e1, e2]
    repeat' first | refine go_seq ?_ | refine go_region ?_ | refine go_miss rfl rfl rfl ?_ | refine go_undef rfl rfl rfl ?_ | ((first | refine go_op rfl ?_ | refine go_nil ?_ | refine go_hit rfl rfl rfl ?_ | refine go_splitT rfl rfl rfl (fun h => ?_) (fun h => ?_) | refine go_splitF rfl rfl rfl (fun h => ?_) (fun h => ?_) | refine go_storeBox rfl rfl rfl rfl rfl rfl ?_ | refine go_pickT rfl ?_ | refine go_pickF rfl ?_ | refine go_pick rfl (fun h => ?_) (fun h => ?_)) <;> conv => whnf) | ((first | refine Or.inl ?_ | refine go_loadB ?_ | refine ⟨by kernel_rfl, ?_⟩ | refine go_ret ?_) <;> conv => whnf) | refine go_block ?_ | ((first | refine go_skip ?_ | refine go_exit ?_) <;> conv => whnf) | refine go_true rfl ?_ | refine go_false rfl ?_ | refine go_cond rfl (fun h => ?_) (fun h => ?_) | refine ⟨rfl, ?_⟩ | ((first | refine ⟨trivial, ?_⟩ | refine ⟨le_of_ble rfl, ?_⟩) <;> conv => whnf) | fail
    all_goals first
      | exact ret_all rfl ⟨⟨rfl, fun h => by cases h⟩, ⟨rfl, fun h => by cases h⟩, trivial⟩ List.nodup_nil List.nodup_nil trivial
      | (exfalso; simp at h; omega)
      | trace_state
  have eO : apO t cs = foldC cs t.trips (some 0) := by unfold apO; rw [if_neg hlong]
  have eNone : foldC cs t.trips (some 0) = none → apT t cs = ttNone ∧ apOk t cs = false := fun h => by
    unfold apT apOk
    rw [eO, h]
    exact ⟨rfl, rfl⟩
  have eSome : ∀ out, foldC cs t.trips (some 0) = some out → apT t cs = ckT ⟨t.net, out⟩ ∧ apOk t cs = ttOk ⟨t.net, out⟩ := fun out h => by
    unfold apT apOk ckT
    rw [eO, h]
    exact ⟨rfl, rfl⟩
  repeat' first | refine go_seq ?_ | refine go_region ?_ | refine go_miss rfl rfl rfl ?_ | refine go_undef rfl rfl rfl ?_ | ((first | refine go_op rfl ?_ | refine go_nil ?_ | refine go_hit rfl rfl rfl ?_ | refine go_splitT rfl rfl rfl (fun h => ?_) (fun h => ?_) | refine go_splitF rfl rfl rfl (fun h => ?_) (fun h => ?_) | refine go_storeBox rfl rfl rfl rfl rfl rfl ?_ | refine go_pickT rfl ?_ | refine go_pickF rfl ?_ | refine go_pick rfl (fun h => ?_) (fun h => ?_) | refine go_call [] (h1) rfl rfl rfl rfl ?_) <;> conv => whnf) | ((first | refine Or.inl ?_ | refine go_loadB ?_ | refine ⟨by kernel_rfl, ?_⟩ | refine go_ret ?_) <;> conv => whnf) | refine go_block ?_ | ((first | refine go_skip ?_ | refine go_exit ?_) <;> conv => whnf) | refine go_true rfl ?_ | refine go_false rfl ?_ | refine go_cond rfl (fun h => ?_) (fun h => ?_) | refine ⟨rfl, ?_⟩ | ((first | refine ⟨trivial, ?_⟩ | refine ⟨le_of_ble rfl, ?_⟩) <;> conv => whnf) | fail
  all_goals try first
    | (exfalso; simp at h; omega)
  refine go_loop (α := Nat × List Trip × Int) (fun x => x.1 ≤ cs.length ∧ foldC (cs.drop x.1) x.2.1 (some x.2.2) = foldC cs t.trips (some 0) ∧ x.2.1.length ≤ 12 + x.1) (fun x => cs.length - x.1)
    (fun x => st Tryz.f60.ntmps [(4, .box 1000 0), (6, .box 1001 0), (7, .imm (.int .i64 x.2.2)), (17, .imm (.list (cs.map Change.enc))), (18, .imm (.int .i64 (cs.map Change.enc).length)), (19, .imm (.int .i64 (x.1 : Nat)))]
      [(1000, .box 41 ([.list [], .list [], .list []].map .imm)), (1001, .box 41 [.imm (.list (t.net.stops.map strRow)), .imm (.list (t.net.lines.map Line.enc)), .own 1002 0 (x.2.1.map Trip.enc).length]), (1002, .arr 43 3 (x.2.1.map Trip.enc))] []) (0, t.trips, 0) ⟨Nat.zero_le _, rfl, ht12⟩ ?_ ?_
  · exact ref_st (fun i => if i = 1000 then nid 1 4 else if i = 1001 then nid 3 6 else rid 3 16 2) rfl ⟨⟨rfl, rfl⟩, ⟨rfl, rfl⟩, rfl, rfl, rfl, rfl, trivial⟩ ⟨⟨rfl, wavs_imm _⟩, ⟨rfl, rfl, rfl, ⟨rfl, rfl⟩, trivial⟩, rfl, trivial⟩ (by simp [nid, rid]) rfl (by simp)
  rintro ⟨i, out, last⟩ ⟨hi, hfold, hol⟩
  simp only at hi hfold hol
  have hofit : (⟨t.net, out⟩ : Timetable).fit := ⟨hf.1, by simp only; omega, fun x _ => trivial⟩
  have hview : ((out.map Trip.enc).drop 0).take (out.map Trip.enc).length = out.map Trip.enc := trip_view out
  cases hx : cs[i]? with
  | none =>
    have hge := le_of_at hx
    rw [List.drop_eq_nil_of_le hge] at hfold
    obtain ⟨e1, e2⟩ := eSome out hfold.symm
    rw [e1, e2]
    have hC : CallOk Tryz.prog 101 [.imm (.agg [.list (t.net.stops.map strRow), .list (t.net.lines.map Line.enc), .list (((out.map Trip.enc).drop 0).take (out.map Trip.enc).length)])] { res := [.imm (.agg (ckT ⟨t.net, out⟩).enc), .imm (.bool (ttOk ⟨t.net, out⟩))], sep := false } := by
      rw [hview]; exact c101 ⟨t.net, out⟩ hofit
    repeat' first | refine go_seq ?_ | refine go_region ?_ | refine go_miss rfl rfl rfl ?_ | refine go_undef rfl rfl rfl ?_ | ((first | refine go_op rfl ?_ | refine go_nil ?_ | refine go_hit rfl rfl rfl ?_ | refine go_splitT rfl rfl rfl (fun h => ?_) (fun h => ?_) | refine go_splitF rfl rfl rfl (fun h => ?_) (fun h => ?_) | refine go_storeBox rfl rfl rfl rfl rfl rfl ?_ | refine go_pickT rfl ?_ | refine go_pickF rfl ?_ | refine go_pick rfl (fun h => ?_) (fun h => ?_) | refine go_call [1] (hC) rfl rfl rfl rfl ?_) <;> conv => whnf) | ((first | refine Or.inl ?_ | refine go_loadB ?_ | refine ⟨by kernel_rfl, ?_⟩ | refine go_ret ?_) <;> conv => whnf) | refine go_block ?_ | ((first | refine go_skip ?_ | refine go_exit ?_) <;> conv => whnf) | refine go_true rfl ?_ | refine go_false rfl ?_ | refine go_cond rfl (fun h => ?_) (fun h => ?_) | refine ⟨rfl, ?_⟩ | ((first | refine ⟨trivial, ?_⟩ | refine ⟨le_of_ble rfl, ?_⟩) <;> conv => whnf) | fail
    all_goals first
      | exact ret_all rfl ⟨⟨rfl, fun h => by cases h⟩, ⟨rfl, fun h => by cases h⟩, trivial⟩ List.nodup_nil List.nodup_nil trivial
      | (exfalso; simp at h; omega)
      | trace_state
  | some c =>
    have hlt := lt_of_at hx
    have hr := row_at Change.enc hx
    rw [fold_next hx] at hfold
    by_cases hlow : c.trip.id ≤ last
    · rw [foldC_low (by simp [tooLow, hlow])] at hfold
      obtain ⟨e1, e2⟩ := eNone hfold.symm
      rw [e1, e2]
      repeat' first | refine go_seq ?_ | refine go_region ?_ | refine go_miss rfl rfl rfl ?_ | refine go_undef rfl rfl rfl ?_ | ((first | refine go_op rfl ?_ | refine go_nil ?_ | refine go_hit rfl rfl rfl ?_ | refine go_splitT rfl rfl rfl (fun h => ?_) (fun h => ?_) | refine go_splitF rfl rfl rfl (fun h => ?_) (fun h => ?_) | refine go_storeBox rfl rfl rfl rfl rfl rfl ?_ | refine go_pickT rfl ?_ | refine go_pickF rfl ?_ | refine go_pick rfl (fun h => ?_) (fun h => ?_) | refine go_idx rfl rfl rfl rfl (by omega) hr rfl ?_) <;> conv => whnf) | ((first | refine Or.inl ?_ | refine go_loadB ?_ | refine ⟨by kernel_rfl, ?_⟩ | refine go_ret ?_) <;> conv => whnf) | refine go_block ?_ | ((first | refine go_skip ?_ | refine go_exit ?_) <;> conv => whnf) | refine go_true rfl ?_ | refine go_false rfl ?_ | refine go_cond rfl (fun h => ?_) (fun h => ?_) | refine ⟨rfl, ?_⟩ | ((first | refine ⟨trivial, ?_⟩ | refine ⟨le_of_ble rfl, ?_⟩) <;> conv => whnf) | fail
      all_goals first
        | exact ret_all rfl ⟨⟨rfl, fun h => by cases h⟩, ⟨rfl, fun h => by cases h⟩, trivial⟩ List.nodup_nil List.nodup_nil trivial
        | (exfalso; simp at h; omega)
        | (exfalso; exact of_decide_eq_false h hlow)
        | (exfalso; have h' := of_decide_eq_false h; omega)
        | (exfalso; have h' := of_decide_eq_true h; omega)
        | (exfalso; rename_i hq; have h' := of_decide_eq_true hq; omega)
        | (exfalso; rename_i hq; have h' := of_decide_eq_false hq; omega)
        | (exfalso; rename_i hq _; have h' := of_decide_eq_true hq; omega)
        | (exfalso; rename_i hq _; have h' := of_decide_eq_false hq; omega)
        | trace_state
    have hnlow : tooLow (some last) c = false := by simp [tooLow]; omega
    have hIdx : CallOk Tryz.prog 98 [.imm (.list (((out.map Trip.enc).drop 0).take (out.map Trip.enc).length)), .imm (.agg c.trip.enc)] { res := [.imm (.int .i64 (placeT out c.trip))] } := by
      rw [hview]; exact c98 out (by omega) c.trip
    have hTi : CallOk Tryz.prog 41 [.imm (.agg [.list (t.net.stops.map strRow), .list (t.net.lines.map Line.enc), .list (((out.map Trip.enc).drop 0).take (out.map Trip.enc).length)]), .imm (.int .i64 c.trip.id)] { res := [.imm (.int .i64 (findT out c.trip.id))] } := by
      rw [hview]; exact c41 ⟨t.net, out⟩ (by simp only; omega) c.trip.id
    by_cases k1 : c.kind = 1 ∧ c.to = 0 ∧ findT out c.trip.id < 0
    · have hst : stepC out c = some (insT out c.trip) := by unfold stepC; rw [if_pos k1]
      rw [foldC_some hnlow hst] at hfold
      obtain ⟨q1, q2, q3⟩ := k1
      have hW : CallOk Tryz.prog 99 [.imm (.agg [.list (t.net.stops.map strRow), .list (t.net.lines.map Line.enc), .list (((out.map Trip.enc).drop 0).take (out.map Trip.enc).length)]), .imm (.agg c.trip.enc)]
          { res := [.imm (.list (t.net.stops.map strRow)), .imm (.list (t.net.lines.map Line.enc)), .arr 43 3 ((insT out c.trip).map Trip.enc)], sep := false, agg := true } := by
        rw [hview]; exact c99 ⟨t.net, out⟩ hofit c.trip
      have hnl := step_len hst
      repeat' first | refine go_seq ?_ | refine go_region ?_ | refine go_miss rfl rfl rfl ?_ | refine go_undef rfl rfl rfl ?_ | ((first | refine go_op rfl ?_ | refine go_nil ?_ | refine go_hit rfl rfl rfl ?_ | refine go_splitT rfl rfl rfl (fun h => ?_) (fun h => ?_) | refine go_splitF rfl rfl rfl (fun h => ?_) (fun h => ?_) | refine go_storeBox rfl rfl rfl rfl rfl rfl ?_ | refine go_pickT rfl ?_ | refine go_pickF rfl ?_ | refine go_pick rfl (fun h => ?_) (fun h => ?_) | refine go_call [] (hIdx) rfl rfl rfl rfl ?_ | refine go_call [] (hTi) rfl rfl rfl rfl ?_ | refine go_call [1, 0] (hW) rfl rfl rfl rfl ?_ | refine go_idx rfl rfl rfl rfl (by omega) hr rfl ?_) <;> conv => whnf) | ((first | refine Or.inl ?_ | refine go_loadB ?_ | refine ⟨by kernel_rfl, ?_⟩ | refine go_ret ?_) <;> conv => whnf) | refine go_block ?_ | ((first | refine go_skip ?_ | refine go_exit ?_) <;> conv => whnf) | refine go_true rfl ?_ | refine go_false rfl ?_ | refine go_cond rfl (fun h => ?_) (fun h => ?_) | refine ⟨rfl, ?_⟩ | ((first | refine ⟨trivial, ?_⟩ | refine ⟨le_of_ble rfl, ?_⟩) <;> conv => whnf) | fail
      all_goals first
        | (exact go_next (i + 1, insT out c.trip, c.trip.id) ⟨by simp only; omega, hfold, by simp only; omega⟩ (by simp only; omega) (ref_st (fun i => if i = 1000 then 1000 else if i = 1001 then 1001 else rid 8 58 2) rfl ⟨⟨rfl, rfl⟩, ⟨rfl, rfl⟩, rfl, rfl, rfl, next_i (by omega), trivial⟩ ⟨⟨rfl, wavs_imm _⟩, ⟨rfl, rfl, rfl, ⟨rfl, rfl⟩, trivial⟩, rfl, trivial⟩ (by simp [nid, rid]) rfl (by simp)))
        | (exfalso; exact of_decide_eq_false h q1)
        | (exfalso; exact of_decide_eq_false h q2)
        | (exfalso; exact of_decide_eq_false h q3)
        | (exfalso; exact hlow (of_decide_eq_true h))
        | (exfalso; simp at h; omega)
        | (exfalso; have h' := of_decide_eq_false h; omega)
        | (exfalso; have h' := of_decide_eq_true h; omega)
        | (exfalso; rename_i hq; have h' := of_decide_eq_true hq; omega)
        | (exfalso; rename_i hq; have h' := of_decide_eq_false hq; omega)
        | (exfalso; rename_i hq _; have h' := of_decide_eq_true hq; omega)
        | (exfalso; rename_i hq _; have h' := of_decide_eq_false hq; omega)
        | (exfalso; rename_i a1 a2 a3; exact of_decide_eq_false a1 q3)
        | (exfalso; rename_i a1 a2 a3 a4; exact of_decide_eq_false a1 q3)
        | (exfalso; rename_i a1 a2; exact of_decide_eq_false a1 q3)
        | (exfalso; simp_all; done)
        | trace_state
    have hst1 : stepC out c = if c.kind = 2 ∧ c.to = 0 ∧ 0 ≤ placeT out c.trip then some (delAt out (placeT out c.trip).toNat) else if c.kind = 3 ∧ c.to ≠ c.trip.start ∧ 0 ≤ placeT out c.trip then some (setS out (placeT out c.trip).toNat c.to) else none := by
      unfold stepC; rw [if_neg k1]
    by_cases k2 : c.kind = 2 ∧ c.to = 0 ∧ 0 ≤ placeT out c.trip
    · obtain ⟨k, hk1, hk2, hk3⟩ := place_at k2.2.2
      have hst : stepC out c = some (delAt out k) := by rw [hst1, if_pos k2, hk3]; rfl
      rw [foldC_some hnlow hst] at hfold
      rw [hk3] at hIdx
      obtain ⟨q1, q2, _⟩ := k2
      have hW : CallOk Tryz.prog 100 [.imm (.agg [.list (t.net.stops.map strRow), .list (t.net.lines.map Line.enc), .list (((out.map Trip.enc).drop 0).take (out.map Trip.enc).length)]), .imm (.int .i64 (k : Int))]
          { res := [.imm (.list (t.net.stops.map strRow)), .imm (.list (t.net.lines.map Line.enc)), .arr 43 3 ((delAt out k).map Trip.enc)], sep := false, agg := true } := by
        rw [hview]; exact c100 ⟨t.net, out⟩ hofit k hk1
      have hnl := step_len hst
      repeat' first | refine go_seq ?_ | refine go_region ?_ | refine go_miss rfl rfl rfl ?_ | refine go_undef rfl rfl rfl ?_ | ((first | refine go_op rfl ?_ | refine go_nil ?_ | refine go_hit rfl rfl rfl ?_ | refine go_splitT rfl rfl rfl (fun h => ?_) (fun h => ?_) | refine go_splitF rfl rfl rfl (fun h => ?_) (fun h => ?_) | refine go_storeBox rfl rfl rfl rfl rfl rfl ?_ | refine go_pickT rfl ?_ | refine go_pickF rfl ?_ | refine go_pick rfl (fun h => ?_) (fun h => ?_) | refine go_call [] (hIdx) rfl rfl rfl rfl ?_ | refine go_call [] (hTi) rfl rfl rfl rfl ?_ | refine go_call [1, 0] (hW) rfl rfl rfl rfl ?_ | refine go_idx rfl rfl rfl rfl (by omega) hr rfl ?_) <;> conv => whnf) | ((first | refine Or.inl ?_ | refine go_loadB ?_ | refine ⟨by kernel_rfl, ?_⟩ | refine go_ret ?_) <;> conv => whnf) | refine go_block ?_ | ((first | refine go_skip ?_ | refine go_exit ?_) <;> conv => whnf) | refine go_true rfl ?_ | refine go_false rfl ?_ | refine go_cond rfl (fun h => ?_) (fun h => ?_) | refine ⟨rfl, ?_⟩ | ((first | refine ⟨trivial, ?_⟩ | refine ⟨le_of_ble rfl, ?_⟩) <;> conv => whnf) | fail
      all_goals first
        | (exact go_next (i + 1, delAt out k, c.trip.id) ⟨by simp only; omega, hfold, by simp only; omega⟩ (by simp only; omega) (ref_st (fun i => if i = 1000 then 1000 else if i = 1001 then 1001 else rid 9 74 2) rfl ⟨⟨rfl, rfl⟩, ⟨rfl, rfl⟩, rfl, rfl, rfl, next_i (by omega), trivial⟩ ⟨⟨rfl, wavs_imm _⟩, ⟨rfl, rfl, rfl, ⟨rfl, rfl⟩, trivial⟩, rfl, trivial⟩ (by simp [nid, rid]) rfl (by simp)))
        | (exfalso; exact of_decide_eq_false h q1)
        | (exfalso; exact of_decide_eq_false h q2)
        | (exfalso; exact hlow (of_decide_eq_true h))
        | (exfalso; simp at h; omega)
        | (exfalso; have h' := of_decide_eq_false h; omega)
        | (exfalso; have h' := of_decide_eq_true h; omega)
        | (exfalso; rename_i hq; have h' := of_decide_eq_true hq; omega)
        | (exfalso; rename_i hq; have h' := of_decide_eq_false hq; omega)
        | (exfalso; rename_i hq _; have h' := of_decide_eq_true hq; omega)
        | (exfalso; rename_i hq _; have h' := of_decide_eq_false hq; omega)
        | (exfalso; rename_i a1 a2 a3; have h' := of_decide_eq_true a1; omega)
        | (exfalso; rename_i a1 a2 a3 a4; have h' := of_decide_eq_true a1; omega)
        | (exfalso; rename_i a1 a2 a3 a4 a5; have h' := of_decide_eq_true a1; omega)
        | (exfalso; rename_i a1 a2 a3 a4 a5 a6; have h' := of_decide_eq_true a1; omega)
        | (exfalso; rename_i a1 a2 a3 a4; have h' := of_decide_eq_false a1; omega)
        | (exfalso; rename_i a1 a2 a3 a4 a5; have h' := of_decide_eq_false a1; omega)
        | trace_state
    by_cases k3 : c.kind = 3 ∧ c.to ≠ c.trip.start ∧ 0 ≤ placeT out c.trip
    · obtain ⟨k, hk1, hk2, hk3⟩ := place_at k3.2.2
      have hst : stepC out c = some (setS out k c.to) := by rw [hst1, if_neg k2, if_pos k3, hk3]; rfl
      rw [foldC_some hnlow hst] at hfold
      rw [hk3] at hIdx
      obtain ⟨q1, q2, _⟩ := k3
      have hnl := step_len hst
      have hkl : k < (out.map Trip.enc).length := by rw [List.length_map]; exact hk1
      have hat : (out.map Trip.enc)[k]? = some c.trip.enc := by simp [hk2]
      have hset : (out.map Trip.enc).set k (setAt c.trip.enc 2 [.int .i64 c.to]) = (setS out k c.to).map Trip.enc := by
        rw [setS_at hk2, List.map_set]; rfl
      repeat' first | refine go_seq ?_ | refine go_region ?_ | refine go_miss rfl rfl rfl ?_ | refine go_undef rfl rfl rfl ?_ | ((first | refine go_op rfl ?_ | refine go_nil ?_ | refine go_hit rfl rfl rfl ?_ | refine go_splitT rfl rfl rfl (fun h => ?_) (fun h => ?_) | refine go_splitF rfl rfl rfl (fun h => ?_) (fun h => ?_) | refine go_storeBox rfl rfl rfl rfl rfl rfl ?_ | refine go_pickT rfl ?_ | refine go_pickF rfl ?_ | refine go_pick rfl (fun h => ?_) (fun h => ?_) | refine go_call [] (hIdx) rfl rfl rfl rfl ?_ | refine go_call [] (hTi) rfl rfl rfl rfl ?_ | refine go_idx rfl rfl rfl rfl (by omega) hr rfl ?_ | refine go_idxOwn rfl rfl rfl rfl rfl rfl hkl ?_ | refine go_storeEl rfl rfl rfl rfl hat rfl rfl hset ?_) <;> conv => whnf) | ((first | refine Or.inl ?_ | refine go_loadB ?_ | refine ⟨by kernel_rfl, ?_⟩ | refine go_ret ?_) <;> conv => whnf) | refine go_block ?_ | ((first | refine go_skip ?_ | refine go_exit ?_) <;> conv => whnf) | refine go_true rfl ?_ | refine go_false rfl ?_ | refine go_cond rfl (fun h => ?_) (fun h => ?_) | refine ⟨rfl, ?_⟩ | ((first | refine ⟨trivial, ?_⟩ | refine ⟨le_of_ble rfl, ?_⟩) <;> conv => whnf) | fail
      all_goals first
        | (refine go_next (i + 1, setS out k c.to, c.trip.id) ⟨by simp only; omega, hfold, by simp only; omega⟩ (by simp only; omega) (ref_st id rfl ⟨⟨rfl, rfl⟩, ⟨rfl, rfl⟩, rfl, rfl, rfl, next_i (by omega), trivial⟩ ⟨⟨rfl, wavs_imm _⟩, ⟨rfl, rfl, rfl, ⟨?_, rfl⟩, trivial⟩, rfl, trivial⟩ (by simp) rfl (by simp))
           show AV.own 1002 0 (out.map Trip.enc).length = AV.own 1002 0 ((setS out k c.to).map Trip.enc).length
           rw [List.length_map, List.length_map, setS_len]
           done)
        | (exfalso; exact of_decide_eq_false h q1)
        | (exfalso; exact hlow (of_decide_eq_true h))
        | (exfalso; simp at h; omega)
        | (exfalso; have h' := of_decide_eq_false h; omega)
        | (exfalso; have h' := of_decide_eq_true h; omega)
        | (exfalso; rename_i hq; have h' := of_decide_eq_true hq; omega)
        | (exfalso; rename_i hq; have h' := of_decide_eq_false hq; omega)
        | (exfalso; rename_i hq _; have h' := of_decide_eq_true hq; omega)
        | (exfalso; rename_i hq _; have h' := of_decide_eq_false hq; omega)
        | (exfalso; rename_i a1 a2 a3; have h' := of_decide_eq_true a1; omega)
        | (exfalso; rename_i a1 a2 a3 a4; have h' := of_decide_eq_true a1; omega)
        | (exfalso; rename_i a1 a2 a3 a4 a5; have h' := of_decide_eq_true a1; omega)
        | (exfalso; rename_i a1 a2 a3 a4 a5 a6; have h' := of_decide_eq_true a1; omega)
        | (exfalso; rename_i a1 a2 a3 a4; have h' := of_decide_eq_false a1; omega)
        | (exfalso; rename_i a1 a2 a3 a4 a5; have h' := of_decide_eq_false a1; omega)
        | trace_state
    · have hst : stepC out c = none := by rw [hst1, if_neg k2, if_neg k3]
      rw [foldC_none hst] at hfold
      obtain ⟨e1, e2⟩ := eNone hfold.symm
      rw [e1, e2]
      repeat' first | refine go_seq ?_ | refine go_region ?_ | refine go_miss rfl rfl rfl ?_ | refine go_undef rfl rfl rfl ?_ | ((first | refine go_op rfl ?_ | refine go_nil ?_ | refine go_hit rfl rfl rfl ?_ | refine go_splitT rfl rfl rfl (fun h => ?_) (fun h => ?_) | refine go_splitF rfl rfl rfl (fun h => ?_) (fun h => ?_) | refine go_storeBox rfl rfl rfl rfl rfl rfl ?_ | refine go_pickT rfl ?_ | refine go_pickF rfl ?_ | refine go_pick rfl (fun h => ?_) (fun h => ?_) | refine go_call [] (hIdx) rfl rfl rfl rfl ?_ | refine go_call [] (hTi) rfl rfl rfl rfl ?_ | refine go_idx rfl rfl rfl rfl (by omega) hr rfl ?_) <;> conv => whnf) | ((first | refine Or.inl ?_ | refine go_loadB ?_ | refine ⟨by kernel_rfl, ?_⟩ | refine go_ret ?_) <;> conv => whnf) | refine go_block ?_ | ((first | refine go_skip ?_ | refine go_exit ?_) <;> conv => whnf) | refine go_true rfl ?_ | refine go_false rfl ?_ | refine go_cond rfl (fun h => ?_) (fun h => ?_) | refine ⟨rfl, ?_⟩ | ((first | refine ⟨trivial, ?_⟩ | refine ⟨le_of_ble rfl, ?_⟩) <;> conv => whnf) | fail
      all_goals first
        | exact ret_all rfl ⟨⟨rfl, fun h => by cases h⟩, ⟨rfl, fun h => by cases h⟩, trivial⟩ List.nodup_nil List.nodup_nil trivial
        | (exfalso; exact hlow (of_decide_eq_true h))
        | (exfalso; simp at h; omega)
        | (exfalso; rename_i a1 a0; exact k1 ⟨of_decide_eq_true a1, of_decide_eq_true a0, of_decide_eq_true h⟩)
        | (exfalso; rename_i a1 a0; exact k2 ⟨of_decide_eq_true a1, of_decide_eq_true a0, of_decide_eq_true h⟩)
        | (exfalso; rename_i a1 a0; exact k3 ⟨of_decide_eq_true a1, by simpa using a0, of_decide_eq_true h⟩)
        | (exfalso; simp_all; done)
        | trace_state
end Go.Proofs.YtcfhmncbfekoaaaGreatDoor

