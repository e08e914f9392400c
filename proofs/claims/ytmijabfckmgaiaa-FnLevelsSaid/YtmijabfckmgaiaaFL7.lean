/- Charging: the plan of fewest minutes: the program. -/
import Derived.Test.YtmijabfckmgaiaaFL5
namespace Go.Proofs.Ytmijabfckmgaiaa
open Go Go.Am
set_option maxRecDepth 100000
set_option maxHeartbeats 8000000
attribute [local irreducible] amOps amC opCall opIndexAddr opPick retQ opMake opStore amDraw opAppend opLoad opNilCmp opIndex opSlice

theorem c13 (xs : List Leg) (hl : xs.length ≤ 1048576) (b : Bat) (lv : Int) :
    CallOk Try.prog 13 [.imm (.list (xs.map Leg.enc)), .imm (.agg (batE b)), .imm (.int .i64 lv)] { res := [.imm (.list (((fewP xs b lv).getD []).map intRow)), .imm (.bool (fewP xs b lv).isSome), .imm (.bool (chgOk xs b lv))], sep := false } := by
  refine callOk_of tyOk Try.func13 rfl rfl (le_of_ble rfl) (le_of_ble rfl) (mutOk_imm rfl _) ?_
  have h1 := c23 xs hl b lv
  cases hc : chgOk xs b lv with
  | false =>
    rw [hc] at h1
    have hnone : fewP xs b lv = none := by unfold fewP; rw [hc]; rfl
    rw [hnone]
    repeat' first | refine go_seq ?_ | refine go_region ?_ | refine go_miss rfl rfl rfl ?_ | refine go_undef rfl rfl rfl ?_ | refine go_draw drawsOk ?_ | ((first | refine go_op rfl ?_ | refine go_nil ?_ | refine go_hit rfl rfl rfl ?_ | refine go_splitT rfl rfl rfl (fun h => ?_) (fun h => ?_) | refine go_splitF rfl rfl rfl (fun h => ?_) (fun h => ?_) | refine go_storeBox rfl rfl rfl rfl rfl rfl ?_ | refine go_dop rfl ?_ | refine go_dhit rfl rfl ?_ | refine go_dmiss rfl rfl ?_ | refine go_dundef rfl rfl ?_ | refine go_dend (by kernel_rfl) ?_ | refine go_pickT rfl ?_ | refine go_pickF rfl ?_ | refine go_pick rfl (fun h => ?_) (fun h => ?_) | refine go_call [] (h1) rfl rfl rfl rfl ?_) <;> conv => whnf) | ((first | refine go_dsplit2 rfl (fun h => ?_) (fun h => ?_) | refine go_loadB ?_ | refine ⟨by kernel_rfl, ?_⟩ | refine go_ret ?_) <;> conv => whnf) | refine go_block ?_ | ((first | refine go_skip ?_ | refine go_exit ?_) <;> conv => whnf) | refine go_true rfl ?_ | refine go_false rfl ?_ | refine go_cond rfl (fun h => ?_) (fun h => ?_) | refine ⟨rfl, ?_⟩ | ((first | refine ⟨trivial, ?_⟩ | refine ⟨le_of_ble rfl, ?_⟩) <;> conv => whnf) | fail
    all_goals exact ret_all rfl ⟨⟨rfl, (fun h => by cases h), by show _ ∉ ([] : List Nat); simp⟩, ⟨rfl, fun h => by cases h⟩, ⟨rfl, fun h => by cases h⟩, trivial⟩ (by show List.Nodup [_]; simp) List.nodup_nil trivial
  | true =>
  rw [hc] at h1
  obtain ⟨hv, hbo, hlv⟩ := chg_at hc
  have hn := (legs_at hv).1
  have hbt := bat_at hbo
  have hlm : ((xs.map Leg.enc).length : Int) = xs.length := by rw [List.length_map]
  obtain ⟨N, hN⟩ : ∃ N, N + 1 = xs.length := ⟨xs.length - 1, by omega⟩
  have hN1 : xs.length - 1 = N := by omega
  have hwN : IntKind.i64.wrap (((xs.map Leg.enc).length : Int) - 1) = ((N : Nat) : Int) := by rw [hlm, wrap_small (by omega) (by omega)]; omega
  have hmk : AV.imm (.int .i64 (IntKind.i64.wrap (((xs.map Leg.enc).length : Int) - 1))) = .imm (.int .i64 ((N : Nat) : Int)) := by rw [hwN]
  obtain ⟨R, hR⟩ : ∃ R, R = fewP xs b lv := ⟨_, rfl⟩
  have hR0 : fewR xs b lv (fuelP xs (zeroP xs)) (zeroP xs) = R := by rw [hR]; unfold fewP; rw [hc, if_pos rfl]
  rw [← hR]
  repeat' first | refine go_seq ?_ | refine go_region ?_ | refine go_miss rfl rfl rfl ?_ | refine go_undef rfl rfl rfl ?_ | refine go_draw drawsOk ?_ | ((first | refine go_op rfl ?_ | refine go_nil ?_ | refine go_hit rfl rfl rfl ?_ | refine go_splitT rfl rfl rfl (fun h => ?_) (fun h => ?_) | refine go_splitF rfl rfl rfl (fun h => ?_) (fun h => ?_) | refine go_storeBox rfl rfl rfl rfl rfl rfl ?_ | refine go_dop rfl ?_ | refine go_dhit rfl rfl ?_ | refine go_dmiss rfl rfl ?_ | refine go_dundef rfl rfl ?_ | refine go_dend (by kernel_rfl) ?_ | refine go_pickT rfl ?_ | refine go_pickF rfl ?_ | refine go_pick rfl (fun h => ?_) (fun h => ?_) | refine go_call [] (h1) rfl rfl rfl rfl ?_ | refine go_makeN (i := N) rfl rfl hmk rfl rfl rfl rfl rfl rfl (by rw [hwN]; omega) (by rw [hwN]; omega) ?_) <;> conv => whnf) | ((first | refine go_dsplit2 rfl (fun h => ?_) (fun h => ?_) | refine go_loadB ?_ | refine ⟨by kernel_rfl, ?_⟩ | refine go_ret ?_) <;> conv => whnf) | refine go_block ?_ | ((first | refine go_skip ?_ | refine go_exit ?_) <;> conv => whnf) | refine go_true rfl ?_ | refine go_false rfl ?_ | refine go_cond rfl (fun h => ?_) (fun h => ?_) | refine ⟨rfl, ?_⟩ | ((first | refine ⟨trivial, ?_⟩ | refine ⟨le_of_ble rfl, ?_⟩) <;> conv => whnf) | fail
  clear h1
  refine go_loop (α := List Int) (fun p => plOk xs p = true ∧ fewR xs b lv (fuelP xs p) p = R) (fun p => fuelP xs p)
    (fun p => st Try.f13.ntmps [(0, .imm (.list (xs.map Leg.enc))), (2, .imm (.int .i64 lv)), (4, .box 1001 0), (9, .own 1000 0 N)]
      [(1000, .arr 3 1 (p.map intRow)), (1001, .box 26 ((batE b).map .imm))] []) (zeroP xs) ⟨zero_ok hv, hR0⟩ ?_ ?_
  · refine ref_st (fun i => if i = 1000 then nid 3 22 else nid 1 4) rfl ⟨rfl, rfl, ⟨rfl, rfl⟩, ⟨rfl, rfl⟩, trivial⟩ ⟨?_, ⟨rfl, wavs_imm _⟩, trivial⟩ (by simp [nid]) rfl (by simp)
    show some _ = some _
    unfold zeroP
    rw [List.map_replicate, hN1]; rfl
  rintro p ⟨hp, hRp⟩
  obtain ⟨q1, q2⟩ := pl_iff.1 hp
  have hpN : p.length = N := by omega
  have hpv : ((p.map intRow).drop 0).take N = p.map intRow := by rw [List.drop_zero, List.take_of_length_le (by simp; omega)]
  have hlenA := afL_len xs b lv p
  have hLA : CallOk Try.prog 25 [.imm (.list (xs.map Leg.enc)), .imm (.agg (batE b)), .imm (.int .i64 lv), .imm (.list (((p.map intRow).drop 0).take N))] { res := [.imm (.list ((afL xs b lv p).map intRow)), .imm (.list ((bfL xs b lv p).map intRow))] } := by
    rw [hpv]; exact c25 xs b lv p hc hp
  have hFE := c30 b (afL xs b lv p) (by omega)
  by_cases he : fstE b (afL xs b lv p) < 0
  · rw [few_done hp he] at hRp
    rw [← hRp]
    repeat' first | refine go_seq ?_ | refine go_region ?_ | refine go_miss rfl rfl rfl ?_ | refine go_undef rfl rfl rfl ?_ | refine go_draw drawsOk ?_ | ((first | refine go_op rfl ?_ | refine go_nil ?_ | refine go_hit rfl rfl rfl ?_ | refine go_splitT rfl rfl rfl (fun h => ?_) (fun h => ?_) | refine go_splitF rfl rfl rfl (fun h => ?_) (fun h => ?_) | refine go_storeBox rfl rfl rfl rfl rfl rfl ?_ | refine go_dop rfl ?_ | refine go_dhit rfl rfl ?_ | refine go_dmiss rfl rfl ?_ | refine go_dundef rfl rfl ?_ | refine go_dend (by kernel_rfl) ?_ | refine go_pickT rfl ?_ | refine go_pickF rfl ?_ | refine go_pick rfl (fun h => ?_) (fun h => ?_) | refine go_call [] (hLA) rfl rfl rfl rfl ?_ | refine go_call [] (hFE) rfl rfl rfl rfl ?_) <;> conv => whnf) | ((first | refine go_dsplit2 rfl (fun h => ?_) (fun h => ?_) | refine go_loadB ?_ | refine ⟨by kernel_rfl, ?_⟩ | refine go_ret ?_) <;> conv => whnf) | refine go_block ?_ | ((first | refine go_skip ?_ | refine go_exit ?_) <;> conv => whnf) | refine go_true rfl ?_ | refine go_false rfl ?_ | refine go_cond rfl (fun h => ?_) (fun h => ?_) | refine ⟨rfl, ?_⟩ | ((first | refine ⟨trivial, ?_⟩ | refine ⟨le_of_ble rfl, ?_⟩) <;> conv => whnf) | fail
    all_goals first
      | (exfalso; simp only [decide_eq_true_eq, decide_eq_false_iff_not] at *; omega)
      | (refine ret_all rfl ⟨⟨?_, (fun h => by cases h), by show _ ∉ ([] : List Nat); simp⟩, ⟨rfl, fun h => by cases h⟩, ⟨rfl, fun h => by cases h⟩, trivial⟩ (by show List.Nodup [_]; simp) List.nodup_nil trivial
         show D.list _ = D.list _
         exact congrArg D.list hpv.symm)
      | trace_state
  · have hlt := fstE_lt (b := b) (L := afL xs b lv p) (by omega)
    obtain ⟨E, hE⟩ := Int.eq_ofNat_of_zero_le (show 0 ≤ fstE b (afL xs b lv p) by omega)
    have hEn : E < xs.length := by rw [hE, hlenA] at hlt; exact hlt
    have hEN : (fstE b (afL xs b lv p)).toNat = E := by rw [hE]; rfl
    repeat' first | refine go_seq ?_ | refine go_region ?_ | refine go_miss rfl rfl rfl ?_ | refine go_undef rfl rfl rfl ?_ | refine go_draw drawsOk ?_ | ((first | refine go_op rfl ?_ | refine go_nil ?_ | refine go_hit rfl rfl rfl ?_ | refine go_splitT rfl rfl rfl (fun h => ?_) (fun h => ?_) | refine go_splitF rfl rfl rfl (fun h => ?_) (fun h => ?_) | refine go_storeBox rfl rfl rfl rfl rfl rfl ?_ | refine go_dop rfl ?_ | refine go_dhit rfl rfl ?_ | refine go_dmiss rfl rfl ?_ | refine go_dundef rfl rfl ?_ | refine go_dend (by kernel_rfl) ?_ | refine go_pickT rfl ?_ | refine go_pickF rfl ?_ | refine go_pick rfl (fun h => ?_) (fun h => ?_) | refine go_call [] (hLA) rfl rfl rfl rfl ?_ | refine go_call [] (hFE) rfl rfl rfl rfl ?_) <;> conv => whnf) | ((first | refine go_dsplit2 rfl (fun h => ?_) (fun h => ?_) | refine go_loadB ?_ | refine ⟨by kernel_rfl, ?_⟩ | refine go_ret ?_) <;> conv => whnf) | refine go_block ?_ | ((first | refine go_skip ?_ | refine go_exit ?_) <;> conv => whnf) | refine go_true rfl ?_ | refine go_false rfl ?_ | refine go_cond rfl (fun h => ?_) (fun h => ?_) | refine ⟨rfl, ?_⟩ | ((first | refine ⟨trivial, ?_⟩ | refine ⟨le_of_ble rfl, ?_⟩) <;> conv => whnf) | fail
    all_goals try first
      | (exfalso; simp only [decide_eq_true_eq, decide_eq_false_iff_not] at *; omega)
    clear hLA hFE
    refine go_loop (α := Nat) (fun i => i ≤ E ∧ bkN xs b lv p i = bkN xs b lv p E) (fun i => i)
      (fun i => st Try.f13.ntmps [(0, .imm (.list (xs.map Leg.enc))), (2, .imm (.int .i64 lv)), (4, .box 1001 0), (9, .own 1000 0 N), (11, .imm (.list ((bfL xs b lv p).map intRow))), (13, .imm (.int .i64 (i : Nat)))]
        [(1000, .arr 3 1 (p.map intRow)), (1001, .box 26 ((batE b).map .imm))] []) E ⟨Nat.le_refl _, rfl⟩ ?_ ?_
    · exact ref_st id rfl ⟨rfl, rfl, ⟨rfl, rfl⟩, ⟨rfl, rfl⟩, rfl, congrArg (fun z => AV.imm (.int .i64 z)) hE, trivial⟩ ⟨rfl, ⟨rfl, wavs_imm _⟩, trivial⟩ (by simp) rfl (by simp)
    rintro i ⟨hi, hbk⟩
    cases i with
    | zero =>
      have hK : bkN xs b lv p (fstE b (afL xs b lv p)).toNat = 0 := by rw [hEN, ← hbk]; rfl
      rw [few_none hp he hK] at hRp
      rw [← hRp]
      repeat' first | refine go_seq ?_ | refine go_region ?_ | refine go_miss rfl rfl rfl ?_ | refine go_undef rfl rfl rfl ?_ | refine go_draw drawsOk ?_ | ((first | refine go_op rfl ?_ | refine go_nil ?_ | refine go_hit rfl rfl rfl ?_ | refine go_splitT rfl rfl rfl (fun h => ?_) (fun h => ?_) | refine go_splitF rfl rfl rfl (fun h => ?_) (fun h => ?_) | refine go_storeBox rfl rfl rfl rfl rfl rfl ?_ | refine go_dop rfl ?_ | refine go_dhit rfl rfl ?_ | refine go_dmiss rfl rfl ?_ | refine go_dundef rfl rfl ?_ | refine go_dend (by kernel_rfl) ?_ | refine go_pickT rfl ?_ | refine go_pickF rfl ?_ | refine go_pick rfl (fun h => ?_) (fun h => ?_)) <;> conv => whnf) | ((first | refine go_dsplit2 rfl (fun h => ?_) (fun h => ?_) | refine go_loadB ?_ | refine ⟨by kernel_rfl, ?_⟩ | refine go_ret ?_) <;> conv => whnf) | refine go_block ?_ | ((first | refine go_skip ?_ | refine go_exit ?_) <;> conv => whnf) | refine go_true rfl ?_ | refine go_false rfl ?_ | refine go_cond rfl (fun h => ?_) (fun h => ?_) | refine ⟨rfl, ?_⟩ | ((first | refine ⟨trivial, ?_⟩ | refine ⟨le_of_ble rfl, ?_⟩) <;> conv => whnf) | fail
      all_goals first
        | (exfalso; simp only [decide_eq_true_eq, decide_eq_false_iff_not] at *; omega)
        | exact ret_all rfl ⟨⟨rfl, (fun h => by cases h), by show _ ∉ ([] : List Nat); simp⟩, ⟨rfl, fun h => by cases h⟩, ⟨rfl, fun h => by cases h⟩, trivial⟩ (by show List.Nodup [_]; simp) List.nodup_nil trivial
        | (exfalso; simp at h; done)
        | trace_state
    | succ k =>
      have hkN : k < N := by omega
      have hx : p[k]? = some p[k] := List.getElem?_eq_getElem (by omega)
      have hrp := row_at intRow hx
      have hrp' : (p.map intRow)[k]? = some (intRow p[k]) := hrp
      have hpl := plAt_of hx
      have hqk := q2 k (by omega)
      have hbr := brk_at hv (i := k) (by omega)
      have hrb := row_at intRow (bfL_at (xs := xs) (b := b) (lv := lv) (p := p) (i := k + 1) (by omega))
      have hw : IntKind.i64.wrap (((k + 1 : Nat) : Int) - 1) = (k : Int) := by rw [wrap_small (by omega) (by omega)]; omega
      have hdec : AV.imm (.int .i64 (IntKind.i64.wrap (((k + 1 : Nat) : Int) - 1))) = .imm (.int .i64 ((k : Nat) : Int)) := by rw [hw]
      have hset : (p.map intRow).set k [D.int .i64 (IntKind.i64.wrap (p[k] + 1))] = (incP p k).map intRow := by
        unfold incP
        rw [List.map_set, hpl, wrap_small (by rw [← hpl]; omega) (by rw [← hpl]; omega)]; rfl
      rw [hpl] at hqk
      have hB := c31 xs hv k (by omega)
      by_cases hcond : p[k] = brk xs k ∨ b.cap ≤ bfN xs b lv p (k + 1)
      · have hbk2 : bkN xs b lv p k = bkN xs b lv p E := by rw [← hbk, bkN, hpl, if_pos hcond]
        generalize p[k] = v at *
        repeat' first | refine go_seq ?_ | refine go_region ?_ | refine go_miss rfl rfl rfl ?_ | refine go_undef rfl rfl rfl ?_ | refine go_draw drawsOk ?_ | ((first | refine go_op rfl ?_ | refine go_nil ?_ | refine go_hit rfl rfl rfl ?_ | refine go_splitT rfl rfl rfl (fun h => ?_) (fun h => ?_) | refine go_splitF rfl rfl rfl (fun h => ?_) (fun h => ?_) | refine go_storeBox rfl rfl rfl rfl rfl rfl ?_ | refine go_dop rfl ?_ | refine go_dhit rfl rfl ?_ | refine go_dmiss rfl rfl ?_ | refine go_dundef rfl rfl ?_ | refine go_dend (by kernel_rfl) ?_ | refine go_pickT rfl ?_ | refine go_pickF rfl ?_ | refine go_pick rfl (fun h => ?_) (fun h => ?_) | refine go_call [] (hB) rfl rfl rfl rfl ?_ | refine go_idxOwnI (j := k) rfl rfl hw rfl rfl rfl rfl hkN ?_ | refine go_loadEl (i := k) rfl rfl rfl hrp' ?_ | refine go_idx rfl rfl rfl rfl (by omega) hrb rfl ?_) <;> conv => whnf) | ((first | refine go_dsplit2 rfl (fun h => ?_) (fun h => ?_) | refine go_loadB ?_ | refine ⟨by kernel_rfl, ?_⟩ | refine go_ret ?_) <;> conv => whnf) | refine go_block ?_ | ((first | refine go_skip ?_ | refine go_exit ?_) <;> conv => whnf) | refine go_true rfl ?_ | refine go_false rfl ?_ | refine go_cond rfl (fun h => ?_) (fun h => ?_) | refine ⟨rfl, ?_⟩ | ((first | refine ⟨trivial, ?_⟩ | refine ⟨le_of_ble rfl, ?_⟩) <;> conv => whnf) | fail
        all_goals first
          | (exfalso; simp only [decide_eq_true_eq, decide_eq_false_iff_not] at *; omega)
          | exact go_next k ⟨by omega, hbk2⟩ (by omega) (ref_st id rfl ⟨rfl, rfl, ⟨rfl, rfl⟩, ⟨rfl, rfl⟩, rfl, hdec, trivial⟩ ⟨rfl, ⟨rfl, wavs_imm _⟩, trivial⟩ (by simp) rfl (by simp))
          | trace_state
      · have hK : bkN xs b lv p (fstE b (afL xs b lv p)).toNat = k + 1 := by rw [hEN, ← hbk, bkN, hpl, if_neg hcond]
        obtain ⟨n1, n2, n3⟩ := few_next hp he hK
        have hp2 := incP_ok hp n1 n2
        have hfu := fuel_inc hp n1 n2
        rw [n3] at hRp
        generalize p[k] = v at *
        repeat' first | refine go_seq ?_ | refine go_region ?_ | refine go_miss rfl rfl rfl ?_ | refine go_undef rfl rfl rfl ?_ | refine go_draw drawsOk ?_ | ((first | refine go_op rfl ?_ | refine go_nil ?_ | refine go_hit rfl rfl rfl ?_ | refine go_splitT rfl rfl rfl (fun h => ?_) (fun h => ?_) | refine go_splitF rfl rfl rfl (fun h => ?_) (fun h => ?_) | refine go_storeBox rfl rfl rfl rfl rfl rfl ?_ | refine go_dop rfl ?_ | refine go_dhit rfl rfl ?_ | refine go_dmiss rfl rfl ?_ | refine go_dundef rfl rfl ?_ | refine go_dend (by kernel_rfl) ?_ | refine go_pickT rfl ?_ | refine go_pickF rfl ?_ | refine go_pick rfl (fun h => ?_) (fun h => ?_) | refine go_call [] (hB) rfl rfl rfl rfl ?_ | refine go_idxOwnI (j := k) rfl rfl hw rfl rfl rfl rfl hkN ?_ | refine go_loadEl (i := k) rfl rfl rfl hrp' ?_ | refine go_idx rfl rfl rfl rfl (by omega) hrb rfl ?_ | refine go_storeRow rfl rfl rfl rfl hrp' rfl rfl hset ?_) <;> conv => whnf) | ((first | refine go_dsplit2 rfl (fun h => ?_) (fun h => ?_) | refine go_loadB ?_ | refine ⟨by kernel_rfl, ?_⟩ | refine go_ret ?_) <;> conv => whnf) | refine go_block ?_ | ((first | refine go_skip ?_ | refine go_exit ?_) <;> conv => whnf) | refine go_true rfl ?_ | refine go_false rfl ?_ | refine go_cond rfl (fun h => ?_) (fun h => ?_) | refine ⟨rfl, ?_⟩ | ((first | refine ⟨trivial, ?_⟩ | refine ⟨le_of_ble rfl, ?_⟩) <;> conv => whnf) | fail
        all_goals first
          | (exfalso; simp only [decide_eq_true_eq, decide_eq_false_iff_not] at *; omega)
          | exact go_next (incP p k) ⟨hp2, hRp⟩ (by omega) (ref_st id rfl ⟨rfl, rfl, ⟨rfl, rfl⟩, ⟨rfl, rfl⟩, trivial⟩ ⟨rfl, ⟨rfl, wavs_imm _⟩, trivial⟩ (by simp) rfl (by simp))
          | trace_state
end Go.Proofs.Ytmijabfckmgaiaa

