/- The draws of FnServiceDays: days to which a calendar is fitted, and a calendar with a day. -/
import Derived.Test.YtlpdlfdafgoafaaSD12
namespace Go.Proofs.Ytlpdlfdafgoafaa
open Go Go.Am Go.SD
set_option maxRecDepth 100000
set_option maxHeartbeats 8000000
attribute [local irreducible] amOps amC opCall opIndexAddr opPick retQ opMake opStore amDraw opAppend opLoad opNilCmp opIndex opSlice

def smallC (x : Cal) : Prop := (0 ≤ x.fro ∧ x.fro ≤ 3600) ∧ (-1 ≤ x.to ∧ x.to ≤ 3651) ∧ x.added.length ≤ 6 ∧ x.removed.length ≤ 6
theorem cal_ok (xs : List Int) (hx : areB xs) : ∃ (x : Cal) (c : Cu), smallC x ∧ c.k ≤ 3000 ∧
    CallOk Try.prog 17 [.box 46 (cu xs ⟨0, 0⟩)] { res := [.imm (.int .i64 x.fro), .imm (.int .i64 x.to), .imm (.int .i64 x.wd), .imm (.list (x.added.map intRow)), .imm (.list (x.removed.map intRow))], muts := [.box 46 ((cu xs c).map .imm)], sep := false, agg := true } := by
  obtain ⟨c0, hc0⟩ : ∃ c0 : Cu, c0 = ⟨0, 0⟩ := ⟨_, rfl⟩
  have hk0 : c0.k = 0 := by rw [hc0]
  rw [← hc0]
  obtain ⟨a1, a2, hA⟩ := am_ok hx (c := c0) (l := kF) (by omega) (by decide) (by decide)
  obtain ⟨t1, t2, hT⟩ := am_ok hx (c := (am xs c0 kF).2) (l := kT) (by omega) (by decide) (by decide)
  obtain ⟨w1, w2, hW⟩ := am_ok hx (c := (am xs (am xs c0 kF).2 kT).2) (l := kW) (by omega) (by decide) (by decide)
  have za := in_kF a1
  have zt := in_kT t1
  obtain ⟨b, hb⟩ : ∃ b : Cal, b = ⟨(am xs c0 kF).1, (am xs c0 kF).1 + (am xs (am xs c0 kF).2 kT).1, (am xs (am xs (am xs c0 kF).2 kT).2 kW).1, [], []⟩ := ⟨_, rfl⟩
  obtain ⟨F, hF⟩ : ∃ F : Cs, F = calL xs b (span b) b.fro ⟨(am xs (am xs (am xs c0 kF).2 kT).2 kW).2, [], []⟩ := ⟨_, rfl⟩
  have hw := cal_walk xs hx c0 (by omega) b hb F hF
  have hbf : 0 ≤ b.fro ∧ b.fro ≤ 3600 := by rw [hb]; exact za
  have hbt : b.fro ≤ b.to ∧ b.to ≤ b.fro + 40 := by rw [hb]; simp only; omega
  have hsp : span b ≤ 41 := by unfold span; omega
  have hL := calL_ok hx b (span b) b.fro ⟨(am xs (am xs (am xs c0 kF).2 kT).2 kW).2, [], []⟩ (by simp only; omega) (by simp)
  rw [← hF] at hL
  simp only at hL
  obtain ⟨p1, p2, hp⟩ := pk_ok hx (c := F.c) (by omega) 40
  obtain ⟨d1, d2, _⟩ := am_ok hx (c := (pk xs F.c 40).2) (l := kE) (by omega) (by decide) (by decide)
  obtain ⟨v1, v2, _⟩ := am_ok hx (c := (pk xs F.c 40).2) (l := kV) (by omega) (by decide) (by decide)
  have zd := in_kE d1
  have hwt : IntKind.i64.wrap (b.to + 1) = b.to + 1 := wrap_small (by omega) (by omega)
  refine ⟨(calX xs b F).1, (calX xs b F).2, ?_, ?_, hw⟩
  · unfold calX smallC
    (repeat' split) <;> simp only [List.length_append, List.length_cons, List.length_nil] <;> omega
  · unfold calX
    (repeat' split) <;> simp only <;> omega

theorem dayNear_ok (xs : List Int) (hx : areB xs) (c : Cu) (hk : c.k ≤ 10000) (x : Cal) : ∃ (d : Int) (c' : Cu),
    CallOk Try.prog 38 [.box 46 (cu xs c), .imm (.agg (calE x))] { res := [.imm (.int .i64 d)], muts := [.box 46 ((cu xs c').map .imm)], sep := false } := by
  obtain ⟨p1, p2, hp⟩ := pk_ok hx (c := c) (by omega) 41
  obtain ⟨d1, d2, hd⟩ := am_ok hx (c := (pk xs c 41).2) (l := [x.fro, x.to, IntKind.i64.wrap (x.fro + (pk xs c 41).1), IntKind.i64.wrap (x.fro - 1), IntKind.i64.wrap (x.to + 1), 3651]) (by omega) (by simp) (by simp)
  generalize am xs (pk xs c 41).2 [x.fro, x.to, IntKind.i64.wrap (x.fro + (pk xs c 41).1), IntKind.i64.wrap (x.fro - 1), IntKind.i64.wrap (x.to + 1), 3651] = R at hd
  refine ⟨R.1, R.2, ?_⟩
  refine callOk_of tyOk Try.func38 rfl rfl (le_of_ble rfl) (le_of_ble rfl) (mutOk_box0 rfl) ?_
  repeat' first | refine go_seq ?_ | refine go_region ?_ | refine go_draw drawsOk ?_ | ((first | refine go_op rfl ?_ | refine go_nil ?_ | refine go_dop rfl ?_ | refine go_dend (by kernel_rfl) ?_ | refine go_call [2] (hp) rfl rfl rfl rfl ?_ | refine go_call [2, 1] (hd) rfl rfl rfl rfl ?_) <;> conv => whnf) | ((first | refine go_loadB ?_ | refine ⟨by kernel_rfl, ?_⟩ | refine go_ret ?_) <;> conv => whnf) | ((first | refine go_skip ?_) <;> conv => whnf) | refine ⟨rfl, ?_⟩ | ((first | refine ⟨trivial, ?_⟩ | refine ⟨le_of_ble rfl, ?_⟩) <;> conv => whnf) | fail
  all_goals first
    | exact ret_box1 rfl rfl rfl rfl rfl rfl
    | trace_state

theorem drawRuns (xs : List Int) (hx : areB xs) : ∃ (x : Cal) (d : Int), Cal.fit x ∧
    CallOk Try.prog 34 [.imm (.list (xs.map byteRow))] { res := [.imm (.agg (calE x)), .imm (.int .i64 d)], sep := false } := by
  obtain ⟨x, c, ⟨_, _, x1, x2⟩, hk, hc⟩ := cal_ok xs hx
  obtain ⟨d, c', hd⟩ := dayNear_ok xs hx c (by omega) x
  refine ⟨x, d, ⟨by omega, by omega⟩, ?_⟩
  refine callOk_of tyOk Try.func34 rfl rfl (le_of_ble rfl) (le_of_ble rfl) (mutOk_imm rfl _) ?_
  repeat' first | refine go_seq ?_ | refine go_region ?_ | refine go_draw drawsOk ?_ | ((first | refine go_op rfl ?_ | refine go_nil ?_ | refine go_storeBox rfl rfl rfl rfl rfl rfl ?_ | refine go_dop rfl ?_ | refine go_dend (by kernel_rfl) ?_ | refine go_call [2] (hc) rfl rfl rfl rfl ?_ | refine go_call [2] (hd) rfl rfl rfl rfl ?_) <;> conv => whnf) | ((first | refine Or.inl ?_ | refine go_loadB ?_ | refine ⟨by kernel_rfl, ?_⟩ | refine go_ret ?_) <;> conv => whnf) | ((first | refine go_skip ?_) <;> conv => whnf) | refine ⟨rfl, ?_⟩ | ((first | refine ⟨trivial, ?_⟩ | refine ⟨le_of_ble rfl, ?_⟩) <;> conv => whnf) | fail
  all_goals first
    | exact ret_all rfl ⟨⟨rfl, fun h => by cases h⟩, ⟨rfl, fun h => by cases h⟩, trivial⟩ List.nodup_nil List.nodup_nil trivial
    | trace_state
theorem drawNext (xs : List Int) (hx : areB xs) : ∃ (x : Cal) (d : Int), Cal.fit x ∧
    CallOk Try.prog 14 [.imm (.list (xs.map byteRow))] { res := [.imm (.agg (calE x)), .imm (.int .i64 d)], sep := false } := by
  obtain ⟨x, d, hf, hc⟩ := drawRuns xs hx
  refine ⟨x, d, hf, ?_⟩
  refine callOk_of tyOk Try.func14 rfl rfl (le_of_ble rfl) (le_of_ble rfl) (mutOk_imm rfl _) ?_
  repeat' first | refine go_seq ?_ | refine go_region ?_ | ((first | refine go_op rfl ?_ | refine go_nil ?_ | refine go_storeBox rfl rfl rfl rfl rfl rfl ?_ | refine go_call [] (hc) rfl rfl rfl rfl ?_) <;> conv => whnf) | ((first | refine ⟨by kernel_rfl, ?_⟩ | refine go_ret ?_) <;> conv => whnf) | ((first | refine go_skip ?_) <;> conv => whnf) | refine ⟨rfl, ?_⟩ | ((first | refine ⟨trivial, ?_⟩ | refine ⟨le_of_ble rfl, ?_⟩) <;> conv => whnf) | fail
  all_goals first
    | exact ret_all rfl ⟨⟨rfl, fun h => by cases h⟩, ⟨rfl, fun h => by cases h⟩, trivial⟩ List.nodup_nil List.nodup_nil trivial
    | trace_state

/-- The days that are drawn from the first j days of a calendar, and the reader. -/
noncomputable def fAt (xs : List Int) (x : Cal) (c : Cu) : Nat → List Int × Cu
  | 0 => ([], c)
  | j + 1 => ((fAt xs x c j).1 ++ (if (runG x (x.fro + (j : Int)) != (on xs (fAt xs x c j).2 12).1) = true then [x.fro + (j : Int)] else []), (on xs (fAt xs x c j).2 12).2)
theorem fAt_ok {xs : List Int} (hx : areB xs) (x : Cal) {c : Cu} (hk : c.k ≤ 3000) : ∀ j : Nat, j ≤ 61 → (fAt xs x c j).1.length ≤ j ∧ (fAt xs x c j).2.k ≤ 3000 + 2 * j
  | 0, _ => by simp only [fAt]; exact ⟨Nat.le_refl _, by omega⟩
  | j + 1, hj => by
    obtain ⟨h1, h2⟩ := fAt_ok hx x hk j (by omega)
    have ho := (on_ok hx (c := (fAt xs x c j).2) (by omega) 12).1
    simp only [fAt]
    refine ⟨?_, by omega⟩
    rw [List.length_append]
    split <;> simp <;> omega
noncomputable def fitX (xs : List Int) (x : Cal) (F : List Int × Cu) : Int × List Int :=
  if (pk xs F.2 30).1 = 0 then (x.to, F.1 ++ [IntKind.i64.wrap (x.to + 1)])
  else if (pk xs F.2 30).1 = 1 then (IntKind.i64.wrap (x.fro + (am xs (pk xs F.2 30).2 kQ).1), F.1) else (x.to, F.1)

theorem drawFit_walk (xs : List Int) (hx : areB xs) (x : Cal) (c : Cu) (hs : smallC x) (hk : c.k ≤ 3000) (N : Nat) (hN : N = min (span x) 61)
    (hcal : CallOk Try.prog 17 [.box 46 (cu xs ⟨0, 0⟩)] { res := [.imm (.int .i64 x.fro), .imm (.int .i64 x.to), .imm (.int .i64 x.wd), .imm (.list (x.added.map intRow)), .imm (.list (x.removed.map intRow))], muts := [.box 46 ((cu xs c).map .imm)], sep := false, agg := true }) :
    CallOk Try.prog 5 [.imm (.list (xs.map byteRow))] { res := [.imm (.int .i64 x.fro), .imm (.int .i64 (fitX xs x (fAt xs x c N)).1), .imm (.list ((fitX xs x (fAt xs x c N)).2.map intRow))], sep := false } := by
  refine callOk_of tyOk Try.func5 rfl rfl (le_of_ble rfl) (le_of_ble rfl) (mutOk_imm rfl _) ?_
  obtain ⟨s1, s2, s3, s4⟩ := hs
  have hsp : span x = (x.to + 1 - x.fro).toNat := rfl
  repeat' first | refine go_seq ?_ | refine go_region ?_ | refine go_miss rfl rfl rfl ?_ | refine go_undef rfl rfl rfl ?_ | refine go_draw drawsOk ?_ | ((first | refine go_op rfl ?_ | refine go_nil ?_ | refine go_hit rfl rfl rfl ?_ | refine go_splitT rfl rfl rfl (fun h => ?_) (fun h => ?_) | refine go_splitF rfl rfl rfl (fun h => ?_) (fun h => ?_) | refine go_storeBox rfl rfl rfl rfl rfl rfl ?_ | refine go_dop rfl ?_ | refine go_dhit rfl rfl ?_ | refine go_dmiss rfl rfl ?_ | refine go_dundef rfl rfl ?_ | refine go_dend (by kernel_rfl) ?_ | refine go_pickT rfl ?_ | refine go_pickF rfl ?_ | refine go_pick rfl (fun h => ?_) (fun h => ?_) | refine go_call [2] (hcal) rfl rfl rfl rfl ?_) <;> conv => whnf) | ((first | refine Or.inl ?_ | refine go_dsplit2 rfl (fun h => ?_) (fun h => ?_) | refine go_loadB ?_ | refine ⟨by kernel_rfl, ?_⟩ | refine go_ret ?_) <;> conv => whnf) | refine go_block ?_ | ((first | refine go_skip ?_ | refine go_exit ?_) <;> conv => whnf) | refine go_true rfl ?_ | refine go_false rfl ?_ | refine go_cond rfl (fun h => ?_) (fun h => ?_) | refine ⟨rfl, ?_⟩ | ((first | refine ⟨trivial, ?_⟩ | refine ⟨le_of_ble rfl, ?_⟩) <;> conv => whnf) | fail
  refine go_loop (α := Nat) (fun j => j ≤ N) (fun j => N - j)
    (fun j => st Try.f5.ntmps [(5, .box 1001 0), (6, .box 1002 0), (7, .own 1000 0 ((fAt xs x c j).1.map intRow).length), (8, .imm (.int .i64 (x.fro + (j : Nat))))]
      [(1000, .arr 3 1 ((fAt xs x c j).1.map intRow)), (1001, .box 46 ((cu xs (fAt xs x c j).2).map .imm)), (1002, .box 28 ((calE x).map .imm))] []) 0 (Nat.zero_le _) ?_ ?_
  · refine ref_st (fun i => if i = 1000 then nid 4 14 else if i = 1001 then nid 2 11 else nid 3 6) rfl ⟨⟨rfl, rfl⟩, ⟨rfl, rfl⟩, ⟨rfl, rfl⟩, ?_, trivial⟩ ⟨rfl, ⟨rfl, wavs_imm _⟩, ⟨rfl, wavs_imm _⟩, trivial⟩ (by simp [nid]) rfl (by simp)
    show AV.imm (.int .i64 x.fro) = .imm (.int .i64 (x.fro + ((0 : Nat) : Int)))
    rw [Int.natCast_zero, Int.add_zero]
  intro j hj
  clear hcal
  obtain ⟨f1, f2⟩ := fAt_ok hx x hk j (by omega)
  have hwj : IntKind.i64.wrap (x.fro + (j : Int) - x.fro) = (j : Int) := by rw [wrap_small (by omega) (by omega)]; omega
  by_cases hlast : j = N
  · rw [← hlast]
    generalize hFg : fAt xs x c j = F at *
    obtain ⟨p1, p2, hp⟩ := pk_ok hx (c := F.2) (by omega) 30
    unfold fitX
    by_cases c0 : (pk xs F.2 30).1 = 0
    · rw [if_pos c0]
      have hone := int_one [IntKind.i64.wrap (x.to + 1)]
      have hbd : (F.1.map intRow).length + 1 ≤ 1073741824 := by rw [List.length_map]; omega
      repeat' first | refine go_seq ?_ | refine go_region ?_ | refine go_miss rfl rfl rfl ?_ | refine go_undef rfl rfl rfl ?_ | refine go_draw drawsOk ?_ | ((first | refine go_op rfl ?_ | refine go_nil ?_ | refine go_hit rfl rfl rfl ?_ | refine go_splitT rfl rfl rfl (fun h => ?_) (fun h => ?_) | refine go_splitF rfl rfl rfl (fun h => ?_) (fun h => ?_) | refine go_storeBox rfl rfl rfl rfl rfl rfl ?_ | refine go_dop rfl ?_ | refine go_dhit rfl rfl ?_ | refine go_dmiss rfl rfl ?_ | refine go_dundef rfl rfl ?_ | refine go_dend (by kernel_rfl) ?_ | refine go_pickT rfl ?_ | refine go_pickF rfl ?_ | refine go_pick rfl (fun h => ?_) (fun h => ?_) | refine go_call [2] (hp) rfl rfl rfl rfl ?_ | refine go_append (rows2 := [IntKind.i64.wrap (x.to + 1)].map intRow) rfl rfl rfl rfl rfl rfl rfl rfl rfl rfl rfl rfl hone rfl rfl rfl hbd ?_) <;> conv => whnf) | ((first | refine Or.inl ?_ | refine go_dsplit2 rfl (fun h => ?_) (fun h => ?_) | refine go_loadB ?_ | refine ⟨by kernel_rfl, ?_⟩ | refine go_ret ?_) <;> conv => whnf) | refine go_block ?_ | ((first | refine go_skip ?_ | refine go_exit ?_) <;> conv => whnf) | refine go_true rfl ?_ | refine go_false rfl ?_ | refine go_cond rfl (fun h => ?_) (fun h => ?_) | refine ⟨rfl, ?_⟩ | ((first | refine ⟨trivial, ?_⟩ | refine ⟨le_of_ble rfl, ?_⟩) <;> conv => whnf) | fail
      all_goals first
        | (exfalso; simp only [decide_eq_true_eq, decide_eq_false_iff_not, hwj] at *; omega)
        | (refine ret_all rfl ⟨⟨rfl, fun h => by cases h⟩, ⟨rfl, fun h => by cases h⟩, ⟨?_, (fun h => by cases h), by show _ ∉ ([] : List Nat); simp⟩, trivial⟩ (List.nodup_cons.2 ⟨by simp [ownIds], List.nodup_nil⟩) List.nodup_nil trivial
           show D.list _ = D.list _
           rw [List.drop_zero, ← List.map_append, List.take_of_length_le (by simp)]; done)
        | trace_state
    by_cases c1 : (pk xs F.2 30).1 = 1
    · rw [if_neg c0, if_pos c1]
      obtain ⟨_, _, hd⟩ := am_ok hx (c := (pk xs F.2 30).2) (l := kQ) (by omega) (by decide) (by decide)
      repeat' first | refine go_seq ?_ | refine go_region ?_ | refine go_miss rfl rfl rfl ?_ | refine go_undef rfl rfl rfl ?_ | refine go_draw drawsOk ?_ | ((first | refine go_op rfl ?_ | refine go_nil ?_ | refine go_hit rfl rfl rfl ?_ | refine go_splitT rfl rfl rfl (fun h => ?_) (fun h => ?_) | refine go_splitF rfl rfl rfl (fun h => ?_) (fun h => ?_) | refine go_storeBox rfl rfl rfl rfl rfl rfl ?_ | refine go_dop rfl ?_ | refine go_dhit rfl rfl ?_ | refine go_dmiss rfl rfl ?_ | refine go_dundef rfl rfl ?_ | refine go_dend (by kernel_rfl) ?_ | refine go_pickT rfl ?_ | refine go_pickF rfl ?_ | refine go_pick rfl (fun h => ?_) (fun h => ?_) | refine go_call [2] (hp) rfl rfl rfl rfl ?_ | refine go_call [2, 1] (hd) rfl rfl rfl rfl ?_) <;> conv => whnf) | ((first | refine Or.inl ?_ | refine go_dsplit2 rfl (fun h => ?_) (fun h => ?_) | refine go_loadB ?_ | refine ⟨by kernel_rfl, ?_⟩ | refine go_ret ?_) <;> conv => whnf) | refine go_block ?_ | ((first | refine go_skip ?_ | refine go_exit ?_) <;> conv => whnf) | refine go_true rfl ?_ | refine go_false rfl ?_ | refine go_cond rfl (fun h => ?_) (fun h => ?_) | refine ⟨rfl, ?_⟩ | ((first | refine ⟨trivial, ?_⟩ | refine ⟨le_of_ble rfl, ?_⟩) <;> conv => whnf) | fail
      all_goals first
        | (exfalso; simp only [decide_eq_true_eq, decide_eq_false_iff_not, hwj] at *; omega)
        | (refine ret_all rfl ⟨⟨rfl, fun h => by cases h⟩, ⟨rfl, fun h => by cases h⟩, ⟨?_, (fun h => by cases h), by show _ ∉ ([] : List Nat); simp⟩, trivial⟩ (List.nodup_cons.2 ⟨by simp [ownIds], List.nodup_nil⟩) List.nodup_nil trivial
           show D.list _ = D.list _
           rw [List.drop_zero, List.take_length]; done)
        | trace_state
    rw [if_neg c0, if_neg c1]
    repeat' first | refine go_seq ?_ | refine go_region ?_ | refine go_miss rfl rfl rfl ?_ | refine go_undef rfl rfl rfl ?_ | refine go_draw drawsOk ?_ | ((first | refine go_op rfl ?_ | refine go_nil ?_ | refine go_hit rfl rfl rfl ?_ | refine go_splitT rfl rfl rfl (fun h => ?_) (fun h => ?_) | refine go_splitF rfl rfl rfl (fun h => ?_) (fun h => ?_) | refine go_storeBox rfl rfl rfl rfl rfl rfl ?_ | refine go_dop rfl ?_ | refine go_dhit rfl rfl ?_ | refine go_dmiss rfl rfl ?_ | refine go_dundef rfl rfl ?_ | refine go_dend (by kernel_rfl) ?_ | refine go_pickT rfl ?_ | refine go_pickF rfl ?_ | refine go_pick rfl (fun h => ?_) (fun h => ?_) | refine go_call [2] (hp) rfl rfl rfl rfl ?_) <;> conv => whnf) | ((first | refine Or.inl ?_ | refine go_dsplit2 rfl (fun h => ?_) (fun h => ?_) | refine go_loadB ?_ | refine ⟨by kernel_rfl, ?_⟩ | refine go_ret ?_) <;> conv => whnf) | refine go_block ?_ | ((first | refine go_skip ?_ | refine go_exit ?_) <;> conv => whnf) | refine go_true rfl ?_ | refine go_false rfl ?_ | refine go_cond rfl (fun h => ?_) (fun h => ?_) | refine ⟨rfl, ?_⟩ | ((first | refine ⟨trivial, ?_⟩ | refine ⟨le_of_ble rfl, ?_⟩) <;> conv => whnf) | fail
    all_goals first
      | (exfalso; simp only [decide_eq_true_eq, decide_eq_false_iff_not, hwj] at *; omega)
      | (refine ret_all rfl ⟨⟨rfl, fun h => by cases h⟩, ⟨rfl, fun h => by cases h⟩, ⟨?_, (fun h => by cases h), by show _ ∉ ([] : List Nat); simp⟩, trivial⟩ (List.nodup_cons.2 ⟨by simp [ownIds], List.nodup_nil⟩) List.nodup_nil trivial
         show D.list _ = D.list _
         rw [List.drop_zero, List.take_length]; done)
      | trace_state
  · have hjN : j < N := by omega
    have hd1 : AV.imm (.int .i64 (IntKind.i64.wrap (x.fro + (j : Int) + 1))) = .imm (.int .i64 (x.fro + ((j + 1 : Nat) : Int))) := by
      rw [wrap_small (by omega) (by omega)]; congr 2; omega
    have hR := l3RunsG x ⟨by omega, by omega⟩ (x.fro + (j : Int))
    obtain ⟨_, ho⟩ := on_ok hx (c := (fAt xs x c j).2) (by omega) 12
    have hA : (fAt xs x c (j + 1)).1 = (fAt xs x c j).1 ++ (if (runG x (x.fro + (j : Int)) != (on xs (fAt xs x c j).2 12).1) = true then [x.fro + (j : Int)] else []) := rfl
    have hB : (fAt xs x c (j + 1)).2 = (on xs (fAt xs x c j).2 12).2 := rfl
    have hone := int_one [x.fro + (j : Int)]
    generalize fAt xs x c j = F at *
    have hbd : (F.1.map intRow).length + 1 ≤ 1073741824 := by rw [List.length_map]; omega
    cases e1 : runG x (x.fro + (j : Int)) <;> cases e2 : (on xs F.2 12).1
    all_goals
      rw [e1] at hR
      rw [e2] at ho
      rw [e1, e2] at hA
      simp only [bne_self_eq_false, Bool.false_eq_true, if_false, List.append_nil, Bool.bne_false, Bool.bne_true, Bool.not_true, Bool.not_false, if_true, Bool.false_bne, Bool.true_bne] at hA
      repeat' first | refine go_seq ?_ | refine go_region ?_ | refine go_miss rfl rfl rfl ?_ | refine go_undef rfl rfl rfl ?_ | refine go_draw drawsOk ?_ | ((first | refine go_op rfl ?_ | refine go_nil ?_ | refine go_hit rfl rfl rfl ?_ | refine go_splitT rfl rfl rfl (fun h => ?_) (fun h => ?_) | refine go_splitF rfl rfl rfl (fun h => ?_) (fun h => ?_) | refine go_storeBox rfl rfl rfl rfl rfl rfl ?_ | refine go_dop rfl ?_ | refine go_dhit rfl rfl ?_ | refine go_dmiss rfl rfl ?_ | refine go_dundef rfl rfl ?_ | refine go_dend (by kernel_rfl) ?_ | refine go_pickT rfl ?_ | refine go_pickF rfl ?_ | refine go_pick rfl (fun h => ?_) (fun h => ?_) | refine go_call [] (hR) rfl rfl rfl rfl ?_ | refine go_call [2] (ho) rfl rfl rfl rfl ?_ | refine go_append (rows2 := [x.fro + (j : Int)].map intRow) rfl rfl rfl rfl rfl rfl rfl rfl rfl rfl rfl rfl hone rfl rfl rfl hbd ?_) <;> conv => whnf) | ((first | refine Or.inl ?_ | refine go_dsplit2 rfl (fun h => ?_) (fun h => ?_) | refine go_loadB ?_ | refine ⟨by kernel_rfl, ?_⟩ | refine go_ret ?_) <;> conv => whnf) | refine go_block ?_ | ((first | refine go_skip ?_ | refine go_exit ?_) <;> conv => whnf) | refine go_true rfl ?_ | refine go_false rfl ?_ | refine go_cond rfl (fun h => ?_) (fun h => ?_) | refine ⟨rfl, ?_⟩ | ((first | refine ⟨trivial, ?_⟩ | refine ⟨le_of_ble rfl, ?_⟩) <;> conv => whnf) | fail
      all_goals first
        | (exfalso; simp only [decide_eq_true_eq, decide_eq_false_iff_not, hwj] at *; omega)
        | (refine go_next (j + 1) (by omega) (by omega) (ref_st id rfl ⟨⟨rfl, rfl⟩, ⟨rfl, rfl⟩, ⟨?_, rfl⟩, hd1, trivial⟩ ⟨?_, ⟨rfl, ?_⟩, ⟨rfl, wavs_imm _⟩, trivial⟩ (by simp) rfl (by simp))
           · show AV.own _ _ _ = AV.own _ _ _
             rw [hA]; try rfl
           · show some _ = some _
             rw [hA]; try rfl
           · rw [hB]; exact wavs_imm _
           done)
        | (refine go_next (j + 1) (by omega) (by omega) (ref_st (fun i => if i = 1000 then nid 4 39 else i) rfl ⟨⟨rfl, rfl⟩, ⟨rfl, rfl⟩, ⟨?_, rfl⟩, hd1, trivial⟩ ⟨?_, ⟨rfl, ?_⟩, ⟨rfl, wavs_imm _⟩, trivial⟩ (by simp [nid]) rfl (by simp))
           · show AV.own _ _ _ = AV.own _ _ _
             rw [hA, List.map_append, List.length_append]; try rfl
           · show some _ = some _
             rw [hA, List.map_append]; try rfl
           · rw [hB]; exact wavs_imm _
           done)
        | trace_state
theorem drawFit (xs : List Int) (hx : areB xs) : ∃ (fro to : Int) (days : List Int), days.length ≤ 100 ∧
    CallOk Try.prog 5 [.imm (.list (xs.map byteRow))] { res := [.imm (.int .i64 fro), .imm (.int .i64 to), .imm (.list (days.map intRow))], sep := false } := by
  obtain ⟨x, c, hs, hk, hc⟩ := cal_ok xs hx
  have h := drawFit_walk xs hx x c hs hk _ rfl hc
  have hl := (fAt_ok hx x hk (min (span x) 61) (by omega)).1
  refine ⟨_, _, _, ?_, h⟩
  unfold fitX
  (repeat' split) <;> simp <;> omega
end Go.Proofs.Ytlpdlfdafgoafaa

