/- The draws of FnLevels: plans, ranges. -/
import Derived.Test.YtmijabfckmgaiaaFD1
namespace Go.Proofs.Ytmijabfckmgaiaa
open Go Go.Am
set_option maxRecDepth 100000
set_option maxHeartbeats 8000000
attribute [local irreducible] amOps amC opCall opIndexAddr opPick retQ opMake opStore amDraw opAppend opLoad opNilCmp opIndex opSlice

theorem most2 (a b : Int) : CallOk Try.prog 21 [.imm (.int .i64 a), .imm (.int .i64 b)] { res := [.imm (.int .i64 (if b < a then a else b))] } := by
  refine callOk_of tyOk Try.func21 rfl rfl (le_of_ble rfl) (le_of_ble rfl) (mutOk_imm rfl _) ?_
  by_cases h1 : b < a
  · rw [if_pos h1]
    repeat' first | refine go_seq ?_ | refine go_region ?_ | ((first | refine go_op rfl ?_ | refine go_nil ?_) <;> conv => whnf) | ((first | refine ⟨by kernel_rfl, ?_⟩ | refine go_ret ?_) <;> conv => whnf) | ((first | refine go_skip ?_) <;> conv => whnf) | refine go_true rfl ?_ | refine go_false rfl ?_ | refine go_cond rfl (fun h => ?_) (fun h => ?_) | refine ⟨rfl, ?_⟩ | ((first | refine ⟨trivial, ?_⟩ | refine ⟨le_of_ble rfl, ?_⟩) <;> conv => whnf) | fail
    all_goals first
      | exact ret_imm rfl rfl rfl rfl rfl rfl
      | (exfalso; simp at h; omega)
  · rw [if_neg h1]
    repeat' first | refine go_seq ?_ | refine go_region ?_ | ((first | refine go_op rfl ?_ | refine go_nil ?_) <;> conv => whnf) | ((first | refine ⟨by kernel_rfl, ?_⟩ | refine go_ret ?_) <;> conv => whnf) | ((first | refine go_skip ?_) <;> conv => whnf) | refine go_true rfl ?_ | refine go_false rfl ?_ | refine go_cond rfl (fun h => ?_) (fun h => ?_) | refine ⟨rfl, ?_⟩ | ((first | refine ⟨trivial, ?_⟩ | refine ⟨le_of_ble rfl, ?_⟩) <;> conv => whnf) | fail
    all_goals first
      | exact ret_imm rfl rfl rfl rfl rfl rfl
      | (exfalso; simp at h; omega)

/-- What is picked from for the break behind leg j. -/
def dN (L : List Leg) (j : Nat) : Int := IntKind.i64.wrap ((if 0 < IntKind.i64.wrap ((legAt L (j + 1)).fro - (legAt L j).to) then IntKind.i64.wrap ((legAt L (j + 1)).fro - (legAt L j).to) else 0) + 1)
noncomputable def dAt (xs : List Int) (L : List Leg) (c : Cu) : Nat → List Int × Cu
  | 0 => ([], c)
  | j + 1 => ((dAt xs L c j).1 ++ [(pk xs (dAt xs L c j).2 (dN L j)).1], (pk xs (dAt xs L c j).2 (dN L j)).2)
theorem dAt_ok {xs : List Int} (hx : areB xs) (L : List Leg) {c : Cu} (hk : c.k ≤ 1000) : ∀ j : Nat, j ≤ 20 → (dAt xs L c j).1.length = j ∧ (dAt xs L c j).2.k ≤ 1000 + 2 * j
  | 0, _ => by simp only [dAt]; exact ⟨rfl, by omega⟩
  | j + 1, hj => by
    obtain ⟨h1, h2⟩ := dAt_ok hx L hk j (by omega)
    obtain ⟨_, p2, _⟩ := pk_ok hx (c := (dAt xs L c j).2) (by omega) (dN L j)
    simp only [dAt]
    refine ⟨by simp [h1], by omega⟩
def kZ : List Int := [-1, 31]
noncomputable def dFin (xs : List Int) (F : List Int × Cu) : List Int :=
  if (pk xs F.2 24).1 = 0 then F.1 ++ [0] else if (pk xs F.2 24).1 = 1 then F.1.set 0 (am xs (pk xs F.2 24).2 kZ).1 else F.1
theorem drawLevels (xs : List Int) (hx : areB xs) : ∃ (L : List Leg) (b : Bat) (lv : Int) (p : List Int), L.length ≤ 8 ∧ p.length ≤ 100 ∧
    CallOk Try.prog 5 [.imm (.list (xs.map byteRow))] { res := [.imm (.list (L.map Leg.enc)), .imm (.agg (batE b)), .imm (.int .i64 lv), .imm (.list (p.map intRow))], sep := false } := by
  obtain ⟨L, c, hL, hk, hE⟩ := legs_ok xs hx
  obtain ⟨b, lv, c2, hk2, hB⟩ := bat_ok xs hx c (by omega)
  obtain ⟨N, hN⟩ : ∃ N, N = L.length - 1 := ⟨_, rfl⟩
  have hF := dAt_ok hx L (c := c2) (by omega)
  refine ⟨L, b, lv, dFin xs (dAt xs L c2 N), hL, ?_, ?_⟩
  · have := (hF N (by omega)).1
    unfold dFin
    (repeat' split) <;> (try simp only [List.length_append, List.length_cons, List.length_nil, List.length_set]) <;> omega
  refine callOk_of tyOk Try.func5 rfl rfl (le_of_ble rfl) (le_of_ble rfl) (mutOk_imm rfl _) ?_
  have hlm : ((L.map Leg.enc).length : Int) = L.length := by rw [List.length_map]
  repeat' first | refine go_seq ?_ | refine go_region ?_ | refine go_draw drawsOk ?_ | ((first | refine go_op rfl ?_ | refine go_nil ?_ | refine go_storeBox rfl rfl rfl rfl rfl rfl ?_ | refine go_dop rfl ?_ | refine go_dend (by kernel_rfl) ?_ | refine go_call [2] (hE) rfl rfl rfl rfl ?_ | refine go_call [2] (hB) rfl rfl rfl rfl ?_) <;> conv => whnf) | ((first | refine Or.inl ?_ | refine go_loadB ?_ | refine ⟨by kernel_rfl, ?_⟩ | refine go_ret ?_) <;> conv => whnf) | refine go_block ?_ | ((first | refine go_skip ?_ | refine go_exit ?_) <;> conv => whnf) | refine go_true rfl ?_ | refine go_false rfl ?_ | refine go_cond rfl (fun h => ?_) (fun h => ?_) | refine ⟨rfl, ?_⟩ | ((first | refine ⟨trivial, ?_⟩ | refine ⟨le_of_ble rfl, ?_⟩) <;> conv => whnf) | fail
  clear hE hB
  refine go_loop (α := Nat) (fun j => j ≤ N) (fun j => N - j)
    (fun j => st Try.f5.ntmps [(3, .box 1003 0), (6, .box 1001 0), (7, .imm (.list (L.map Leg.enc))), (8, .box 1002 0), (9, .imm (.int .i64 lv)), (10, .own 1000 0 ((dAt xs L c2 j).1.map intRow).length), (11, .imm (.int .i64 ((j + 1 : Nat) : Int)))]
      [(1000, .arr 3 1 ((dAt xs L c2 j).1.map intRow)), (1001, .box 47 ((cu xs (dAt xs L c2 j).2).map .imm)), (1002, .box 26 ((batE b).map .imm)), (1003, .box 26 ((batE ⟨0, 0, 0⟩).map .imm))] []) 0 (Nat.zero_le _) ?_ ?_
  · exact ref_st (fun i => if i = 1000 then nid 5 22 else if i = 1001 then nid 2 14 else if i = 1002 then nid 4 8 else nid 1 3) rfl ⟨⟨rfl, rfl⟩, ⟨rfl, rfl⟩, rfl, ⟨rfl, rfl⟩, rfl, ⟨rfl, rfl⟩, rfl, trivial⟩ ⟨rfl, ⟨rfl, wavs_imm _⟩, ⟨rfl, wavs_imm _⟩, ⟨rfl, wavs_imm _⟩, trivial⟩ (by simp [nid]) rfl (by simp)
  intro j hj
  obtain ⟨f1, f2⟩ := hF j (by omega)
  by_cases hlast : j = N
  · rw [← hlast]
    have hnl : ¬ ((j + 1 : Nat) : Int) < ((L.map Leg.enc).length : Int) := by rw [hlm]; omega
    generalize dAt xs L c2 j = F at *
    obtain ⟨p1, p2, hp⟩ := pk_ok hx (c := F.2) (by omega) 24
    have hFl : (F.1.map intRow).length = j := by rw [List.length_map]; exact f1
    unfold dFin
    by_cases c0 : (pk xs F.2 24).1 = 0
    · rw [if_pos c0]
      have hone := int_one [0]
      have hbd : (F.1.map intRow).length + 1 ≤ 1073741824 := by omega
      repeat' first | refine go_seq ?_ | refine go_region ?_ | refine go_draw drawsOk ?_ | ((first | refine go_op rfl ?_ | refine go_nil ?_ | refine go_storeBox rfl rfl rfl rfl rfl rfl ?_ | refine go_dop rfl ?_ | refine go_dend (by kernel_rfl) ?_ | refine go_call [2] (hp) rfl rfl rfl rfl ?_ | refine go_append (rows2 := [0].map intRow) rfl rfl rfl rfl rfl rfl rfl rfl rfl rfl rfl rfl hone rfl rfl rfl hbd ?_) <;> conv => whnf) | ((first | refine Or.inl ?_ | refine go_loadB ?_ | refine ⟨by kernel_rfl, ?_⟩ | refine go_ret ?_) <;> conv => whnf) | refine go_block ?_ | ((first | refine go_skip ?_ | refine go_exit ?_) <;> conv => whnf) | refine go_true rfl ?_ | refine go_false rfl ?_ | refine go_cond rfl (fun h => ?_) (fun h => ?_) | refine ⟨rfl, ?_⟩ | ((first | refine ⟨trivial, ?_⟩ | refine ⟨le_of_ble rfl, ?_⟩) <;> conv => whnf) | fail
      all_goals first
        | (exfalso; simp only [decide_eq_true_eq, decide_eq_false_iff_not] at *; omega)
        | (refine ret_all rfl ⟨⟨rfl, fun h => by cases h⟩, ⟨rfl, fun h => by cases h⟩, ⟨rfl, fun h => by cases h⟩, ⟨?_, (fun h => by cases h), by show _ ∉ ([] : List Nat); simp⟩, trivial⟩ (by show List.Nodup [_]; simp) List.nodup_nil trivial
           show D.list _ = D.list _
           rw [List.drop_zero, ← List.map_append, List.take_of_length_le (by simp)])
        | trace_state
    by_cases c1 : (pk xs F.2 24).1 = 1
    · rw [if_neg c0, if_pos c1]
      obtain ⟨_, _, hd⟩ := am_ok hx (c := (pk xs F.2 24).2) (l := kZ) (by omega) (by decide) (by decide)
      generalize am xs (pk xs F.2 24).2 kZ = A at *
      by_cases hj0 : 0 < j
      · have hx0 : F.1[0]? = some F.1[0] := List.getElem?_eq_getElem (by omega)
        have hr0 := row_at intRow hx0
        have hl0 : 0 < (F.1.map intRow).length := by omega
        have hs : (F.1.map intRow).set 0 [D.int .i64 A.1] = (F.1.set 0 A.1).map intRow := by rw [List.map_set]; rfl
        repeat' first | refine go_seq ?_ | refine go_region ?_ | refine go_draw drawsOk ?_ | ((first | refine go_op rfl ?_ | refine go_nil ?_ | refine go_storeBox rfl rfl rfl rfl rfl rfl ?_ | refine go_dop rfl ?_ | refine go_dend (by kernel_rfl) ?_ | refine go_call [2] (hp) rfl rfl rfl rfl ?_ | refine go_call [2, 1] (hd) rfl rfl rfl rfl ?_ | refine go_idxOwnI (j := 0) rfl rfl rfl rfl rfl rfl rfl hl0 ?_ | refine go_storeRow rfl rfl rfl rfl hr0 rfl rfl hs ?_) <;> conv => whnf) | ((first | refine Or.inl ?_ | refine go_loadB ?_ | refine ⟨by kernel_rfl, ?_⟩ | refine go_ret ?_) <;> conv => whnf) | refine go_block ?_ | ((first | refine go_skip ?_ | refine go_exit ?_) <;> conv => whnf) | refine go_true rfl ?_ | refine go_false rfl ?_ | refine go_cond rfl (fun h => ?_) (fun h => ?_) | refine ⟨rfl, ?_⟩ | ((first | refine ⟨trivial, ?_⟩ | refine ⟨le_of_ble rfl, ?_⟩) <;> conv => whnf) | fail
        all_goals first
          | (exfalso; simp only [decide_eq_true_eq, decide_eq_false_iff_not, hFl] at *; omega)
          | (refine ret_all rfl ⟨⟨rfl, fun h => by cases h⟩, ⟨rfl, fun h => by cases h⟩, ⟨rfl, fun h => by cases h⟩, ⟨?_, (fun h => by cases h), by show _ ∉ ([] : List Nat); simp⟩, trivial⟩ (by show List.Nodup [_]; simp) List.nodup_nil trivial
             show D.list _ = D.list _
             rw [List.drop_zero, List.take_of_length_le (by simp)])
          | trace_state
      · have hn0 : F.1 = [] := List.eq_nil_of_length_eq_zero (by omega)
        rw [hn0]
        rw [hn0] at hFl
        repeat' first | refine go_seq ?_ | refine go_region ?_ | refine go_draw drawsOk ?_ | ((first | refine go_op rfl ?_ | refine go_nil ?_ | refine go_storeBox rfl rfl rfl rfl rfl rfl ?_ | refine go_dop rfl ?_ | refine go_dend (by kernel_rfl) ?_ | refine go_call [2] (hp) rfl rfl rfl rfl ?_ | refine go_call [2, 1] (hd) rfl rfl rfl rfl ?_) <;> conv => whnf) | ((first | refine Or.inl ?_ | refine go_loadB ?_ | refine ⟨by kernel_rfl, ?_⟩ | refine go_ret ?_) <;> conv => whnf) | refine go_block ?_ | ((first | refine go_skip ?_ | refine go_exit ?_) <;> conv => whnf) | refine go_true rfl ?_ | refine go_false rfl ?_ | refine go_cond rfl (fun h => ?_) (fun h => ?_) | refine ⟨rfl, ?_⟩ | ((first | refine ⟨trivial, ?_⟩ | refine ⟨le_of_ble rfl, ?_⟩) <;> conv => whnf) | fail
        all_goals first
          | (exfalso; simp only [decide_eq_true_eq, decide_eq_false_iff_not, List.map_nil, List.length_nil] at *; omega)
          | exact ret_all rfl ⟨⟨rfl, fun h => by cases h⟩, ⟨rfl, fun h => by cases h⟩, ⟨rfl, fun h => by cases h⟩, ⟨rfl, (fun h => by cases h), by show _ ∉ ([] : List Nat); simp⟩, trivial⟩ (by show List.Nodup [_]; simp) List.nodup_nil trivial
          | (exfalso; simp at h; done)
          | trace_state
    rw [if_neg c0, if_neg c1]
    repeat' first | refine go_seq ?_ | refine go_region ?_ | refine go_draw drawsOk ?_ | ((first | refine go_op rfl ?_ | refine go_nil ?_ | refine go_storeBox rfl rfl rfl rfl rfl rfl ?_ | refine go_dop rfl ?_ | refine go_dend (by kernel_rfl) ?_ | refine go_call [2] (hp) rfl rfl rfl rfl ?_) <;> conv => whnf) | ((first | refine Or.inl ?_ | refine go_loadB ?_ | refine ⟨by kernel_rfl, ?_⟩ | refine go_ret ?_) <;> conv => whnf) | refine go_block ?_ | ((first | refine go_skip ?_ | refine go_exit ?_) <;> conv => whnf) | refine go_true rfl ?_ | refine go_false rfl ?_ | refine go_cond rfl (fun h => ?_) (fun h => ?_) | refine ⟨rfl, ?_⟩ | ((first | refine ⟨trivial, ?_⟩ | refine ⟨le_of_ble rfl, ?_⟩) <;> conv => whnf) | fail
    all_goals first
      | (exfalso; simp only [decide_eq_true_eq, decide_eq_false_iff_not] at *; omega)
      | (refine ret_all rfl ⟨⟨rfl, fun h => by cases h⟩, ⟨rfl, fun h => by cases h⟩, ⟨rfl, fun h => by cases h⟩, ⟨?_, (fun h => by cases h), by show _ ∉ ([] : List Nat); simp⟩, trivial⟩ (by show List.Nodup [_]; simp) List.nodup_nil trivial
         show D.list _ = D.list _
         rw [List.drop_zero, List.take_length])
      | trace_state
  · have g1 : L[j]? = some L[j] := List.getElem?_eq_getElem (by omega)
    have g2 : L[j + 1]? = some L[j + 1] := List.getElem?_eq_getElem (by omega)
    have hdN : dN L j = IntKind.i64.wrap ((if 0 < IntKind.i64.wrap (L[j + 1].fro - L[j].to) then IntKind.i64.wrap (L[j + 1].fro - L[j].to) else 0) + 1) := by unfold dN; rw [legAt_of g1, legAt_of g2]
    have r1 := row_at Leg.enc g1
    have r2 := row_at Leg.enc g2
    have hw : IntKind.i64.wrap (((j + 1 : Nat) : Int) - 1) = (j : Int) := by rw [wrap_small (by omega) (by omega)]; omega
    have hA : (dAt xs L c2 (j + 1)).1 = (dAt xs L c2 j).1 ++ [(pk xs (dAt xs L c2 j).2 (dN L j)).1] := rfl
    have hC : (dAt xs L c2 (j + 1)).2 = (pk xs (dAt xs L c2 j).2 (dN L j)).2 := rfl
    obtain ⟨_, _, hp⟩ := pk_ok hx (c := (dAt xs L c2 j).2) (by omega) (dN L j)
    generalize pk xs (dAt xs L c2 j).2 (dN L j) = P at *
    rw [hdN] at hp
    have hm := most2 (IntKind.i64.wrap (L[j + 1].fro - L[j].to)) 0
    generalize L[j + 1] = l2 at *
    generalize L[j] = l1 at *
    have hone := int_one [P.1]
    have hbd : ((dAt xs L c2 j).1.map intRow).length + 1 ≤ 1073741824 := by rw [List.length_map]; omega
    repeat' first | refine go_seq ?_ | refine go_region ?_ | refine go_draw drawsOk ?_ | ((first | refine go_op rfl ?_ | refine go_nil ?_ | refine go_storeBox rfl rfl rfl rfl rfl rfl ?_ | refine go_dop rfl ?_ | refine go_dend (by kernel_rfl) ?_ | refine go_call [] (hm) rfl rfl rfl rfl ?_ | refine go_call [2] (hp) rfl rfl rfl rfl ?_ | refine go_idx rfl rfl rfl rfl (by omega) r2 rfl ?_ | refine go_idx (i := IntKind.i64.wrap (((j + 1 : Nat) : Int) - 1)) rfl rfl rfl rfl (by rw [hw]; omega) (by rw [hw]; exact r1) rfl ?_ | refine go_append (rows2 := [P.1].map intRow) rfl rfl rfl rfl rfl rfl rfl rfl rfl rfl rfl rfl hone rfl rfl rfl hbd ?_) <;> conv => whnf) | ((first | refine Or.inl ?_ | refine go_loadB ?_ | refine ⟨by kernel_rfl, ?_⟩ | refine go_ret ?_) <;> conv => whnf) | refine go_block ?_ | ((first | refine go_skip ?_ | refine go_exit ?_) <;> conv => whnf) | refine go_true rfl ?_ | refine go_false rfl ?_ | refine go_cond rfl (fun h => ?_) (fun h => ?_) | refine ⟨rfl, ?_⟩ | ((first | refine ⟨trivial, ?_⟩ | refine ⟨le_of_ble rfl, ?_⟩) <;> conv => whnf) | fail
    all_goals first
      | (exfalso; simp only [decide_eq_true_eq, decide_eq_false_iff_not, hlm] at *; omega)
      | (refine go_next (j + 1) (by omega) (by omega) (ref_st (fun i => if i = 1000 then nid 3 47 else i) rfl ⟨⟨rfl, rfl⟩, ⟨rfl, rfl⟩, rfl, ⟨rfl, rfl⟩, rfl, ⟨?_, rfl⟩, next_i (by omega), trivial⟩ ⟨?_, ⟨rfl, ?_⟩, ⟨rfl, wavs_imm _⟩, ⟨rfl, wavs_imm _⟩, trivial⟩ (by simp [nid]) rfl (by simp))
         · show AV.own _ _ _ = AV.own _ _ _
           rw [hA, List.map_append, List.length_append]; try rfl
         · show some _ = some _
           rw [hA, List.map_append]; try rfl
         · rw [hC]; exact wavs_imm _)
      | trace_state

theorem drawCharge (xs : List Int) (hx : areB xs) : ∃ (L : List Leg) (b : Bat) (lv : Int), L.length ≤ 8 ∧
    CallOk Try.prog 35 [.imm (.list (xs.map byteRow))] { res := [.imm (.list (L.map Leg.enc)), .imm (.agg (batE b)), .imm (.int .i64 lv)], sep := false } := by
  obtain ⟨L, c, hL, hk, hE⟩ := legs_ok xs hx
  obtain ⟨b, lv, c2, hk2, hB⟩ := bat_ok xs hx c (by omega)
  refine ⟨L, b, lv, hL, ?_⟩
  refine callOk_of tyOk Try.func35 rfl rfl (le_of_ble rfl) (le_of_ble rfl) (mutOk_imm rfl _) ?_
  repeat' first | refine go_seq ?_ | refine go_region ?_ | refine go_draw drawsOk ?_ | ((first | refine go_op rfl ?_ | refine go_nil ?_ | refine go_storeBox rfl rfl rfl rfl rfl rfl ?_ | refine go_dop rfl ?_ | refine go_dend (by kernel_rfl) ?_ | refine go_call [2] (hE) rfl rfl rfl rfl ?_ | refine go_call [2] (hB) rfl rfl rfl rfl ?_) <;> conv => whnf) | ((first | refine Or.inl ?_ | refine go_loadB ?_ | refine ⟨by kernel_rfl, ?_⟩ | refine go_ret ?_) <;> conv => whnf) | ((first | refine go_skip ?_) <;> conv => whnf) | refine ⟨rfl, ?_⟩ | ((first | refine ⟨trivial, ?_⟩ | refine ⟨le_of_ble rfl, ?_⟩) <;> conv => whnf) | fail
  all_goals exact ret_all rfl ⟨⟨rfl, fun h => by cases h⟩, ⟨rfl, fun h => by cases h⟩, ⟨rfl, fun h => by cases h⟩, trivial⟩ List.nodup_nil List.nodup_nil trivial
theorem drawFewest (xs : List Int) (hx : areB xs) : ∃ (L : List Leg) (b : Bat) (lv : Int), L.length ≤ 8 ∧
    CallOk Try.prog 12 [.imm (.list (xs.map byteRow))] { res := [.imm (.list (L.map Leg.enc)), .imm (.agg (batE b)), .imm (.int .i64 lv)], sep := false } := by
  obtain ⟨L, b, lv, hL, hE⟩ := drawCharge xs hx
  refine ⟨L, b, lv, hL, ?_⟩
  refine callOk_of tyOk Try.func12 rfl rfl (le_of_ble rfl) (le_of_ble rfl) (mutOk_imm rfl _) ?_
  repeat' first | refine go_seq ?_ | refine go_region ?_ | ((first | refine go_op rfl ?_ | refine go_nil ?_ | refine go_storeBox rfl rfl rfl rfl rfl rfl ?_ | refine go_call [] (hE) rfl rfl rfl rfl ?_) <;> conv => whnf) | ((first | refine ⟨by kernel_rfl, ?_⟩ | refine go_ret ?_) <;> conv => whnf) | ((first | refine go_skip ?_) <;> conv => whnf) | refine ⟨rfl, ?_⟩ | ((first | refine ⟨trivial, ?_⟩ | refine ⟨le_of_ble rfl, ?_⟩) <;> conv => whnf) | fail
  all_goals exact ret_all rfl ⟨⟨rfl, fun h => by cases h⟩, ⟨rfl, fun h => by cases h⟩, ⟨rfl, fun h => by cases h⟩, trivial⟩ List.nodup_nil List.nodup_nil trivial
def kP : List Int := [1, 3, 10, 1000, 0, 1001]
theorem drawRange (xs : List Int) (hx : areB xs) : ∃ (b : Bat) (lv per : Int),
    CallOk Try.prog 15 [.imm (.list (xs.map byteRow))] { res := [.imm (.agg (batE b)), .imm (.int .i64 lv), .imm (.int .i64 per)], sep := false } := by
  obtain ⟨b, lv, c, hk, hB⟩ := bat_ok xs hx ⟨0, 0⟩ (by simp)
  simp only at hk
  obtain ⟨p1, p2, hp⟩ := pk_ok hx (c := c) (by omega) 24
  have p3 := p1.2 (by omega)
  generalize pk xs c 24 = P at *
  obtain ⟨m, hm⟩ := Int.eq_ofNat_of_zero_le (show 0 ≤ P.1 / 11 by omega)
  have hv : IntKind.i64.wrap (4 + IntKind.i64.wrap (P.1.tdiv 11)) = ((4 + m : Nat) : Int) := by
    rw [Int.tdiv_eq_ediv_of_nonneg p1.1, wrap_small (n := P.1 / 11) (by omega) (by omega), wrap_small (by omega) (by omega)]
    omega
  have hm6 : 4 + m ≤ 6 := by omega
  have h11 : (11 : Int) ≠ 0 := by omega
  have hl7 : (kP.take (4 + m)).length = 4 + m := by rw [List.length_take]; show min (4 + m) 6 = _; omega
  obtain ⟨_, _, hA⟩ := am_ok hx (c := P.2) (l := kP.take (4 + m)) (by omega) (by omega) (by omega)
  generalize am xs P.2 (kP.take (4 + m)) = A at *
  have hA' : CallOk Try.prog 22 [.box 47 (cu xs P.2), .imm (.list (((kP.map intRow).drop 0).take (4 + m)))] { res := [.imm (.int .i64 A.1)], muts := [.box 47 ((cu xs A.2).map .imm)], sep := false } := by
    rw [List.drop_zero, ← List.map_take]; exact hA
  refine ⟨b, lv, A.1, ?_⟩
  refine callOk_of tyOk Try.func15 rfl rfl (le_of_ble rfl) (le_of_ble rfl) (mutOk_imm rfl _) ?_
  repeat' first | refine go_seq ?_ | refine go_region ?_ | refine go_draw drawsOk ?_ | ((first | refine go_op rfl ?_ | refine go_nil ?_ | refine go_storeBox rfl rfl rfl rfl rfl rfl ?_ | refine go_dop rfl ?_ | refine go_dend (by kernel_rfl) ?_ | refine go_call [2] (hB) rfl rfl rfl rfl ?_ | refine go_call [2] (hp) rfl rfl rfl rfl ?_ | refine go_call [2, 1] (hA') rfl rfl rfl rfl ?_ | refine ⟨h11, ?_⟩ | refine go_sliceTo (k := 4 + m) rfl rfl rfl rfl rfl (congrArg (fun z => AV.imm (.int .i64 z)) hv) hm6 ?_) <;> conv => whnf) | ((first | refine Or.inl ?_ | refine go_loadB ?_ | refine ⟨by kernel_rfl, ?_⟩ | refine go_ret ?_) <;> conv => whnf) | ((first | refine go_skip ?_) <;> conv => whnf) | refine ⟨rfl, ?_⟩ | ((first | refine ⟨trivial, ?_⟩ | refine ⟨le_of_ble rfl, ?_⟩) <;> conv => whnf) | fail
  all_goals first
    | exact ret_all rfl ⟨⟨rfl, fun h => by cases h⟩, ⟨rfl, fun h => by cases h⟩, ⟨rfl, fun h => by cases h⟩, trivial⟩ List.nodup_nil List.nodup_nil trivial
    | trace_state
end Go.Proofs.Ytmijabfckmgaiaa

