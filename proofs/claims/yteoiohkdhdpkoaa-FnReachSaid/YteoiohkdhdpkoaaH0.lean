/- The walk of the line that is drawn. -/
import Derived.Test.YteoiohkdhdpkoaaG9
namespace Go.Am
open Go
theorem look_ownE {σ : S} {ids : List Nat} {id off len ty sz : Nat} {rows rows2 : List (List D)} (hm : σ.m id = some (.arr ty sz rows)) (hid : id ∈ ids) (hr : (rows.drop off).take len = rows2) : LookA σ ids (.own id off len) (.list rows2) := by
  subst hr
  exact look_own hm hid
end Go.Am
namespace Go.Proofs.Yteoiohkdhdpkoaa
open Go Go.Am
set_option maxRecDepth 100000
set_option maxHeartbeats 16000000
attribute [local irreducible] amOps amC opCall opIndexAddr opPick retQ opMake opStore amDraw opAppend opLoad opNilCmp opIndex opSlice xQ

theorem down_i {n i : Nat} (h : i < n) (hn : n ≤ 1000000) : AV.imm (.int .i64 (IntKind.i64.wrap (((n - i : Nat) : Int) - 1))) = .imm (.int .i64 ((n - (i + 1) : Nat) : Int)) := by
  rw [wrap_small (by omega) (by omega), show ((n - i : Nat) : Int) - 1 = ((n - (i + 1) : Nat) : Int) from by omega]
def TwoI (L R : List Int) (v1 v2 : Value) : World → (Nat → Prop) → Prop := fun w F => ∃ F0 F1 : Nat → Prop, (∀ b, F0 b ∨ F1 b → F b) ∧ FlatI 3 1 (L.map intRow) v1 w F0 ∧ FlatI 3 1 (R.map intRow) v2 w F1
theorem two_join {L R : List Int} {v1 v2 : Value} : ∀ w F1 F2, ExtAt (FlatI 3 1 (L.map intRow) v1) w F1 → ExtAt (FlatI 3 1 (R.map intRow) v2) w F2 → (∀ b, ¬ (F1 b ∧ F2 b)) → ExtAt (TwoI L R v1 v2) w fun b => F1 b ∨ F2 b := by
  intro w F1 F2 h1 h2 _ w' hb hs
  exact ⟨F1, F2, fun _ h => h, (h1.now.ext w' (fun b hF => hb b (.inl hF)) hs), (h2.now.ext w' (fun b hF => hb b (.inr hF)) hs)⟩
theorem two_plain {nm : ByteArray} {L R : List Int} {v1 v2 : Value} : PlainAll (TwoI L R v1 v2) [.str nm, .other v1, .other v2] (Line.enc ⟨nm, L, R⟩) :=
  ⟨.inl rfl, .inr ⟨v1, rfl, fun _ _ _ h hB => by obtain ⟨F0, F1, h1, h2, _⟩ := h.now; exact h2.rep fun b hb => hB b (h1 b (.inl hb))⟩, .inr ⟨v2, rfl, fun _ _ _ h hB => by obtain ⟨F0, F1, h1, _, h3⟩ := h.now; exact h3.rep fun b hb => hB b (h1 b (.inr hb))⟩, trivial⟩
def lnPl (xs : List Int) (x : Line × Cu) : Out := { res := [.imm (.agg x.1.enc)], muts := [.box 48 ((cu xs x.2).map .imm)], sep := false }
theorem whole (l : List Int) : ((l.map intRow).drop 0).take (l.map intRow).length = l.map intRow := by rw [List.drop_zero, List.take_length]

theorem line_walk (xs : List Int) (hx : areB xs) (nm : ByteArray) (o : Nat) (ho : 1 ≤ o ∧ o ≤ 1000) (c : Cu) (hk : c.k ≤ 9000) :
    CallOk Try.prog 33 [.box 48 (cu xs c), .imm (.str nm), .imm (.int .i64 (o : Int))] (lnPl xs (lnF xs nm o c)) := by
  refine callOk_of tyOk Try.func33 rfl rfl (le_of_ble rfl) (le_of_ble rfl) (mutOk_box0 (res := [.imm (.agg (lnF xs nm o c).1.enc)]) (sep := false) rfl) ?_
  obtain ⟨⟨_, _, hp0⟩, ⟨hq1, _, hq0⟩, g0, g1⟩ := lnA_go hx ho hk
  have hon : (o : Int) ≠ 0 := by omega
  have hw0 : IntKind.i64.wrap (2 + (pk xs (pk xs c o).2 3).1) = (((2 + (pk xs (pk xs c o).2 3).1).toNat : Nat) : Int) := by rw [wrap_small (by omega) (by have := hq1.2 (by omega); omega)]; omega
  have hall := lsAt_go hx ho (k := c.k + 4) (by omega) g0
  have hA : lnA xs o c = lsAt xs o ⟨[], (pk xs c o).1, (pk xs (pk xs c o).2 3).2⟩ (2 + (pk xs (pk xs c o).2 3).1).toNat := rfl
  unfold lnF lnL
  rw [hA]
  have ha0 : (⟨[], (pk xs c o).1, (pk xs (pk xs c o).2 3).2⟩ : Ls) = ⟨[], (pk xs c o).1, (pk xs (pk xs c o).2 3).2⟩ := rfl
  generalize hM : (2 + (pk xs (pk xs c o).2 3).1).toNat = M at *
  generalize hB : (⟨[], (pk xs c o).1, (pk xs (pk xs c o).2 3).2⟩ : Ls) = B at *
  repeat' first | refine go_seq ?_ | refine go_region ?_ | refine go_draw drawsOk ?_ | ((first | refine go_op rfl ?_ | refine go_nil ?_ | refine go_storeBox rfl rfl rfl rfl rfl rfl ?_ | refine go_dop rfl ?_ | refine go_dend (by kernel_rfl) ?_ | refine go_call [2] (hp0) rfl rfl rfl rfl ?_ | refine go_call [2] (hq0) rfl rfl rfl rfl ?_ | refine Or.inr ?_) <;> conv => whnf) | ((first | refine Or.inl ?_ | refine go_loadB ?_ | refine ⟨by kernel_rfl, ?_⟩ | refine go_ret ?_) <;> conv => whnf) | refine go_block ?_ | ((first | refine go_skip ?_ | refine go_exit ?_) <;> conv => whnf) | refine go_true rfl ?_ | refine go_false rfl ?_ | refine go_cond rfl (fun h => ?_) (fun h => ?_) | refine ⟨rfl, ?_⟩ | ((first | refine ⟨trivial, ?_⟩ | refine ⟨le_of_ble rfl, ?_⟩) <;> conv => whnf) | fail
  refine go_loop (α := Nat) (fun i => i ≤ M) (fun i => M - i)
    (fun i => st Try.f33.ntmps [(0, .box 1001 0), (2, .imm (.int .i64 (o : Int))), (6, .box 1002 0), (7, .box 1003 0), (8, .imm (.int .i64 (lsAt xs o B i).v)), (9, .imm (.int .i64 ((M - i : Nat) : Int)))]
      [(1001, .box 48 ((cu xs (lsAt xs o B i).c).map .imm)), (1002, .box 44 (ty44.zero.map .imm)), (1003, .box 44 [.imm (.str nm), .own 1004 0 ((lsAt xs o B i).l.map intRow).length, .own 1005 0 0]), (1004, .arr 3 1 ((lsAt xs o B i).l.map intRow)), (1005, .arr 3 1 [])] [1001]) 0 (Nat.zero_le _) ?_ ?_
  · refine Ref.trans (ref_nilBox (b := nid 2 7) (q := 5000) (j := 1) (e := 3) (sz := 1) rfl rfl rfl (by decide)) (Ref.trans (ref_nilBox (b := nid 2 7) (q := 5001) (j := 2) (e := 3) (sz := 1) rfl rfl rfl (by decide)) ?_)
    subst hB
    have hNe : AV.imm (.int .i64 (IntKind.i64.wrap (2 + (pk xs (pk xs c o).2 3).1))) = .imm (.int .i64 ((M - 0 : Nat) : Int)) := by rw [hw0, Nat.sub_zero]
    exact ref_st (fun y => if y = 1001 then 0 else if y = 1002 then nid 1 6 else if y = 1003 then nid 2 7 else if y = 1004 then 5000 else 5001) rfl ⟨⟨rfl, rfl⟩, rfl, ⟨rfl, rfl⟩, ⟨rfl, rfl⟩, rfl, hNe, trivial⟩ ⟨⟨rfl, wavs_imm _⟩, ⟨rfl, wavs_imm _⟩, ⟨rfl, rfl, ⟨rfl, rfl⟩, ⟨rfl, rfl⟩, trivial⟩, rfl, rfl, trivial⟩ (by simp [nid]) rfl (by simp [lookM])
  intro i hi
  have hgi := hall i (by omega)
  have hnx : lsAt xs o B (i + 1) = lsStep xs o (lsAt xs o B i) := rfl
  clear hp0 hq0
  by_cases hlt : i < M
  · generalize lsAt xs o B i = a at *
    obtain ⟨⟨a1, a2, a3⟩, a4, a5⟩ := hgi
    obtain ⟨_, _, hp⟩ := pk_ok hx (c := a.c) (by omega) 2
    have hPl := c45 ⟨nm, a.l, []⟩ a.v (by show a.l.length ≤ _; omega)
    have hbd : (a.l.map intRow).length + 1 ≤ 1073741824 := by rw [List.length_map]; omega
    have hlk : (((([] : List Int)).map intRow).drop 0).take 0 = ([] : List Int).map intRow := rfl
    have hc1 : (lsAt xs o B (i + 1)).c = (pk xs a.c 2).2 := by rw [hnx]; rfl
    by_cases hneg : idxF (pInt a.v) a.l < 0
    · have e : lsAt xs o B (i + 1) = ⟨a.l ++ [a.v], (IntKind.i64.wrap (IntKind.i64.wrap (a.v + 1) + (pk xs a.c 2).1)).tmod (o : Int), (pk xs a.c 2).2⟩ := by rw [hnx, lsStep, if_pos hneg]
      repeat' first | (refine go_ext (ext_xlook (ds := [.agg (Line.enc ⟨nm, a.l, []⟩), .int .i64 a.v]) (r := .int .i64 (idxF (pInt a.v) a.l)) hPl rfl [1004, 1005] ⟨look_mix ⟨cell_imm (look_imm _ _ _), cell_own (look_ownE rfl (by simp) (whole _)), cell_own (look_ownE rfl (by simp) hlk), trivial⟩, look_imm _ _ _, trivial⟩ rfl ?_); conv => whnf) | refine go_seq ?_ | refine go_region ?_ | refine go_draw drawsOk ?_ | ((first | refine go_op rfl ?_ | refine go_nil ?_ | refine go_storeBox rfl rfl rfl rfl rfl rfl ?_ | refine go_dop rfl ?_ | refine go_dend (by kernel_rfl) ?_ | refine go_call [2] (hp) rfl rfl rfl rfl ?_ | refine go_append (rows2 := [intRow a.v]) rfl rfl rfl rfl rfl rfl rfl rfl rfl rfl rfl rfl rfl rfl rfl rfl hbd ?_ | refine ⟨hon, ?_⟩) <;> conv => whnf) | ((first | refine Or.inl ?_ | refine go_loadB ?_ | refine ⟨by kernel_rfl, ?_⟩ | refine go_ret ?_) <;> conv => whnf) | refine go_block ?_ | ((first | refine go_skip ?_ | refine go_exit ?_) <;> conv => whnf) | refine go_true rfl ?_ | refine go_false rfl ?_ | refine go_cond rfl (fun h => ?_) (fun h => ?_) | refine ⟨rfl, ?_⟩ | ((first | refine ⟨trivial, ?_⟩ | refine ⟨le_of_ble rfl, ?_⟩) <;> conv => whnf) | fail
      all_goals first
        | (exfalso; simp only [decide_eq_true_eq, decide_eq_false_iff_not] at *; omega)
        | skip
      refine go_next (i + 1) (by show i + 1 ≤ _; omega) (by show M - (i + 1) < M - i; omega) (ref_st (fun y => if y = 1004 then nid 4 31 else y) rfl ⟨⟨rfl, rfl⟩, rfl, ⟨rfl, rfl⟩, ⟨rfl, rfl⟩, ?_, down_i hlt (by omega), trivial⟩ ⟨⟨rfl, (by show WAVs _ _ ((cu xs (lsAt xs o B (i + 1)).c).map .imm) _; rw [hc1]; exact wavs_imm _)⟩, ⟨rfl, wavs_imm _⟩, ⟨rfl, rfl, ⟨?_, rfl⟩, ⟨rfl, rfl⟩, trivial⟩, ?_, rfl, trivial⟩ (by simp [nid]) rfl (by simp [lookM]))
      · show AV.imm _ = AV.imm (.int .i64 (lsAt xs o B (i + 1)).v)
        rw [e]
      · show AV.own _ _ _ = AV.own _ _ ((lsAt xs o B (i + 1)).l.map intRow).length
        rw [e]; show _ = AV.own _ _ ((a.l ++ [a.v]).map intRow).length; rw [List.map_append, List.length_append]; rfl
      · show some _ = some (O.arr _ _ ((lsAt xs o B (i + 1)).l.map intRow))
        rw [e]; show _ = some (O.arr _ _ ((a.l ++ [a.v]).map intRow)); rw [List.map_append]; rfl
    · have e : lsAt xs o B (i + 1) = ⟨a.l, (IntKind.i64.wrap (IntKind.i64.wrap (a.v + 1) + (pk xs a.c 2).1)).tmod (o : Int), (pk xs a.c 2).2⟩ := by rw [hnx, lsStep, if_neg hneg]
      repeat' first | (refine go_ext (ext_xlook (ds := [.agg (Line.enc ⟨nm, a.l, []⟩), .int .i64 a.v]) (r := .int .i64 (idxF (pInt a.v) a.l)) hPl rfl [1004, 1005] ⟨look_mix ⟨cell_imm (look_imm _ _ _), cell_own (look_ownE rfl (by simp) (whole _)), cell_own (look_ownE rfl (by simp) hlk), trivial⟩, look_imm _ _ _, trivial⟩ rfl ?_); conv => whnf) | refine go_seq ?_ | refine go_region ?_ | refine go_draw drawsOk ?_ | ((first | refine go_op rfl ?_ | refine go_nil ?_ | refine go_storeBox rfl rfl rfl rfl rfl rfl ?_ | refine go_dop rfl ?_ | refine go_dend (by kernel_rfl) ?_ | refine go_call [2] (hp) rfl rfl rfl rfl ?_ | refine ⟨hon, ?_⟩) <;> conv => whnf) | ((first | refine Or.inl ?_ | refine go_loadB ?_ | refine ⟨by kernel_rfl, ?_⟩ | refine go_ret ?_) <;> conv => whnf) | refine go_block ?_ | ((first | refine go_skip ?_ | refine go_exit ?_) <;> conv => whnf) | refine go_true rfl ?_ | refine go_false rfl ?_ | refine go_cond rfl (fun h => ?_) (fun h => ?_) | refine ⟨rfl, ?_⟩ | ((first | refine ⟨trivial, ?_⟩ | refine ⟨le_of_ble rfl, ?_⟩) <;> conv => whnf) | fail
      all_goals first
        | (exfalso; simp only [decide_eq_true_eq, decide_eq_false_iff_not] at *; omega)
        | skip
      refine go_next (i + 1) (by show i + 1 ≤ _; omega) (by show M - (i + 1) < M - i; omega) (ref_st id rfl ⟨⟨rfl, rfl⟩, rfl, ⟨rfl, rfl⟩, ⟨rfl, rfl⟩, ?_, down_i hlt (by omega), trivial⟩ ⟨⟨rfl, (by show WAVs _ _ ((cu xs (lsAt xs o B (i + 1)).c).map .imm) _; rw [hc1]; exact wavs_imm _)⟩, ⟨rfl, wavs_imm _⟩, ⟨rfl, rfl, ⟨?_, rfl⟩, ⟨rfl, rfl⟩, trivial⟩, ?_, rfl, trivial⟩ (by simp [nid]) rfl (by simp [lookM]))
      · show AV.imm _ = AV.imm (.int .i64 (lsAt xs o B (i + 1)).v)
        rw [e]
      · show AV.own _ _ _ = AV.own _ _ ((lsAt xs o B (i + 1)).l.map intRow).length
        rw [e]; rfl
      · show some _ = some (O.arr _ _ ((lsAt xs o B (i + 1)).l.map intRow))
        rw [e]
  · have hie : i = M := by omega
    subst hie
    generalize lsAt xs o B i = a at *
    obtain ⟨⟨a1, a2, a3⟩, a4, a5⟩ := hgi
    have a2 := a2 (by omega)
    have hbd : (a.l.map intRow).length + 1 ≤ 1073741824 := by rw [List.length_map]; omega
    by_cases hsh : a.l.length < 2
    · rw [if_pos hsh]
      have hr0 : (a.l.map intRow)[0]? = some [.int .i64 (a.l.getD 0 0)] := row_at intRow (by rw [List.getD_eq_getElem?_getD, List.getElem?_eq_getElem (by omega)]; rfl)
      have hl0 : 0 < (a.l.map intRow).length := by rw [List.length_map]; omega
      repeat' first | refine go_seq ?_ | refine go_region ?_ | refine go_draw drawsOk ?_ | ((first | refine go_op rfl ?_ | refine go_nil ?_ | refine go_storeBox rfl rfl rfl rfl rfl rfl ?_ | refine go_dop rfl ?_ | refine go_dend (by kernel_rfl) ?_ | refine go_idxOwnI (j := 0) rfl rfl rfl rfl rfl rfl rfl hl0 ?_ | refine go_loadEl (i := 0) rfl rfl rfl hr0 ?_ | refine ⟨hon, ?_⟩ | refine go_append (rows2 := [intRow ((IntKind.i64.wrap (a.l.getD 0 0 + 1)).tmod (o : Int))]) rfl rfl rfl rfl rfl rfl rfl rfl rfl rfl rfl rfl rfl rfl rfl rfl hbd ?_) <;> conv => whnf) | ((first | refine Or.inl ?_ | refine go_loadB ?_ | refine ⟨by kernel_rfl, ?_⟩ | refine go_ret ?_) <;> conv => whnf) | refine go_block ?_ | ((first | refine go_skip ?_ | refine go_exit ?_) <;> conv => whnf) | refine go_true rfl ?_ | refine go_false rfl ?_ | refine go_cond rfl (fun h => ?_) (fun h => ?_) | refine ⟨rfl, ?_⟩ | ((first | refine ⟨trivial, ?_⟩ | refine ⟨le_of_ble rfl, ?_⟩) <;> conv => whnf) | fail
      all_goals first
        | (exfalso; simp at h; done)
        | (exfalso; simp only [decide_eq_true_eq, decide_eq_false_iff_not, List.length_map] at *; omega)
        | skip
      obtain ⟨L, hL⟩ : ∃ L : List Int, L = a.l ++ [(IntKind.i64.wrap (a.l.getD 0 0 + 1)).tmod (o : Int)] := ⟨_, rfl⟩
      have hLl : L.length = a.l.length + 1 := by rw [hL, List.length_append]; rfl
      have hLm : L.map intRow = a.l.map intRow ++ [intRow ((IntKind.i64.wrap (a.l.getD 0 0 + 1)).tmod (o : Int))] := by rw [hL, List.map_append]; rfl
      rw [← hL]
      refine go_loop (α := Nat) (fun j => j + 1 ≤ L.length) (fun j => L.length - j)
        (fun j => st Try.f33.ntmps [(0, .box 1001 0), (6, .box 1002 0), (7, .box 1003 0), (10, .imm (.int .i64 ((j + 1 : Nat) : Int)))]
          [(1001, .box 48 ((cu xs (lrAt xs ⟨[], a.c⟩ j).c).map .imm)), (1002, .box 44 (ty44.zero.map .imm)), (1003, .box 44 [.imm (.str nm), .own 1004 0 (L.map intRow).length, .own 1005 0 ((lrAt xs ⟨[], a.c⟩ j).r.map intRow).length]), (1004, .arr 3 1 (L.map intRow)), (1005, .arr 3 1 ((lrAt xs ⟨[], a.c⟩ j).r.map intRow))] [1001]) 0 (by show 0 + 1 ≤ L.length; omega) ?_ ?_
      · refine ref_st (fun y => if y = 1004 then nid 4 54 else y) rfl ⟨⟨rfl, rfl⟩, ⟨rfl, rfl⟩, ⟨rfl, rfl⟩, rfl, trivial⟩ ⟨⟨rfl, wavs_imm _⟩, ⟨rfl, wavs_imm _⟩, ⟨rfl, rfl, ⟨?_, rfl⟩, ⟨rfl, rfl⟩, trivial⟩, ?_, rfl, trivial⟩ (by simp [nid]) rfl (by simp [lookM])
        · show AV.own _ _ _ = AV.own _ _ (L.map intRow).length
          rw [hLm, List.length_append]; rfl
        · show some _ = some (O.arr _ _ (L.map intRow))
          rw [hLm]; rfl
      intro j hj
      obtain ⟨r1, r2⟩ := lrAt_go hx (c := a.c) (by omega) j (by omega)
      have hnr : lrAt xs ⟨[], a.c⟩ (j + 1) = lrStep xs (lrAt xs ⟨[], a.c⟩ j) := rfl
      obtain ⟨_, _, hp⟩ := pk_ok hx (c := (lrAt xs ⟨[], a.c⟩ j).c) (by omega) 12
      have el : (L.map intRow).length = L.length := List.length_map _
      by_cases hjl : j + 1 < L.length
      · generalize lrAt xs ⟨[], a.c⟩ j = b at *
        have hbd2 : (b.r.map intRow).length + 1 ≤ 1073741824 := by rw [List.length_map]; omega
        have e : lrAt xs ⟨[], a.c⟩ (j + 1) = ⟨b.r ++ [IntKind.i64.wrap (3 + (pk xs b.c 12).1)], (pk xs b.c 12).2⟩ := by rw [hnr]; rfl
        have ec : (lrAt xs ⟨[], a.c⟩ (j + 1)).c = (pk xs b.c 12).2 := by rw [e]
        have er : (lrAt xs ⟨[], a.c⟩ (j + 1)).r.map intRow = b.r.map intRow ++ [intRow (IntKind.i64.wrap (3 + (pk xs b.c 12).1))] := by rw [e, List.map_append]; rfl
        repeat' first | refine go_seq ?_ | refine go_region ?_ | refine go_draw drawsOk ?_ | ((first | refine go_op rfl ?_ | refine go_nil ?_ | refine go_storeBox rfl rfl rfl rfl rfl rfl ?_ | refine go_dop rfl ?_ | refine go_dend (by kernel_rfl) ?_ | refine go_call [2] (hp) rfl rfl rfl rfl ?_ | refine go_append (rows2 := [intRow (IntKind.i64.wrap (3 + (pk xs b.c 12).1))]) rfl rfl rfl rfl rfl rfl rfl rfl rfl rfl rfl rfl rfl rfl rfl rfl hbd2 ?_) <;> conv => whnf) | ((first | refine Or.inl ?_ | refine go_loadB ?_ | refine ⟨by kernel_rfl, ?_⟩ | refine go_ret ?_) <;> conv => whnf) | refine go_block ?_ | ((first | refine go_skip ?_ | refine go_exit ?_) <;> conv => whnf) | refine go_true rfl ?_ | refine go_false rfl ?_ | refine go_cond rfl (fun h => ?_) (fun h => ?_) | refine ⟨rfl, ?_⟩ | ((first | refine ⟨trivial, ?_⟩ | refine ⟨le_of_ble rfl, ?_⟩) <;> conv => whnf) | fail
        all_goals first
          | (exfalso; simp only [decide_eq_true_eq, decide_eq_false_iff_not, List.length_map] at *; omega)
          | skip
        refine go_next (j + 1) (by show j + 1 + 1 ≤ _; omega) (by show L.length - (j + 1) < L.length - j; omega) (ref_st (fun y => if y = 1005 then nid 3 69 else y) rfl ⟨⟨rfl, rfl⟩, ⟨rfl, rfl⟩, ⟨rfl, rfl⟩, next_i (i := j + 1) (by omega), trivial⟩ ⟨⟨rfl, (by show WAVs _ _ ((cu xs (lrAt xs ⟨[], a.c⟩ (j + 1)).c).map .imm) _; rw [ec]; exact wavs_imm _)⟩, ⟨rfl, wavs_imm _⟩, ⟨rfl, rfl, ⟨rfl, rfl⟩, ⟨?_, rfl⟩, trivial⟩, rfl, ?_, trivial⟩ (by simp [nid]) rfl (by simp [lookM]))
        · show AV.own _ _ _ = AV.own _ _ ((lrAt xs ⟨[], a.c⟩ (j + 1)).r.map intRow).length
          rw [er, List.length_append]; rfl
        · show some _ = some (O.arr _ _ ((lrAt xs ⟨[], a.c⟩ (j + 1)).r.map intRow))
          rw [er]; rfl
      · have hje : L.length - 1 = j := by omega
        rw [hje]
        generalize lrAt xs ⟨[], a.c⟩ j = b at *
        repeat' first | (refine ret_boxCell (bid := 1002) (j := 1) (id := 1004) (id' := 8000) (ty := 3) (sz := 1) (rows := L.map intRow) rfl rfl rfl rfl (List.all_eq_true.2 (int_gr _)) rfl ?_; intro o1 k1; conv => whnf) | (refine ret_boxCell (bid := 1002) (j := 2) (id := 1005) (id' := 8001) (ty := 3) (sz := 1) (rows := b.r.map intRow) rfl rfl rfl rfl (List.all_eq_true.2 (int_gr _)) rfl ?_; intro o2 k2; conv => whnf) | (refine ret_join (id1 := 8000) (id2 := 8001) (id3 := 8002) (I3 := TwoI L b.r (.slice o1 (L.map intRow).length k1) (.slice o2 (b.r.map intRow).length k2)) rfl rfl rfl rfl two_join ?_; conv => whnf) | (refine ret_plainBox (bid := 1002) (id := 8002) (ds := [.str nm, .other (.slice o1 (L.map intRow).length k1), .other (.slice o2 (b.r.map intRow).length k2)]) (ds' := Line.enc ⟨nm, L, b.r⟩) rfl rfl two_plain ?_; conv => whnf) | refine go_seq ?_ | refine go_region ?_ | refine go_draw drawsOk ?_ | ((first | refine go_op rfl ?_ | refine go_nil ?_ | refine go_storeBox rfl rfl rfl rfl rfl rfl ?_ | refine go_dop rfl ?_ | refine go_dend (by kernel_rfl) ?_) <;> conv => whnf) | ((first | refine Or.inl ?_ | refine go_loadB ?_ | refine ⟨by kernel_rfl, ?_⟩ | refine go_ret ?_) <;> conv => whnf) | refine go_block ?_ | ((first | refine go_skip ?_ | refine go_exit ?_) <;> conv => whnf) | refine go_true rfl ?_ | refine go_false rfl ?_ | refine go_cond rfl (fun h => ?_) (fun h => ?_) | refine ⟨rfl, ?_⟩ | ((first | refine ⟨trivial, ?_⟩ | refine ⟨le_of_ble rfl, ?_⟩) <;> conv => whnf) | fail
        all_goals first
          | (exfalso; simp only [decide_eq_true_eq, decide_eq_false_iff_not, List.length_map] at *; omega)
          | exact ret_box1 rfl rfl rfl rfl rfl rfl
          | trace_state
    · rw [if_neg hsh]
      repeat' first | refine go_seq ?_ | refine go_region ?_ | refine go_draw drawsOk ?_ | ((first | refine go_op rfl ?_ | refine go_nil ?_ | refine go_storeBox rfl rfl rfl rfl rfl rfl ?_ | refine go_dop rfl ?_ | refine go_dend (by kernel_rfl) ?_) <;> conv => whnf) | ((first | refine Or.inl ?_ | refine go_loadB ?_ | refine ⟨by kernel_rfl, ?_⟩ | refine go_ret ?_) <;> conv => whnf) | refine go_block ?_ | ((first | refine go_skip ?_ | refine go_exit ?_) <;> conv => whnf) | refine go_true rfl ?_ | refine go_false rfl ?_ | refine go_cond rfl (fun h => ?_) (fun h => ?_) | refine ⟨rfl, ?_⟩ | ((first | refine ⟨trivial, ?_⟩ | refine ⟨le_of_ble rfl, ?_⟩) <;> conv => whnf) | fail
      all_goals first
        | (exfalso; simp at h; done)
        | (exfalso; simp only [decide_eq_true_eq, decide_eq_false_iff_not, List.length_map] at *; omega)
        | skip
      have hLl : a.l.length ≤ 4 := by omega
      generalize a.l = L at *
      refine go_loop (α := Nat) (fun j => j + 1 ≤ L.length) (fun j => L.length - j)
        (fun j => st Try.f33.ntmps [(0, .box 1001 0), (6, .box 1002 0), (7, .box 1003 0), (10, .imm (.int .i64 ((j + 1 : Nat) : Int)))]
          [(1001, .box 48 ((cu xs (lrAt xs ⟨[], a.c⟩ j).c).map .imm)), (1002, .box 44 (ty44.zero.map .imm)), (1003, .box 44 [.imm (.str nm), .own 1004 0 (L.map intRow).length, .own 1005 0 ((lrAt xs ⟨[], a.c⟩ j).r.map intRow).length]), (1004, .arr 3 1 (L.map intRow)), (1005, .arr 3 1 ((lrAt xs ⟨[], a.c⟩ j).r.map intRow))] [1001]) 0 (by show 0 + 1 ≤ L.length; omega) ?_ ?_
      · exact ref_st id rfl ⟨⟨rfl, rfl⟩, ⟨rfl, rfl⟩, ⟨rfl, rfl⟩, rfl, trivial⟩ ⟨⟨rfl, wavs_imm _⟩, ⟨rfl, wavs_imm _⟩, ⟨rfl, rfl, ⟨rfl, rfl⟩, ⟨rfl, rfl⟩, trivial⟩, rfl, rfl, trivial⟩ (by simp) rfl (by simp [lookM])
      intro j hj
      obtain ⟨r1, r2⟩ := lrAt_go hx (c := a.c) (by omega) j (by omega)
      have hnr : lrAt xs ⟨[], a.c⟩ (j + 1) = lrStep xs (lrAt xs ⟨[], a.c⟩ j) := rfl
      obtain ⟨_, _, hp⟩ := pk_ok hx (c := (lrAt xs ⟨[], a.c⟩ j).c) (by omega) 12
      have el : (L.map intRow).length = L.length := List.length_map _
      by_cases hjl : j + 1 < L.length
      · generalize lrAt xs ⟨[], a.c⟩ j = b at *
        have hbd2 : (b.r.map intRow).length + 1 ≤ 1073741824 := by rw [List.length_map]; omega
        have e : lrAt xs ⟨[], a.c⟩ (j + 1) = ⟨b.r ++ [IntKind.i64.wrap (3 + (pk xs b.c 12).1)], (pk xs b.c 12).2⟩ := by rw [hnr]; rfl
        have ec : (lrAt xs ⟨[], a.c⟩ (j + 1)).c = (pk xs b.c 12).2 := by rw [e]
        have er : (lrAt xs ⟨[], a.c⟩ (j + 1)).r.map intRow = b.r.map intRow ++ [intRow (IntKind.i64.wrap (3 + (pk xs b.c 12).1))] := by rw [e, List.map_append]; rfl
        repeat' first | refine go_seq ?_ | refine go_region ?_ | refine go_draw drawsOk ?_ | ((first | refine go_op rfl ?_ | refine go_nil ?_ | refine go_storeBox rfl rfl rfl rfl rfl rfl ?_ | refine go_dop rfl ?_ | refine go_dend (by kernel_rfl) ?_ | refine go_call [2] (hp) rfl rfl rfl rfl ?_ | refine go_append (rows2 := [intRow (IntKind.i64.wrap (3 + (pk xs b.c 12).1))]) rfl rfl rfl rfl rfl rfl rfl rfl rfl rfl rfl rfl rfl rfl rfl rfl hbd2 ?_) <;> conv => whnf) | ((first | refine Or.inl ?_ | refine go_loadB ?_ | refine ⟨by kernel_rfl, ?_⟩ | refine go_ret ?_) <;> conv => whnf) | refine go_block ?_ | ((first | refine go_skip ?_ | refine go_exit ?_) <;> conv => whnf) | refine go_true rfl ?_ | refine go_false rfl ?_ | refine go_cond rfl (fun h => ?_) (fun h => ?_) | refine ⟨rfl, ?_⟩ | ((first | refine ⟨trivial, ?_⟩ | refine ⟨le_of_ble rfl, ?_⟩) <;> conv => whnf) | fail
        all_goals first
          | (exfalso; simp only [decide_eq_true_eq, decide_eq_false_iff_not, List.length_map] at *; omega)
          | skip
        refine go_next (j + 1) (by show j + 1 + 1 ≤ _; omega) (by show L.length - (j + 1) < L.length - j; omega) (ref_st (fun y => if y = 1005 then nid 3 69 else y) rfl ⟨⟨rfl, rfl⟩, ⟨rfl, rfl⟩, ⟨rfl, rfl⟩, next_i (i := j + 1) (by omega), trivial⟩ ⟨⟨rfl, (by show WAVs _ _ ((cu xs (lrAt xs ⟨[], a.c⟩ (j + 1)).c).map .imm) _; rw [ec]; exact wavs_imm _)⟩, ⟨rfl, wavs_imm _⟩, ⟨rfl, rfl, ⟨rfl, rfl⟩, ⟨?_, rfl⟩, trivial⟩, rfl, ?_, trivial⟩ (by simp [nid]) rfl (by simp [lookM]))
        · show AV.own _ _ _ = AV.own _ _ ((lrAt xs ⟨[], a.c⟩ (j + 1)).r.map intRow).length
          rw [er, List.length_append]; rfl
        · show some _ = some (O.arr _ _ ((lrAt xs ⟨[], a.c⟩ (j + 1)).r.map intRow))
          rw [er]; rfl
      · have hje : L.length - 1 = j := by omega
        rw [hje]
        generalize lrAt xs ⟨[], a.c⟩ j = b at *
        repeat' first | (refine ret_boxCell (bid := 1002) (j := 1) (id := 1004) (id' := 8000) (ty := 3) (sz := 1) (rows := L.map intRow) rfl rfl rfl rfl (List.all_eq_true.2 (int_gr _)) rfl ?_; intro o1 k1; conv => whnf) | (refine ret_boxCell (bid := 1002) (j := 2) (id := 1005) (id' := 8001) (ty := 3) (sz := 1) (rows := b.r.map intRow) rfl rfl rfl rfl (List.all_eq_true.2 (int_gr _)) rfl ?_; intro o2 k2; conv => whnf) | (refine ret_join (id1 := 8000) (id2 := 8001) (id3 := 8002) (I3 := TwoI L b.r (.slice o1 (L.map intRow).length k1) (.slice o2 (b.r.map intRow).length k2)) rfl rfl rfl rfl two_join ?_; conv => whnf) | (refine ret_plainBox (bid := 1002) (id := 8002) (ds := [.str nm, .other (.slice o1 (L.map intRow).length k1), .other (.slice o2 (b.r.map intRow).length k2)]) (ds' := Line.enc ⟨nm, L, b.r⟩) rfl rfl two_plain ?_; conv => whnf) | refine go_seq ?_ | refine go_region ?_ | refine go_draw drawsOk ?_ | ((first | refine go_op rfl ?_ | refine go_nil ?_ | refine go_storeBox rfl rfl rfl rfl rfl rfl ?_ | refine go_dop rfl ?_ | refine go_dend (by kernel_rfl) ?_) <;> conv => whnf) | ((first | refine Or.inl ?_ | refine go_loadB ?_ | refine ⟨by kernel_rfl, ?_⟩ | refine go_ret ?_) <;> conv => whnf) | refine go_block ?_ | ((first | refine go_skip ?_ | refine go_exit ?_) <;> conv => whnf) | refine go_true rfl ?_ | refine go_false rfl ?_ | refine go_cond rfl (fun h => ?_) (fun h => ?_) | refine ⟨rfl, ?_⟩ | ((first | refine ⟨trivial, ?_⟩ | refine ⟨le_of_ble rfl, ?_⟩) <;> conv => whnf) | fail
        all_goals first
          | (exfalso; simp only [decide_eq_true_eq, decide_eq_false_iff_not, List.length_map] at *; omega)
          | exact ret_box1 rfl rfl rfl rfl rfl rfl
          | trace_state
end Go.Proofs.Yteoiohkdhdpkoaa

