/- Lists of visits, drawn: the walk. -/
import Derived.Test.YtobnoplkpmdeiaaC6
namespace Go.Proofs.Ytobnoplkpmdeiaa
open Go Go.Am
set_option maxRecDepth 100000
set_option maxHeartbeats 8000000
attribute [local irreducible] amOps amC opCall opIndexAddr opPick retQ opMake opStore amDraw opAppend opLoad opNilCmp opIndex opSlice

theorem visit_one (xs : List Visit) : (xs.map Visit.enc).all (fun r => r.all D.one) = true := by
  simp only [List.all_map, List.all_eq_true]
  intro v _
  rfl

/-- The start: the first time is drawn, then how many visits. -/
noncomputable def vN (xs : List Int) (c : Cu) : Int × Cu := pk xs (am xs c lT).2 9
noncomputable def v1 (xs : List Int) (c : Cu) : Vs := ⟨[], (am xs c lT).1, (vN xs c).2⟩
noncomputable def vEnd (xs : List Int) (c : Cu) : Vs := vAt xs (v1 xs c) (vN xs c).1.toNat

noncomputable def fQ (xs : List Int) (a : Vs) : Int × Cu := pk xs a.c ((a.l.map Visit.enc).length : Int)
noncomputable def fW (xs : List Int) (a : Vs) : Int × Cu := pk xs (fQ xs a).2 40
noncomputable def fX (xs : List Int) (a : Vs) : Visit := a.l.getD (fQ xs a).1.toNat ⟨0, 0, 0, 0⟩
noncomputable def fM (xs : List Int) (a : Vs) : Nat × Cu := more xs (32 - a.l.length) a.l.length (fW xs a).2
/-- What is done last to one of the visits. -/
noncomputable def vFin (xs : List Int) (a : Vs) : List Visit × Cu :=
  if a.l.length = 0 then ([], a.c)
  else if (fW xs a).1 = 0 then (a.l.set (fQ xs a).1.toNat { fX xs a with actual := IntKind.i64.wrap ((fX xs a).planned + (am xs (fW xs a).2 lD).1) }, (am xs (fW xs a).2 lD).2)
  else if (fW xs a).1 = 1 then (a.l.set (fQ xs a).1.toNat { fX xs a with stop := (am xs (fW xs a).2 lE).1 }, (am xs (fW xs a).2 lE).2)
  else if (fW xs a).1 = 2 then (a.l.set (fQ xs a).1.toNat { fX xs a with persons := (am xs (fW xs a).2 lF).1 }, (am xs (fW xs a).2 lF).2)
  else if (fW xs a).1 = 3 then ((a.l ++ List.replicate (fM xs a).1 (fX xs a)).set (fQ xs a).1.toNat (fX xs a), (fM xs a).2)
  else (a.l.set (fQ xs a).1.toNat (fX xs a), (fW xs a).2)

theorem set_all {p : Visit → Prop} {l : List Visit} {i : Nat} {x : Visit} (h : ∀ v ∈ l, p v) (hx : p x) : ∀ v ∈ l.set i x, p v := by
  intro v hv
  rcases List.mem_or_eq_of_mem_set hv with h1 | rfl
  · exact h v h1
  · exact hx

theorem vFin_ok {xs : List Int} (hx : areB xs) {k0 i : Nat} (hk : k0 ≤ 10000) {a : Vs} (hi : i ≤ 10) (h : vGo k0 i a) : (∀ v ∈ (vFin xs a).1, vSm v) ∧ (vFin xs a).1.length ≤ 40 ∧ (vFin xs a).2.k ≤ k0 + 400 := by
  obtain ⟨h1, h2, h3, h4⟩ := h
  obtain ⟨p1, p2, _⟩ : PickP xs a.c ((a.l.map Visit.enc).length : Int) (fQ xs a) := pk_ok hx (c := a.c) (by omega) _
  obtain ⟨w1, w2, _⟩ : PickP xs (fQ xs a).2 40 (fW xs a) := pk_ok hx (c := (fQ xs a).2) (by omega) 40
  unfold vFin
  by_cases h0 : a.l.length = 0
  · rw [if_pos h0]
    exact ⟨(fun v hv => by cases hv), by simp, by simp only; omega⟩
  · rw [if_neg h0]
    have hq := p1.2 (by rw [List.length_map]; omega)
    rw [List.length_map] at hq
    have hX : vSm (fX xs a) := by
      unfold fX
      have hlt : (fQ xs a).1.toNat < a.l.length := by omega
      rw [List.getD_eq_getElem?_getD, List.getElem?_eq_getElem hlt]
      exact h2 _ (List.getElem_mem hlt)
    have hX' := hX
    unfold vSm at hX'
    split
    · obtain ⟨d1, d2, _⟩ := am_ok hx (c := (fW xs a).2) (l := lD) (by omega) (by decide) (by decide)
      have zd := in_lD d1
      refine ⟨set_all h2 ?_, by simp only [List.length_set]; omega, by simp only; omega⟩
      unfold vSm
      simp only
      rw [wrap_small (by omega) (by omega)]
      omega
    · split
      · obtain ⟨d1, d2, _⟩ := am_ok hx (c := (fW xs a).2) (l := lE) (by omega) (by decide) (by decide)
        have zd := in_lE d1
        refine ⟨set_all h2 ?_, by simp only [List.length_set]; omega, by simp only; omega⟩
        unfold vSm
        simp only
        omega
      · split
        · obtain ⟨d1, d2, _⟩ := am_ok hx (c := (fW xs a).2) (l := lF) (by omega) (by decide) (by decide)
          have zd := in_lF d1
          refine ⟨set_all h2 ?_, by simp only [List.length_set]; omega, by simp only; omega⟩
          unfold vSm
          simp only
          omega
        · split
          · have hm : (fM xs a).1 + a.l.length ≤ 31 ∧ (fM xs a).2.k ≤ (fW xs a).2.k + 2 * (32 - a.l.length) := more_le hx (32 - a.l.length) a.l.length (fW xs a).2 (by omega) (by omega)
            refine ⟨set_all (fun v hv => ?_) hX, by simp only [List.length_set, List.length_append, List.length_replicate]; omega, by simp only; omega⟩
            rcases List.mem_append.1 hv with hv | hv
            · exact h2 v hv
            · rw [(List.mem_replicate.1 hv).2]; exact hX
          · exact ⟨set_all h2 hX, by simp only [List.length_set]; omega, by simp only; omega⟩

theorem visits_walk (xs : List Int) (hx : areB xs) (c : Cu) (hk : c.k ≤ 1000) :
    CallOk Try.prog 31 [.box 46 (cu xs c)] { res := [.imm (.list ((vFin xs (vEnd xs c)).1.map Visit.enc))], muts := [.box 46 ((cu xs (vFin xs (vEnd xs c)).2).map .imm)], sep := false } := by
  refine callOk_of tyOk Try.func31 rfl rfl (le_of_ble rfl) (le_of_ble rfl) (mutOk_box0 rfl) ?_
  obtain ⟨t1, t2, ht⟩ := am_ok hx (c := c) (l := lT) (by omega) (by decide) (by decide)
  obtain ⟨n1, n2, hn⟩ := pk_ok hx (c := (am xs c lT).2) (by omega) 9
  have hn3 := n1.2 (by omega)
  have zt := in_lT t1
  have hgo0 : vGo 2000 0 (v1 xs c) := by
    refine ⟨rfl, (by intro v hv; cases hv), ?_, ?_⟩
    · simp only [v1]; omega
    · simp only [v1, vN]; omega
  have hgo := vAt_go hx (by omega) hgo0
  have hNn : (((vN xs c).1.toNat : Nat) : Int) = (vN xs c).1 := Int.toNat_of_nonneg n1.1
  have hN9 : (vN xs c).1.toNat ≤ 8 := by
    change (vN xs c).1 < 9 at hn3
    omega
  have hEnd : vEnd xs c = vAt xs (v1 xs c) (vN xs c).1.toNat := rfl
  change CallOk _ _ _ { res := [.imm (.int .i64 (vN xs c).1)], muts := [.box _ ((cu xs (vN xs c).2).map .imm)], sep := false } at hn
  generalize hNe : (vN xs c).1.toNat = N at *
  repeat' first | refine go_seq ?_ | refine go_region ?_ | refine go_draw drawsOk ?_ | ((first | refine go_op rfl ?_ | refine go_nil ?_ | refine go_storeBox rfl rfl rfl rfl rfl rfl ?_ | refine go_dop rfl ?_ | refine go_dend (by kernel_rfl) ?_ | refine go_call [2, 1] (ht) rfl rfl rfl rfl ?_ | refine go_call [2] (hn) rfl rfl rfl rfl ?_) <;> conv => whnf) | ((first | refine go_loadB ?_ | refine ⟨by kernel_rfl, ?_⟩ | refine go_ret ?_) <;> conv => whnf) | refine go_block ?_ | ((first | refine go_skip ?_ | refine go_exit ?_) <;> conv => whnf) | refine go_true rfl ?_ | refine go_false rfl ?_ | refine go_cond rfl (fun h => ?_) (fun h => ?_) | refine ⟨rfl, ?_⟩ | ((first | refine ⟨trivial, ?_⟩ | refine ⟨le_of_ble rfl, ?_⟩) <;> conv => whnf) | fail
  refine go_loop (α := Nat) (fun i => i ≤ N) (fun i => N - i)
    (fun i => st Try.f31.ntmps [(0, .box 1001 0), (3, .own 1000 0 ((vAt xs (v1 xs c) i).l.map Visit.enc).length), (4, .imm (.int .i64 (vAt xs (v1 xs c) i).t)), (5, .imm (.int .i64 ((N - i : Nat) : Int)))]
      [(1000, .arr 63 4 ((vAt xs (v1 xs c) i).l.map Visit.enc)), (1001, .box 46 ((cu xs (vAt xs (v1 xs c) i).c).map .imm))] [1001]) 0 (Nat.zero_le _) ?_ ?_
  · refine ref_st (fun x => if x = 1000 then nid 2 9 else 0) rfl ⟨⟨rfl, rfl⟩, ⟨rfl, rfl⟩, rfl, ?_, trivial⟩ ⟨rfl, ⟨rfl, wavs_imm _⟩, trivial⟩ (by simp [nid]) rfl (by simp [lookM])
    show AV.imm _ = AV.imm _
    rw [Nat.sub_zero, hNn]
  intro i hi
  by_cases hiN : i < N
  · have hg := hgo i (by omega)
    obtain ⟨g1, g2, g3, g4⟩ := hg
    have hnx : vAt xs (v1 xs c) (i + 1) = vStep xs (vAt xs (v1 xs c) i) := rfl
    generalize vAt xs (v1 xs c) i = V at *
    obtain ⟨_, s1, hc1⟩ := pk_ok hx (c := V.c) (by omega) 3
    have hc2 := c50 V.t 1799
    obtain ⟨_, s3, hc3⟩ := am_ok hx (c := (pk xs V.c 3).2) (l := lA) (by omega) (by decide) (by decide)
    obtain ⟨_, s4, hc4⟩ := am_ok hx (c := (am xs (pk xs V.c 3).2 lA).2) (l := lB) (by omega) (by decide) (by decide)
    obtain ⟨_, s5, hc5⟩ := am_ok hx (c := vCu xs V) (l := lC) (by unfold vCu; omega) (by decide) (by decide)
    have hdec : IntKind.i64.wrap (((N - i : Nat) : Int) - 1) = ((N - (i + 1) : Nat) : Int) := by rw [wrap_small (by omega) (by omega)]; omega
    have hb0 : decide ((0 : Int) < ((N - i : Nat) : Int)) = true := decide_eq_true (by omega)
    have hone := visit_one [vNew xs V]
    have hbd : (V.l.map Visit.enc).length + 1 ≤ 1073741824 := by rw [List.length_map]; omega
    repeat' first | refine go_seq ?_ | refine go_region ?_ | refine go_draw drawsOk ?_ | ((first | refine go_op rfl ?_ | refine go_nil ?_ | refine go_storeBox rfl rfl rfl rfl rfl rfl ?_ | refine go_dop rfl ?_ | refine go_dend (by kernel_rfl) ?_ | refine go_call [2] (hc1) rfl rfl rfl rfl ?_ | refine go_call [] (hc2) rfl rfl rfl rfl ?_ | refine go_call [2, 1] (hc3) rfl rfl rfl rfl ?_ | refine go_call [2, 1] (hc4) rfl rfl rfl rfl ?_ | refine go_call [2, 1] (hc5) rfl rfl rfl rfl ?_ | refine go_append (rows2 := [vNew xs V].map Visit.enc) rfl rfl rfl rfl rfl rfl rfl rfl rfl rfl rfl rfl hone rfl rfl rfl hbd ?_) <;> conv => whnf) | ((first | refine go_loadB ?_ | refine ⟨by kernel_rfl, ?_⟩ | refine go_ret ?_) <;> conv => whnf) | refine go_block ?_ | ((first | refine go_skip ?_ | refine go_exit ?_) <;> conv => whnf) | refine go_true rfl ?_ | refine go_false rfl ?_ | refine go_cond rfl (fun h => ?_) (fun h => ?_) | refine ⟨rfl, ?_⟩ | ((first | refine ⟨trivial, ?_⟩ | refine ⟨le_of_ble rfl, ?_⟩) <;> conv => whnf) | fail
    all_goals first
      | (exfalso; exact Bool.noConfusion (hb0.symm.trans (by assumption : decide ((0 : Int) < ((N - i : Nat) : Int)) = false)))
      | (refine go_next (i + 1) (by omega) (by omega) (ref_st (fun x => if x = 1000 then nid 5 37 else x) rfl ⟨⟨rfl, rfl⟩, ⟨?_, rfl⟩, ?_, ?_, trivial⟩ ⟨?_, ?_, trivial⟩ (by simp [nid]) rfl (by simp [lookM]))
         · show AV.own _ _ _ = AV.own _ _ _
           rw [hnx]
           simp [vStep]
           try rfl
         · show AV.imm _ = AV.imm _
           rw [hnx]
           try rfl
         · show AV.imm _ = AV.imm _
           rw [hdec]
         · show some _ = some _
           rw [hnx]
           simp [vStep]
           try rfl
         · rw [hnx]
           exact ⟨rfl, wavs_imm _⟩
         done)
      | trace_state
  · have hiN' : i = N := by omega
    subst hiN'
    have hg := hgo i (by omega)
    obtain ⟨g1, g2, g3, g4⟩ := hg
    rw [hEnd]
    generalize vAt xs (v1 xs c) i = V at *
    have hb0 : decide ((0 : Int) < ((i - i : Nat) : Int)) = false := decide_eq_false (by omega)
    have hlm : ((V.l.map Visit.enc).length : Int) = V.l.length := by rw [List.length_map]
    by_cases hl0 : V.l.length = 0
    · have hF : vFin xs V = ([], V.c) := by unfold vFin; rw [if_pos hl0]
      have hn0 : V.l = [] := List.eq_nil_of_length_eq_zero hl0
      rw [hF]
      repeat' first | refine go_seq ?_ | refine go_region ?_ | refine go_draw drawsOk ?_ | ((first | refine go_op rfl ?_ | refine go_nil ?_ | refine go_storeBox rfl rfl rfl rfl rfl rfl ?_ | refine go_dop rfl ?_ | refine go_dend (by kernel_rfl) ?_) <;> conv => whnf) | ((first | refine go_loadB ?_ | refine ⟨by kernel_rfl, ?_⟩ | refine go_ret ?_) <;> conv => whnf) | refine go_block ?_ | ((first | refine go_skip ?_ | refine go_exit ?_) <;> conv => whnf) | refine go_true rfl ?_ | refine go_false rfl ?_ | refine go_cond rfl (fun h => ?_) (fun h => ?_) | refine ⟨rfl, ?_⟩ | ((first | refine ⟨trivial, ?_⟩ | refine ⟨le_of_ble rfl, ?_⟩) <;> conv => whnf) | fail
      all_goals first
        | (exfalso; exact Bool.noConfusion (hb0.symm.trans (by assumption : decide ((0 : Int) < ((i - i : Nat) : Int)) = true)))
        | (refine ret_box1own rfl rfl rfl rfl rfl ?_ (by decide) rfl
           rw [hn0]
           rfl)
        | (exfalso; have h' := of_decide_eq_false h; rw [hlm] at h'; omega)
        | trace_state
    have hl1 : decide (((V.l.map Visit.enc).length : Int) = 0) = false := by rw [hlm]; exact decide_eq_false (by omega)
    obtain ⟨p1, p2, hq⟩ : PickP xs V.c ((V.l.map Visit.enc).length : Int) (fQ xs V) := pk_ok hx (c := V.c) (by omega) _
    obtain ⟨w1, w2, hw⟩ : PickP xs (fQ xs V).2 40 (fW xs V) := pk_ok hx (c := (fQ xs V).2) (by omega) 40
    have hq3 := p1.2 (by omega)
    obtain ⟨j, hj⟩ := Int.eq_ofNat_of_zero_le p1.1
    have hjt : (fQ xs V).1.toNat = j := by rw [hj]; rfl
    have hjl : j < V.l.length := by omega
    have hXj : V.l[j]? = some (fX xs V) := by
      unfold fX
      rw [hjt, List.getD_eq_getElem?_getD, List.getElem?_eq_getElem hjl]
      rfl
    have hrow : (V.l.map Visit.enc)[j]? = some (fX xs V).enc := by rw [List.getElem?_map, hXj]; rfl
    have hjl2 : j < (V.l.map Visit.enc).length := by rw [List.length_map]; exact hjl
    have hset : ∀ v : Visit, (V.l.map Visit.enc).set j v.enc = (V.l.set j v).map Visit.enc := fun v => (List.map_set ..).symm
    have hlen : ∀ v : Visit, (((V.l.set j v).map Visit.enc).drop 0).take (V.l.map Visit.enc).length = (V.l.set j v).map Visit.enc := fun v => by
      rw [List.drop_zero, List.take_of_length_le (by simp)]
    by_cases c0 : (fW xs V).1 = 0
    · obtain ⟨_, _, hd⟩ := am_ok hx (c := (fW xs V).2) (l := lD) (by omega) (by decide) (by decide)
      have d0 : decide ((fW xs V).1 = 0) = true := decide_eq_true c0
      have hF : vFin xs V = (V.l.set j { fX xs V with actual := IntKind.i64.wrap ((fX xs V).planned + (am xs (fW xs V).2 lD).1) }, (am xs (fW xs V).2 lD).2) := by unfold vFin; rw [if_neg hl0, if_pos c0, hjt]
      rw [hF]
      have hs := hset { fX xs V with actual := IntKind.i64.wrap ((fX xs V).planned + (am xs (fW xs V).2 lD).1) }
      repeat' first | refine go_seq ?_ | refine go_region ?_ | refine go_draw drawsOk ?_ | ((first | refine go_op rfl ?_ | refine go_nil ?_ | refine go_storeBox rfl rfl rfl rfl rfl rfl ?_ | refine go_dop rfl ?_ | refine go_dend (by kernel_rfl) ?_ | refine go_call [2] (hq) rfl rfl rfl rfl ?_ | refine go_call [2] (hw) rfl rfl rfl rfl ?_ | refine go_call [2, 1] (hd) rfl rfl rfl rfl ?_ | refine go_idxOwnI (j := j) rfl rfl hj rfl rfl rfl rfl hjl2 ?_ | refine go_loadEl (i := j) rfl rfl rfl hrow ?_ | refine go_storeRow rfl rfl rfl rfl hrow rfl rfl hs ?_) <;> conv => whnf) | ((first | refine go_loadB ?_ | refine ⟨by kernel_rfl, ?_⟩ | refine go_ret ?_) <;> conv => whnf) | refine go_block ?_ | ((first | refine go_skip ?_ | refine go_exit ?_) <;> conv => whnf) | refine go_true rfl ?_ | refine go_false rfl ?_ | refine go_cond rfl (fun h => ?_) (fun h => ?_) | refine ⟨rfl, ?_⟩ | ((first | refine ⟨trivial, ?_⟩ | refine ⟨le_of_ble rfl, ?_⟩) <;> conv => whnf) | fail
      all_goals first
        | (refine ret_box1own rfl rfl rfl rfl rfl (hlen _) (by decide) rfl
           done)
        | (exfalso; exact Bool.noConfusion (hb0.symm.trans (by assumption : decide ((0 : Int) < ((i - i : Nat) : Int)) = true)))
        | (exfalso; exact Bool.noConfusion (hl1.symm.trans (by assumption : decide (((V.l.map Visit.enc).length : Int) = 0) = true)))
        | (exfalso; exact Bool.noConfusion (d0.symm.trans (by assumption : decide ((fW xs V).1 = 0) = false)))
        | trace_state
    by_cases c1 : (fW xs V).1 = 1
    · obtain ⟨_, _, hd⟩ := am_ok hx (c := (fW xs V).2) (l := lE) (by omega) (by decide) (by decide)
      have d0 : decide ((fW xs V).1 = 0) = false := decide_eq_false c0
      have d1 : decide ((fW xs V).1 = 1) = true := decide_eq_true c1
      have hF : vFin xs V = (V.l.set j { fX xs V with stop := (am xs (fW xs V).2 lE).1 }, (am xs (fW xs V).2 lE).2) := by unfold vFin; rw [if_neg hl0, if_neg c0, if_pos c1, hjt]
      rw [hF]
      have hs := hset { fX xs V with stop := (am xs (fW xs V).2 lE).1 }
      repeat' first | refine go_seq ?_ | refine go_region ?_ | refine go_draw drawsOk ?_ | ((first | refine go_op rfl ?_ | refine go_nil ?_ | refine go_storeBox rfl rfl rfl rfl rfl rfl ?_ | refine go_dop rfl ?_ | refine go_dend (by kernel_rfl) ?_ | refine go_call [2] (hq) rfl rfl rfl rfl ?_ | refine go_call [2] (hw) rfl rfl rfl rfl ?_ | refine go_call [2, 1] (hd) rfl rfl rfl rfl ?_ | refine go_idxOwnI (j := j) rfl rfl hj rfl rfl rfl rfl hjl2 ?_ | refine go_loadEl (i := j) rfl rfl rfl hrow ?_ | refine go_storeRow rfl rfl rfl rfl hrow rfl rfl hs ?_) <;> conv => whnf) | ((first | refine go_loadB ?_ | refine ⟨by kernel_rfl, ?_⟩ | refine go_ret ?_) <;> conv => whnf) | refine go_block ?_ | ((first | refine go_skip ?_ | refine go_exit ?_) <;> conv => whnf) | refine go_true rfl ?_ | refine go_false rfl ?_ | refine go_cond rfl (fun h => ?_) (fun h => ?_) | refine ⟨rfl, ?_⟩ | ((first | refine ⟨trivial, ?_⟩ | refine ⟨le_of_ble rfl, ?_⟩) <;> conv => whnf) | fail
      all_goals first
        | (refine ret_box1own rfl rfl rfl rfl rfl (hlen _) (by decide) rfl
           done)
        | (exfalso; exact Bool.noConfusion (hb0.symm.trans (by assumption : decide ((0 : Int) < ((i - i : Nat) : Int)) = true)))
        | (exfalso; exact Bool.noConfusion (hl1.symm.trans (by assumption : decide (((V.l.map Visit.enc).length : Int) = 0) = true)))
        | (exfalso; exact Bool.noConfusion (d0.symm.trans (by assumption : decide ((fW xs V).1 = 0) = true)))
        | (exfalso; exact Bool.noConfusion (d1.symm.trans (by assumption : decide ((fW xs V).1 = 1) = false)))
        | trace_state
    by_cases c2 : (fW xs V).1 = 2
    · obtain ⟨_, _, hd⟩ := am_ok hx (c := (fW xs V).2) (l := lF) (by omega) (by decide) (by decide)
      have d0 : decide ((fW xs V).1 = 0) = false := decide_eq_false c0
      have d1 : decide ((fW xs V).1 = 1) = false := decide_eq_false c1
      have d2 : decide ((fW xs V).1 = 2) = true := decide_eq_true c2
      have hF : vFin xs V = (V.l.set j { fX xs V with persons := (am xs (fW xs V).2 lF).1 }, (am xs (fW xs V).2 lF).2) := by unfold vFin; rw [if_neg hl0, if_neg c0, if_neg c1, if_pos c2, hjt]
      rw [hF]
      have hs := hset { fX xs V with persons := (am xs (fW xs V).2 lF).1 }
      repeat' first | refine go_seq ?_ | refine go_region ?_ | refine go_draw drawsOk ?_ | ((first | refine go_op rfl ?_ | refine go_nil ?_ | refine go_storeBox rfl rfl rfl rfl rfl rfl ?_ | refine go_dop rfl ?_ | refine go_dend (by kernel_rfl) ?_ | refine go_call [2] (hq) rfl rfl rfl rfl ?_ | refine go_call [2] (hw) rfl rfl rfl rfl ?_ | refine go_call [2, 1] (hd) rfl rfl rfl rfl ?_ | refine go_idxOwnI (j := j) rfl rfl hj rfl rfl rfl rfl hjl2 ?_ | refine go_loadEl (i := j) rfl rfl rfl hrow ?_ | refine go_storeRow rfl rfl rfl rfl hrow rfl rfl hs ?_) <;> conv => whnf) | ((first | refine go_loadB ?_ | refine ⟨by kernel_rfl, ?_⟩ | refine go_ret ?_) <;> conv => whnf) | refine go_block ?_ | ((first | refine go_skip ?_ | refine go_exit ?_) <;> conv => whnf) | refine go_true rfl ?_ | refine go_false rfl ?_ | refine go_cond rfl (fun h => ?_) (fun h => ?_) | refine ⟨rfl, ?_⟩ | ((first | refine ⟨trivial, ?_⟩ | refine ⟨le_of_ble rfl, ?_⟩) <;> conv => whnf) | fail
      all_goals first
        | (refine ret_box1own rfl rfl rfl rfl rfl (hlen _) (by decide) rfl
           done)
        | (exfalso; exact Bool.noConfusion (hb0.symm.trans (by assumption : decide ((0 : Int) < ((i - i : Nat) : Int)) = true)))
        | (exfalso; exact Bool.noConfusion (hl1.symm.trans (by assumption : decide (((V.l.map Visit.enc).length : Int) = 0) = true)))
        | (exfalso; exact Bool.noConfusion (d0.symm.trans (by assumption : decide ((fW xs V).1 = 0) = true)))
        | (exfalso; exact Bool.noConfusion (d1.symm.trans (by assumption : decide ((fW xs V).1 = 1) = true)))
        | (exfalso; exact Bool.noConfusion (d2.symm.trans (by assumption : decide ((fW xs V).1 = 2) = false)))
        | trace_state
    by_cases c3 : (fW xs V).1 = 3
    · have d0 : decide ((fW xs V).1 = 0) = false := decide_eq_false c0
      have d1 : decide ((fW xs V).1 = 1) = false := decide_eq_false c1
      have d2 : decide ((fW xs V).1 = 2) = false := decide_eq_false c2
      have d3 : decide ((fW xs V).1 = 3) = true := decide_eq_true c3
      have hF : vFin xs V = ((V.l ++ List.replicate (fM xs V).1 (fX xs V)).set j (fX xs V), (fM xs V).2) := by unfold vFin; rw [if_neg hl0, if_neg c0, if_neg c1, if_neg c2, if_pos c3, hjt]
      rw [hF]
      repeat' first | refine go_seq ?_ | refine go_region ?_ | refine go_draw drawsOk ?_ | ((first | refine go_op rfl ?_ | refine go_nil ?_ | refine go_storeBox rfl rfl rfl rfl rfl rfl ?_ | refine go_dop rfl ?_ | refine go_dend (by kernel_rfl) ?_ | refine go_call [2] (hq) rfl rfl rfl rfl ?_ | refine go_call [2] (hw) rfl rfl rfl rfl ?_ | refine go_idxOwnI (j := j) rfl rfl hj rfl rfl rfl rfl hjl2 ?_ | refine go_loadEl (i := j) rfl rfl rfl hrow ?_) <;> conv => whnf) | ((first | refine go_loadB ?_ | refine ⟨by kernel_rfl, ?_⟩ | refine go_ret ?_) <;> conv => whnf) | refine go_block ?_ | ((first | refine go_skip ?_ | refine go_exit ?_) <;> conv => whnf) | refine go_true rfl ?_ | refine go_false rfl ?_ | refine go_cond rfl (fun h => ?_) (fun h => ?_) | refine ⟨rfl, ?_⟩ | ((first | refine ⟨trivial, ?_⟩ | refine ⟨le_of_ble rfl, ?_⟩) <;> conv => whnf) | fail
      all_goals try first
        | (exfalso; exact Bool.noConfusion (hb0.symm.trans (by assumption : decide ((0 : Int) < ((i - i : Nat) : Int)) = true)))
        | (exfalso; exact Bool.noConfusion (hl1.symm.trans (by assumption : decide (((V.l.map Visit.enc).length : Int) = 0) = true)))
        | (exfalso; exact Bool.noConfusion (d0.symm.trans (by assumption : decide ((fW xs V).1 = 0) = true)))
        | (exfalso; exact Bool.noConfusion (d1.symm.trans (by assumption : decide ((fW xs V).1 = 1) = true)))
        | (exfalso; exact Bool.noConfusion (d2.symm.trans (by assumption : decide ((fW xs V).1 = 2) = true)))
        | (exfalso; exact Bool.noConfusion (d3.symm.trans (by assumption : decide ((fW xs V).1 = 3) = false)))
      have hn31 : V.l.length ≤ 31 := by omega
      have hxe : (fX xs V).enc = (fX xs V).enc := rfl
      refine go_loop (α := Nat × Cu) (fun a => V.l.length + a.1 ≤ 31 ∧ a.2.k ≤ (fW xs V).2.k + 2 * a.1 ∧ a.1 + (more xs (32 - (V.l.length + a.1)) (V.l.length + a.1) a.2).1 = (fM xs V).1 ∧ (more xs (32 - (V.l.length + a.1)) (V.l.length + a.1) a.2).2 = (fM xs V).2) (fun a => 32 - (V.l.length + a.1))
        (fun a => st Try.f31.ntmps [(0, .box 1001 0), (3, .own 1000 0 ((V.l ++ List.replicate a.1 (fX xs V)).map Visit.enc).length), (7, .imm (.int .i64 (fQ xs V).1)), (8, .box 1002 0)]
          [(1000, .arr 63 4 ((V.l ++ List.replicate a.1 (fX xs V)).map Visit.enc)), (1001, .box 46 ((cu xs a.2).map .imm)), (1002, .box 63 ((fX xs V).enc.map .imm))] [1001]) (0, (fW xs V).2) ⟨hn31, Nat.le_refl _, by simp [fM], by simp [fM]⟩ ?_ ?_
      · refine ref_st (fun x => if x = 1002 then nid 5 8 else x) rfl ⟨⟨rfl, rfl⟩, ⟨?_, rfl⟩, rfl, ⟨rfl, rfl⟩, trivial⟩ ⟨?_, ⟨rfl, wavs_imm _⟩, ⟨rfl, wavs_imm _⟩, trivial⟩ (by simp [nid]) rfl (by simp [lookM])
        · show AV.own _ _ _ = AV.own _ _ _
          simp
        · show some _ = some _
          simp
      rintro ⟨m, d⟩ ⟨hm1, hm2, hm3, hm4⟩
      simp only at hm1 hm2 hm3 hm4 ⊢
      obtain ⟨r1, r2, hr⟩ := pk_ok hx (c := d) (by omega) 2
      have hr3 := r1.2 (by omega)
      obtain ⟨f, hf⟩ : ∃ f, 32 - (V.l.length + m) = f + 1 := ⟨31 - (V.l.length + m), by omega⟩
      rw [hf] at hm3 hm4
      simp only [more] at hm3 hm4
      have e30 : IntKind.i64.wrap (30 + (pk xs d 2).1) = 30 + (pk xs d 2).1 := wrap_small (by omega) (by omega)
      have hLm : (((V.l ++ List.replicate m (fX xs V)).map Visit.enc).length : Int) = ((V.l.length + m : Nat) : Int) := by rw [List.length_map, List.length_append, List.length_replicate]
      have hone := visit_one [fX xs V]
      have hbd : ((V.l ++ List.replicate m (fX xs V)).map Visit.enc).length + 1 ≤ 1073741824 := by rw [List.length_map, List.length_append, List.length_replicate]; omega
      have hrow2 : ((V.l ++ List.replicate m (fX xs V)).map Visit.enc)[j]? = some (fX xs V).enc := by rw [List.getElem?_map, List.getElem?_append_left hjl, hXj]; rfl
      have hjl3 : j < ((V.l ++ List.replicate m (fX xs V)).map Visit.enc).length := by rw [List.length_map, List.length_append]; omega
      have hs2 : ((V.l ++ List.replicate m (fX xs V)).map Visit.enc).set j (fX xs V).enc = ((V.l ++ List.replicate m (fX xs V)).set j (fX xs V)).map Visit.enc := (List.map_set ..).symm
      by_cases hlt : ((V.l.length + m : Nat) : Int) < 30 + (pk xs d 2).1
      · rw [if_pos hlt] at hm3 hm4
        simp only at hm3 hm4
        have hc : decide ((((V.l ++ List.replicate m (fX xs V)).map Visit.enc).length : Int) < IntKind.i64.wrap (30 + (pk xs d 2).1)) = true := by rw [e30, hLm]; exact decide_eq_true hlt
        have hfe : 32 - (V.l.length + m + 1) = f := by omega
        have hne : V.l.length + (m + 1) = V.l.length + m + 1 := by omega
        have hrep : V.l ++ List.replicate (m + 1) (fX xs V) = V.l ++ List.replicate m (fX xs V) ++ [fX xs V] := by rw [List.replicate_succ', List.append_assoc]
        repeat' first | refine go_seq ?_ | refine go_region ?_ | refine go_draw drawsOk ?_ | ((first | refine go_op rfl ?_ | refine go_nil ?_ | refine go_storeBox rfl rfl rfl rfl rfl rfl ?_ | refine go_dop rfl ?_ | refine go_dend (by kernel_rfl) ?_ | refine go_call [2] (hr) rfl rfl rfl rfl ?_ | refine go_append (rows2 := [fX xs V].map Visit.enc) rfl rfl rfl rfl rfl rfl rfl rfl rfl rfl rfl rfl hone rfl rfl rfl hbd ?_ | refine go_idxOwnI (j := j) rfl rfl hj rfl rfl rfl rfl hjl3 ?_ | refine go_storeRow rfl rfl rfl rfl hrow2 rfl rfl hs2 ?_) <;> conv => whnf) | ((first | refine go_loadB ?_ | refine ⟨by kernel_rfl, ?_⟩ | refine go_ret ?_) <;> conv => whnf) | refine go_block ?_ | ((first | refine go_skip ?_ | refine go_exit ?_) <;> conv => whnf) | refine go_true rfl ?_ | refine go_false rfl ?_ | refine go_cond rfl (fun h => ?_) (fun h => ?_) | refine ⟨rfl, ?_⟩ | ((first | refine ⟨trivial, ?_⟩ | refine ⟨le_of_ble rfl, ?_⟩) <;> conv => whnf) | fail
        all_goals first
          | (exfalso; exact Bool.noConfusion (hc.symm.trans (by assumption : decide ((((V.l ++ List.replicate m (fX xs V)).map Visit.enc).length : Int) < IntKind.i64.wrap (30 + (pk xs d 2).1)) = false)))
          | (refine go_next (m + 1, (pk xs d 2).2) ⟨by first | omega | (simp only; omega), by first | omega | (simp only; omega), ?_, ?_⟩ (by first | omega | (simp only; omega)) (ref_st (fun x => if x = 1000 then nid 3 89 else x) rfl ⟨⟨rfl, rfl⟩, ⟨?_, rfl⟩, rfl, ⟨rfl, rfl⟩, trivial⟩ ⟨?_, ⟨rfl, wavs_imm _⟩, ⟨rfl, wavs_imm _⟩, trivial⟩ (by simp [nid]) rfl (by simp [lookM]))
             · simp only [hne, hfe]; omega
             · simp only [hne, hfe]; exact hm4
             · show AV.own _ _ _ = AV.own _ _ _
               simp only [hrep, List.map_append, List.length_append]
               try rfl
             · show some _ = some _
               simp only [hrep, List.map_append]
               try rfl
             done)
          | trace_state
      · rw [if_neg hlt] at hm3 hm4
        simp only at hm3 hm4
        have hc : decide ((((V.l ++ List.replicate m (fX xs V)).map Visit.enc).length : Int) < IntKind.i64.wrap (30 + (pk xs d 2).1)) = false := by rw [e30, hLm]; exact decide_eq_false hlt
        have hmm : m = (fM xs V).1 := by omega
        rw [← hm4, ← hmm]
        have hfin : ((((V.l ++ List.replicate m (fX xs V)).set j (fX xs V)).map Visit.enc).drop 0).take ((V.l ++ List.replicate m (fX xs V)).map Visit.enc).length = ((V.l ++ List.replicate m (fX xs V)).set j (fX xs V)).map Visit.enc := by
          rw [List.drop_zero, List.take_of_length_le (by simp)]
        repeat' first | refine go_seq ?_ | refine go_region ?_ | refine go_draw drawsOk ?_ | ((first | refine go_op rfl ?_ | refine go_nil ?_ | refine go_storeBox rfl rfl rfl rfl rfl rfl ?_ | refine go_dop rfl ?_ | refine go_dend (by kernel_rfl) ?_ | refine go_call [2] (hr) rfl rfl rfl rfl ?_ | refine go_append (rows2 := [fX xs V].map Visit.enc) rfl rfl rfl rfl rfl rfl rfl rfl rfl rfl rfl rfl hone rfl rfl rfl hbd ?_ | refine go_idxOwnI (j := j) rfl rfl hj rfl rfl rfl rfl hjl3 ?_ | refine go_storeRow rfl rfl rfl rfl hrow2 rfl rfl hs2 ?_) <;> conv => whnf) | ((first | refine go_loadB ?_ | refine ⟨by kernel_rfl, ?_⟩ | refine go_ret ?_) <;> conv => whnf) | refine go_block ?_ | ((first | refine go_skip ?_ | refine go_exit ?_) <;> conv => whnf) | refine go_true rfl ?_ | refine go_false rfl ?_ | refine go_cond rfl (fun h => ?_) (fun h => ?_) | refine ⟨rfl, ?_⟩ | ((first | refine ⟨trivial, ?_⟩ | refine ⟨le_of_ble rfl, ?_⟩) <;> conv => whnf) | fail
        all_goals first
          | (exfalso; exact Bool.noConfusion (hc.symm.trans (by assumption : decide ((((V.l ++ List.replicate m (fX xs V)).map Visit.enc).length : Int) < IntKind.i64.wrap (30 + (pk xs d 2).1)) = true)))
          | (refine ret_box1own rfl rfl rfl rfl rfl hfin (by decide) rfl
             done)
          | trace_state
    · have d0 : decide ((fW xs V).1 = 0) = false := decide_eq_false c0
      have d1 : decide ((fW xs V).1 = 1) = false := decide_eq_false c1
      have d2 : decide ((fW xs V).1 = 2) = false := decide_eq_false c2
      have d3 : decide ((fW xs V).1 = 3) = false := decide_eq_false c3
      have hF : vFin xs V = (V.l.set j (fX xs V), (fW xs V).2) := by unfold vFin; rw [if_neg hl0, if_neg c0, if_neg c1, if_neg c2, if_neg c3, hjt]
      rw [hF]
      have hs := hset (fX xs V)
      repeat' first | refine go_seq ?_ | refine go_region ?_ | refine go_draw drawsOk ?_ | ((first | refine go_op rfl ?_ | refine go_nil ?_ | refine go_storeBox rfl rfl rfl rfl rfl rfl ?_ | refine go_dop rfl ?_ | refine go_dend (by kernel_rfl) ?_ | refine go_call [2] (hq) rfl rfl rfl rfl ?_ | refine go_call [2] (hw) rfl rfl rfl rfl ?_ | refine go_idxOwnI (j := j) rfl rfl hj rfl rfl rfl rfl hjl2 ?_ | refine go_loadEl (i := j) rfl rfl rfl hrow ?_ | refine go_storeRow rfl rfl rfl rfl hrow rfl rfl hs ?_) <;> conv => whnf) | ((first | refine go_loadB ?_ | refine ⟨by kernel_rfl, ?_⟩ | refine go_ret ?_) <;> conv => whnf) | refine go_block ?_ | ((first | refine go_skip ?_ | refine go_exit ?_) <;> conv => whnf) | refine go_true rfl ?_ | refine go_false rfl ?_ | refine go_cond rfl (fun h => ?_) (fun h => ?_) | refine ⟨rfl, ?_⟩ | ((first | refine ⟨trivial, ?_⟩ | refine ⟨le_of_ble rfl, ?_⟩) <;> conv => whnf) | fail
      all_goals first
        | (refine ret_box1own rfl rfl rfl rfl rfl (hlen _) (by decide) rfl
           done)
        | (exfalso; exact Bool.noConfusion (hb0.symm.trans (by assumption : decide ((0 : Int) < ((i - i : Nat) : Int)) = true)))
        | (exfalso; exact Bool.noConfusion (hl1.symm.trans (by assumption : decide (((V.l.map Visit.enc).length : Int) = 0) = true)))
        | (exfalso; exact Bool.noConfusion (d0.symm.trans (by assumption : decide ((fW xs V).1 = 0) = true)))
        | (exfalso; exact Bool.noConfusion (d1.symm.trans (by assumption : decide ((fW xs V).1 = 1) = true)))
        | (exfalso; exact Bool.noConfusion (d2.symm.trans (by assumption : decide ((fW xs V).1 = 2) = true)))
        | (exfalso; exact Bool.noConfusion (d3.symm.trans (by assumption : decide ((fW xs V).1 = 3) = true)))
        | trace_state
end Go.Proofs.Ytobnoplkpmdeiaa

