/- FnServiceDays: the law walked. -/
import Derived.Test.YtlpdlfdafgoafaaSD13
namespace Go.Proofs.Ytlpdlfdafgoafaa
open Go Go.Am Go.SD
set_option maxRecDepth 100000
set_option maxHeartbeats 8000000
attribute [local irreducible] amOps amC opCall opIndexAddr opPick retQ opMake opStore amDraw opAppend opLoad opNilCmp opIndex opSlice

theorem next_law {x : Cal} {day : Int} (h : nxB x day = true) : validC x = true ∧ inR (nxV x day) 0 3650 = true ∧ runD x (nxV x day) = true ∧ nxV x (nxV x day) = nxV x day ∧ nxB x (nxV x day) = true ∧ day ≤ nxV x day := by
  unfold nxB at h
  simp only [Bool.and_eq_true] at h
  obtain ⟨⟨hv, hd⟩, hs⟩ := h
  obtain ⟨y, hy⟩ := Option.isSome_iff_exists.1 hs
  have e1 : nxV x day = y := by unfold nxV; rw [hv, hd, hy]; rfl
  rw [e1]
  obtain ⟨k1, k2, k3, k4, k5⟩ := valid_facts hv
  simp only [inR, Bool.and_eq_true, decide_eq_true_eq] at hd
  unfold nextO at hy
  obtain ⟨r1, r2, r3⟩ := next_some hy
  have hm : x.fro ≤ mx day x.fro ∧ day ≤ mx day x.fro ∧ 0 ≤ mx day x.fro := by unfold mx; split <;> omega
  have hto : y ≤ x.to := by unfold nextN at r3; omega
  have hi : inR y 0 3650 = true := by simp only [inR, Bool.and_eq_true, decide_eq_true_eq]; omega
  have hr : runD x y = true := by rw [runD_run ⟨by omega, hto⟩]; exact r1
  have hmy : mx y x.fro = y := by unfold mx; rw [if_neg (by omega)]
  have hno : nextO x y = some y := by
    unfold nextO nextN
    rw [hmy]
    obtain ⟨k, hk⟩ : ∃ k, (x.to + 1 - y).toNat = k + 1 := ⟨(x.to + 1 - y).toNat - 1, by omega⟩
    rw [hk]
    exact next_self r1
  refine ⟨hv, hi, hr, ?_, ?_, by omega⟩
  · unfold nxV; rw [hv, hi, hno]; rfl
  · unfold nxB; rw [hv, hi, hno]; rfl

theorem fit_law {fro to : Int} {days : List Int} (h : ftB fro to days = true) : validC (ftC fro to days) = true ∧ ftR fro to days = ftC fro to days ∧ daysOf (ftC fro to days) = days ∧
    (cntD (ftC fro to days) (span (ftC fro to days)) = days.length) ∧ (∀ d ∈ days, inR d 0 3650 = true ∧ runD (ftC fro to days) d = true) := by
  have h' := h
  unfold ftB at h'
  simp only [Bool.and_eq_true] at h'
  obtain ⟨hV, hv⟩ := h'
  simp only [ftV, inR, Bool.and_eq_true, decide_eq_true_eq] at hV
  obtain ⟨k1, k2, k3, k4, k5⟩ := hV
  have hD : daysOf (ftC fro to days) = days := fit_days k3 k5
  refine ⟨hv, by unfold ftR; rw [h, if_pos rfl], hD, ?_, fun d hd => ?_⟩
  · have : cntD (ftC fro to days) (span (ftC fro to days)) = (daysOf (ftC fro to days)).length := rfl
    rw [this, hD]
  · have hm := ascI_mem k5 d hd
    refine ⟨by simp only [inR, Bool.and_eq_true, decide_eq_true_eq]; omega, ?_⟩
    have e1 : (ftC fro to days).fro = fro := rfl
    have e2 : (ftC fro to days).to = to := rfl
    rw [runD_run ⟨by rw [e1]; omega, by rw [e2]; omega⟩]
    have := fit_run (fro := fro) (to := to) (wd := wdF days fro (spanF fro to)) (days := days) (d := d) ((rngN_mem _ _ _).2 ⟨by omega, by omega⟩)
    unfold ftC
    rw [this]
    simpa using hd

theorem c4 (xs : List Int) : CallOk Try.prog 4 [.imm (.list (xs.map byteRow))] { res := [.imm (.bool (decide (65536 < ((xs.map byteRow).length : Int))))] } := by
  refine callOk_of tyOk Try.func4 rfl rfl (le_of_ble rfl) (le_of_ble rfl) (mutOk_imm rfl _) ?_
  repeat' first | refine go_seq ?_ | refine go_region ?_ | ((first | refine go_op rfl ?_ | refine go_nil ?_) <;> conv => whnf) | ((first | refine ⟨by kernel_rfl, ?_⟩ | refine go_ret ?_) <;> conv => whnf) | ((first | refine go_skip ?_) <;> conv => whnf) | refine ⟨rfl, ?_⟩ | ((first | refine ⟨trivial, ?_⟩ | refine ⟨le_of_ble rfl, ?_⟩) <;> conv => whnf) | fail
  all_goals exact ret_imm rfl rfl rfl rfl rfl rfl

theorem c3 (xs : List Int) (hx : areB xs) : CallOk Try.prog 3 [.imm (.list (xs.map byteRow))] { res := [.imm (.bool true)] } := by
  refine callOk_of tyOk Try.func3 rfl rfl (le_of_ble rfl) (le_of_ble rfl) (mutOk_imm rfl _) ?_
  have hb := c4 xs
  cases hbig : decide (65536 < ((xs.map byteRow).length : Int)) with
  | true =>
    rw [hbig] at hb
    repeat' first | refine go_seq ?_ | refine go_region ?_ | refine go_miss rfl rfl rfl ?_ | refine go_undef rfl rfl rfl ?_ | refine go_draw drawsOk ?_ | ((first | refine go_op rfl ?_ | refine go_nil ?_ | refine go_hit rfl rfl rfl ?_ | refine go_splitT rfl rfl rfl (fun h => ?_) (fun h => ?_) | refine go_splitF rfl rfl rfl (fun h => ?_) (fun h => ?_) | refine go_storeBox rfl rfl rfl rfl rfl rfl ?_ | refine go_dop rfl ?_ | refine go_dhit rfl rfl ?_ | refine go_dmiss rfl rfl ?_ | refine go_dundef rfl rfl ?_ | refine go_dend (by kernel_rfl) ?_ | refine go_pickT rfl ?_ | refine go_pickF rfl ?_ | refine go_pick rfl (fun h => ?_) (fun h => ?_) | refine go_call [] (hb) rfl rfl rfl rfl ?_) <;> conv => whnf) | ((first | refine go_dsplit2 rfl (fun h => ?_) (fun h => ?_) | refine go_loadB ?_ | refine ⟨by kernel_rfl, ?_⟩ | refine go_ret ?_) <;> conv => whnf) | refine go_block ?_ | ((first | refine go_skip ?_ | refine go_exit ?_) <;> conv => whnf) | refine go_true rfl ?_ | refine go_false rfl ?_ | refine go_cond rfl (fun h => ?_) (fun h => ?_) | refine ⟨rfl, ?_⟩ | ((first | refine ⟨trivial, ?_⟩ | refine ⟨le_of_ble rfl, ?_⟩) <;> conv => whnf) | fail
    all_goals exact ret_imm rfl rfl rfl rfl rfl rfl
  | false =>
  rw [hbig] at hb
  obtain ⟨fro, to, days, hl, hd⟩ := drawFit xs hx
  obtain ⟨x, day, hxf, hn⟩ := drawNext xs hx
  have hF := c6 fro to days (by omega)
  have hF' := c7 fro to days (by omega)
  have hN := c15 x hxf day
  have hN' := c16 x hxf day
  have hlaw := fun h => next_law (x := x) (day := day) h
  have hR2 := c11 x hxf (nxV x day)
  have hN2 := c15 x hxf (nxV x day)
  cases hok : ftB fro to days with
  | false =>
    have hZ : ftR fro to days = calZ := by unfold ftR; rw [hok]; rfl
    rw [hok, hZ] at hF hF'
    have hC := c8 calZ ⟨by show 0 ≤ _; omega, by show 0 ≤ _; omega⟩
    cases hnb : nxB x day with
    | false =>
      rw [hnb] at hN hN'
      generalize nxV x day = v at *
      repeat' first | refine go_seq ?_ | refine go_region ?_ | refine go_miss rfl rfl rfl ?_ | refine go_undef rfl rfl rfl ?_ | refine go_draw drawsOk ?_ | ((first | refine go_op rfl ?_ | refine go_nil ?_ | refine go_hit rfl rfl rfl ?_ | refine go_splitT rfl rfl rfl (fun h => ?_) (fun h => ?_) | refine go_splitF rfl rfl rfl (fun h => ?_) (fun h => ?_) | refine go_storeBox rfl rfl rfl rfl rfl rfl ?_ | refine go_dop rfl ?_ | refine go_dhit rfl rfl ?_ | refine go_dmiss rfl rfl ?_ | refine go_dundef rfl rfl ?_ | refine go_dend (by kernel_rfl) ?_ | refine go_pickT rfl ?_ | refine go_pickF rfl ?_ | refine go_pick rfl (fun h => ?_) (fun h => ?_) | refine go_call [] (hb) rfl rfl rfl rfl ?_ | refine go_call [] (hd) rfl rfl rfl rfl ?_ | refine go_call [] (hF) rfl rfl rfl rfl ?_ | refine go_call [] (hF') rfl rfl rfl rfl ?_ | refine go_call [] (hC) rfl rfl rfl rfl ?_ | refine go_call [] (hn) rfl rfl rfl rfl ?_ | refine go_call [] (hN) rfl rfl rfl rfl ?_ | refine go_call [] (hN') rfl rfl rfl rfl ?_) <;> conv => whnf) | ((first | refine go_dsplit2 rfl (fun h => ?_) (fun h => ?_) | refine go_loadB ?_ | refine ⟨by kernel_rfl, ?_⟩ | refine go_ret ?_) <;> conv => whnf) | refine go_block ?_ | ((first | refine go_skip ?_ | refine go_exit ?_) <;> conv => whnf) | refine go_true rfl ?_ | refine go_false rfl ?_ | refine go_cond rfl (fun h => ?_) (fun h => ?_) | refine ⟨rfl, ?_⟩ | ((first | refine ⟨trivial, ?_⟩ | refine ⟨le_of_ble rfl, ?_⟩) <;> conv => whnf) | fail
      all_goals first
        | exact ret_imm rfl rfl rfl rfl rfl rfl
        | (refine ret_imm rfl rfl rfl rfl ?_ rfl; simp; done)
        | (exfalso; simp at h; done)
        | trace_state
    | true =>
      obtain ⟨g1, g2, g3, g4, g5, g6⟩ := hlaw hnb
      rw [g1, g2, g3] at hR2
      rw [g4, g5] at hN2
      rw [hnb] at hN hN'
      clear hlaw
      generalize nxV x day = v at *
      repeat' first | refine go_seq ?_ | refine go_region ?_ | refine go_miss rfl rfl rfl ?_ | refine go_undef rfl rfl rfl ?_ | refine go_draw drawsOk ?_ | ((first | refine go_op rfl ?_ | refine go_nil ?_ | refine go_hit rfl rfl rfl ?_ | refine go_splitT rfl rfl rfl (fun h => ?_) (fun h => ?_) | refine go_splitF rfl rfl rfl (fun h => ?_) (fun h => ?_) | refine go_storeBox rfl rfl rfl rfl rfl rfl ?_ | refine go_dop rfl ?_ | refine go_dhit rfl rfl ?_ | refine go_dmiss rfl rfl ?_ | refine go_dundef rfl rfl ?_ | refine go_dend (by kernel_rfl) ?_ | refine go_pickT rfl ?_ | refine go_pickF rfl ?_ | refine go_pick rfl (fun h => ?_) (fun h => ?_) | refine go_call [] (hb) rfl rfl rfl rfl ?_ | refine go_call [] (hd) rfl rfl rfl rfl ?_ | refine go_call [] (hF) rfl rfl rfl rfl ?_ | refine go_call [] (hF') rfl rfl rfl rfl ?_ | refine go_call [] (hC) rfl rfl rfl rfl ?_ | refine go_call [] (hn) rfl rfl rfl rfl ?_ | refine go_call [] (hN) rfl rfl rfl rfl ?_ | refine go_call [] (hN') rfl rfl rfl rfl ?_ | refine go_call [] (hR2) rfl rfl rfl rfl ?_ | refine go_call [] (hN2) rfl rfl rfl rfl ?_) <;> conv => whnf) | ((first | refine go_dsplit2 rfl (fun h => ?_) (fun h => ?_) | refine go_loadB ?_ | refine ⟨by kernel_rfl, ?_⟩ | refine go_ret ?_) <;> conv => whnf) | refine go_block ?_ | ((first | refine go_skip ?_ | refine go_exit ?_) <;> conv => whnf) | refine go_true rfl ?_ | refine go_false rfl ?_ | refine go_cond rfl (fun h => ?_) (fun h => ?_) | refine ⟨rfl, ?_⟩ | ((first | refine ⟨trivial, ?_⟩ | refine ⟨le_of_ble rfl, ?_⟩) <;> conv => whnf) | fail
      all_goals first
        | exact ret_imm rfl rfl rfl rfl rfl rfl
        | (refine ret_imm rfl rfl rfl rfl ?_ rfl; simp; done)
        | (refine ret_imm rfl rfl rfl rfl ?_ rfl; simp; omega)
        | (exfalso; simp at h; done)
        | trace_state
  | true =>
    obtain ⟨v1, v2, v3, v4, v5⟩ := fit_law hok
    rw [hok, v2] at hF hF'
    generalize ftC fro to days = C at *
    obtain ⟨_, _, q3, _, _⟩ := valid_facts v1
    have hCf : Cal.fit C := ⟨by omega, by omega⟩
    have hC := c8 C hCf
    have hK := c9 C hCf
    rw [v1, if_pos rfl, v4] at hK
    have hI := c10 C hCf
    rw [v1] at hI
    have hM := c12 C hCf v1
    rw [v3] at hM
    have hMl : (days.take 20).length ≤ days.length := by rw [List.length_take]; omega
    have hMd : days.take (days.take 20).length = days.take 20 := by
      rcases Nat.le_total days.length 20 with h | h
      · rw [List.take_of_length_le h, List.take_length]
      · rw [List.length_take, Nat.min_eq_left h]
    have hdl : (days.map intRow).length = days.length := List.length_map _
    repeat' first | refine go_seq ?_ | refine go_region ?_ | refine go_miss rfl rfl rfl ?_ | refine go_undef rfl rfl rfl ?_ | refine go_draw drawsOk ?_ | ((first | refine go_op rfl ?_ | refine go_nil ?_ | refine go_hit rfl rfl rfl ?_ | refine go_splitT rfl rfl rfl (fun h => ?_) (fun h => ?_) | refine go_splitF rfl rfl rfl (fun h => ?_) (fun h => ?_) | refine go_storeBox rfl rfl rfl rfl rfl rfl ?_ | refine go_dop rfl ?_ | refine go_dhit rfl rfl ?_ | refine go_dmiss rfl rfl ?_ | refine go_dundef rfl rfl ?_ | refine go_dend (by kernel_rfl) ?_ | refine go_pickT rfl ?_ | refine go_pickF rfl ?_ | refine go_pick rfl (fun h => ?_) (fun h => ?_) | refine go_call [] (hb) rfl rfl rfl rfl ?_ | refine go_call [] (hd) rfl rfl rfl rfl ?_ | refine go_call [] (hF) rfl rfl rfl rfl ?_ | refine go_call [] (hF') rfl rfl rfl rfl ?_ | refine go_call [] (hC) rfl rfl rfl rfl ?_ | refine go_call [] (hK) rfl rfl rfl rfl ?_ | refine go_call [] (hI) rfl rfl rfl rfl ?_) <;> conv => whnf) | ((first | refine go_dsplit2 rfl (fun h => ?_) (fun h => ?_) | refine go_loadB ?_ | refine ⟨by kernel_rfl, ?_⟩ | refine go_ret ?_) <;> conv => whnf) | refine go_block ?_ | ((first | refine go_skip ?_ | refine go_exit ?_) <;> conv => whnf) | refine go_true rfl ?_ | refine go_false rfl ?_ | refine go_cond rfl (fun h => ?_) (fun h => ?_) | refine ⟨rfl, ?_⟩ | ((first | refine ⟨trivial, ?_⟩ | refine ⟨le_of_ble rfl, ?_⟩) <;> conv => whnf) | fail
    all_goals try first
      | (exfalso; simp at h; done)
    clear hb hd hF hF' hC hK hI
    refine go_loop (α := Nat) (fun i => i ≤ days.length) (fun i => days.length - i)
      (fun i => st Try.f3.ntmps [(0, .imm (.list (xs.map byteRow))), (5, .imm (.list (days.map intRow))), (6, .box 1000 0), (12, .imm (.int .i64 (i : Nat)))] [(1000, .box 28 ((calE C).map .imm))] []) 0 (Nat.zero_le _) ?_ ?_
    · exact ref_st (fun _ => nid 4 6) rfl ⟨rfl, rfl, ⟨rfl, rfl⟩, rfl, trivial⟩ ⟨⟨rfl, wavs_imm _⟩, trivial⟩ (by simp) rfl (by simp)
    intro i hi
    cases hxi : days[i]? with
    | some d =>
      have hlt := lt_of_at hxi
      have hr := row_at intRow hxi
      obtain ⟨w1, w2⟩ := v5 d (List.mem_of_getElem? hxi)
      have hR := c11 C hCf d
      rw [v1, w1, w2] at hR
      repeat' first | refine go_seq ?_ | refine go_region ?_ | refine go_miss rfl rfl rfl ?_ | refine go_undef rfl rfl rfl ?_ | refine go_draw drawsOk ?_ | ((first | refine go_op rfl ?_ | refine go_nil ?_ | refine go_hit rfl rfl rfl ?_ | refine go_splitT rfl rfl rfl (fun h => ?_) (fun h => ?_) | refine go_splitF rfl rfl rfl (fun h => ?_) (fun h => ?_) | refine go_storeBox rfl rfl rfl rfl rfl rfl ?_ | refine go_dop rfl ?_ | refine go_dhit rfl rfl ?_ | refine go_dmiss rfl rfl ?_ | refine go_dundef rfl rfl ?_ | refine go_dend (by kernel_rfl) ?_ | refine go_pickT rfl ?_ | refine go_pickF rfl ?_ | refine go_pick rfl (fun h => ?_) (fun h => ?_) | refine go_call [] (hR) rfl rfl rfl rfl ?_ | refine go_idx rfl rfl rfl rfl (by omega) hr rfl ?_) <;> conv => whnf) | ((first | refine go_dsplit2 rfl (fun h => ?_) (fun h => ?_) | refine go_loadB ?_ | refine ⟨by kernel_rfl, ?_⟩ | refine go_ret ?_) <;> conv => whnf) | refine go_block ?_ | ((first | refine go_skip ?_ | refine go_exit ?_) <;> conv => whnf) | refine go_true rfl ?_ | refine go_false rfl ?_ | refine go_cond rfl (fun h => ?_) (fun h => ?_) | refine ⟨rfl, ?_⟩ | ((first | refine ⟨trivial, ?_⟩ | refine ⟨le_of_ble rfl, ?_⟩) <;> conv => whnf) | fail
      all_goals first
        | exact go_next (i + 1) (by omega) (by omega) (ref_st id rfl ⟨rfl, rfl, ⟨rfl, rfl⟩, next_i (by omega), trivial⟩ ⟨⟨rfl, wavs_imm _⟩, trivial⟩ (by simp) rfl (by simp))
        | (exfalso; simp at h; done)
        | (exfalso; simp only [decide_eq_true_eq, decide_eq_false_iff_not, hdl] at *; omega)
        | trace_state
    | none =>
      have hge := le_of_at hxi
      have hII : CallOk Try.prog 13 [.imm (.list ((((days.take 20).map intRow).drop 0).take ((days.take 20).map intRow).length)), .imm (.list ((days.map intRow).take (days.take 20).length))] { res := [.imm (.bool true)] } := by
        rw [int_view, ← List.map_take, hMd]
        exact c13 (days.take 20) (by omega)
      have hsl : ((days.take 20).map intRow).length = (days.take 20).length := List.length_map _
      have hkl : (days.take 20).length ≤ (days.map intRow).length := by omega
      have hone1 : ∀ r ∈ days.map intRow, r.length = 1 := fun r hr => by
        obtain ⟨v, _, rfl⟩ := List.mem_map.1 hr
        rfl
      have hkk : AV.imm (.int .i64 (((days.take 20).map intRow).length : Int)) = .imm (.int .i64 ((days.take 20).length : Nat)) := by rw [hsl]
      cases hnb : nxB x day with
      | false =>
        rw [hnb] at hN hN'
        generalize nxV x day = v at *
        repeat' first | refine go_seq ?_ | refine go_region ?_ | refine go_miss rfl rfl rfl ?_ | refine go_undef rfl rfl rfl ?_ | refine go_draw drawsOk ?_ | ((first | refine go_op rfl ?_ | refine go_nil ?_ | refine go_hit rfl rfl rfl ?_ | refine go_splitT rfl rfl rfl (fun h => ?_) (fun h => ?_) | refine go_splitF rfl rfl rfl (fun h => ?_) (fun h => ?_) | refine go_storeBox rfl rfl rfl rfl rfl rfl ?_ | refine go_dop rfl ?_ | refine go_dhit rfl rfl ?_ | refine go_dmiss rfl rfl ?_ | refine go_dundef rfl rfl ?_ | refine go_dend (by kernel_rfl) ?_ | refine go_pickT rfl ?_ | refine go_pickF rfl ?_ | refine go_pick rfl (fun h => ?_) (fun h => ?_) | refine go_call [] (hM) rfl rfl rfl rfl ?_ | refine go_call [] (hII) rfl rfl rfl rfl ?_ | refine go_call [] (hn) rfl rfl rfl rfl ?_ | refine go_call [] (hN) rfl rfl rfl rfl ?_ | refine go_call [] (hN') rfl rfl rfl rfl ?_ | refine go_sliceToI (k := (days.take 20).length) rfl rfl rfl hone1 hkk hkl ?_) <;> conv => whnf) | ((first | refine go_dsplit2 rfl (fun h => ?_) (fun h => ?_) | refine go_loadB ?_ | refine ⟨by kernel_rfl, ?_⟩ | refine go_ret ?_) <;> conv => whnf) | refine go_block ?_ | ((first | refine go_skip ?_ | refine go_exit ?_) <;> conv => whnf) | refine go_true rfl ?_ | refine go_false rfl ?_ | refine go_cond rfl (fun h => ?_) (fun h => ?_) | refine ⟨rfl, ?_⟩ | ((first | refine ⟨trivial, ?_⟩ | refine ⟨le_of_ble rfl, ?_⟩) <;> conv => whnf) | fail
        all_goals first
          | exact ret_imm rfl rfl rfl rfl rfl rfl
          | (refine ret_imm rfl rfl rfl rfl ?_ rfl; simp; done)
          | (exfalso; simp at h; done)
          | (exfalso; simp only [decide_eq_true_eq, decide_eq_false_iff_not, hdl, hsl] at *; omega)
          | trace_state
      | true =>
        obtain ⟨g1, g2, g3, g4, g5, g6⟩ := hlaw hnb
        rw [g1, g2, g3] at hR2
        rw [g4, g5] at hN2
        rw [hnb] at hN hN'
        clear hlaw
        generalize nxV x day = v at *
        repeat' first | refine go_seq ?_ | refine go_region ?_ | refine go_miss rfl rfl rfl ?_ | refine go_undef rfl rfl rfl ?_ | refine go_draw drawsOk ?_ | ((first | refine go_op rfl ?_ | refine go_nil ?_ | refine go_hit rfl rfl rfl ?_ | refine go_splitT rfl rfl rfl (fun h => ?_) (fun h => ?_) | refine go_splitF rfl rfl rfl (fun h => ?_) (fun h => ?_) | refine go_storeBox rfl rfl rfl rfl rfl rfl ?_ | refine go_dop rfl ?_ | refine go_dhit rfl rfl ?_ | refine go_dmiss rfl rfl ?_ | refine go_dundef rfl rfl ?_ | refine go_dend (by kernel_rfl) ?_ | refine go_pickT rfl ?_ | refine go_pickF rfl ?_ | refine go_pick rfl (fun h => ?_) (fun h => ?_) | refine go_call [] (hM) rfl rfl rfl rfl ?_ | refine go_call [] (hII) rfl rfl rfl rfl ?_ | refine go_call [] (hn) rfl rfl rfl rfl ?_ | refine go_call [] (hN) rfl rfl rfl rfl ?_ | refine go_call [] (hN') rfl rfl rfl rfl ?_ | refine go_call [] (hR2) rfl rfl rfl rfl ?_ | refine go_call [] (hN2) rfl rfl rfl rfl ?_ | refine go_sliceToI (k := (days.take 20).length) rfl rfl rfl hone1 hkk hkl ?_) <;> conv => whnf) | ((first | refine go_dsplit2 rfl (fun h => ?_) (fun h => ?_) | refine go_loadB ?_ | refine ⟨by kernel_rfl, ?_⟩ | refine go_ret ?_) <;> conv => whnf) | refine go_block ?_ | ((first | refine go_skip ?_ | refine go_exit ?_) <;> conv => whnf) | refine go_true rfl ?_ | refine go_false rfl ?_ | refine go_cond rfl (fun h => ?_) (fun h => ?_) | refine ⟨rfl, ?_⟩ | ((first | refine ⟨trivial, ?_⟩ | refine ⟨le_of_ble rfl, ?_⟩) <;> conv => whnf) | fail
        all_goals first
          | exact ret_imm rfl rfl rfl rfl rfl rfl
          | (refine ret_imm rfl rfl rfl rfl ?_ rfl; simp; done)
          | (refine ret_imm rfl rfl rfl rfl ?_ rfl; simp; omega)
          | (exfalso; simp at h; done)
          | (exfalso; simp only [decide_eq_true_eq, decide_eq_false_iff_not, hdl, hsl] at *; omega)
          | trace_state
end Go.Proofs.Ytlpdlfdafgoafaa

