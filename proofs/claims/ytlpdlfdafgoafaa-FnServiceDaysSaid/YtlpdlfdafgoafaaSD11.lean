/- Calendars: FitCalendar: the reference. -/
import Derived.Test.YtlpdlfdafgoafaaSD10
namespace Go.Proofs.Ytlpdlfdafgoafaa
open Go Go.Am Go.SD
set_option maxRecDepth 100000
set_option maxHeartbeats 8000000
attribute [local irreducible] amOps amC opCall opIndexAddr opPick retQ opMake opStore amDraw opAppend opLoad opNilCmp opIndex opSlice

theorem byw_emod {d : Int} (h : 0 ≤ d) : d.tmod 7 = d % 7 := Int.tmod_eq_emod_of_nonneg h
theorem c7 (fro to : Int) (days : List Int) (hl : days.length ≤ 1048576) : CallOk Try.prog 7 [.imm (.int .i64 fro), .imm (.int .i64 to), .imm (.list (days.map intRow))]
    { res := [.imm (.agg (calE (ftR fro to days))), .imm (.bool (ftB fro to days))], sep := false } := by
  refine callOk_of tyOk Try.func7 rfl rfl (le_of_ble rfl) (le_of_ble rfl) (mutOk_imm rfl _) ?_
  have h1 := c26 fro
  have h2 := c26 to
  have h3 := c28 days hl fro to
  have h6 := c27 (IntKind.i64.wrap (to - fro)) 0 200
  cases hV : ftV fro to days with
  | false =>
    have e1 : ftB fro to days = false := by unfold ftB; rw [hV]; rfl
    have e2 : ftR fro to days = calZ := by unfold ftR; rw [e1]; rfl
    rw [e1, e2]
    cases b1 : inR fro 0 3650 with
    | false =>
      rw [b1] at h1
      repeat' first | refine go_seq ?_ | refine go_region ?_ | refine go_miss rfl rfl rfl ?_ | refine go_undef rfl rfl rfl ?_ | ((first | refine go_op rfl ?_ | refine go_nil ?_ | refine go_hit rfl rfl rfl ?_ | refine go_splitT rfl rfl rfl (fun h => ?_) (fun h => ?_) | refine go_splitF rfl rfl rfl (fun h => ?_) (fun h => ?_) | refine go_storeBox rfl rfl rfl rfl rfl rfl ?_ | refine go_pickT rfl ?_ | refine go_pickF rfl ?_ | refine go_pick rfl (fun h => ?_) (fun h => ?_) | refine go_call [] (h1) rfl rfl rfl rfl ?_ | refine go_call [] (h2) rfl rfl rfl rfl ?_ | refine go_call [] (h3) rfl rfl rfl rfl ?_ | refine go_call [] (h6) rfl rfl rfl rfl ?_) <;> conv => whnf) | ((first | refine Or.inl ?_ | refine go_loadB ?_ | refine ⟨by kernel_rfl, ?_⟩ | refine go_ret ?_) <;> conv => whnf) | refine go_block ?_ | ((first | refine go_skip ?_ | refine go_exit ?_) <;> conv => whnf) | refine go_true rfl ?_ | refine go_false rfl ?_ | refine go_cond rfl (fun h => ?_) (fun h => ?_) | refine ⟨rfl, ?_⟩ | ((first | refine ⟨trivial, ?_⟩ | refine ⟨le_of_ble rfl, ?_⟩) <;> conv => whnf) | fail
      all_goals exact ret_all rfl ⟨⟨rfl, fun h => by cases h⟩, ⟨rfl, fun h => by cases h⟩, trivial⟩ List.nodup_nil List.nodup_nil trivial
    | true =>
      rw [b1] at h1
      cases b2 : inR to 0 3650 with
      | false =>
        rw [b2] at h2
        repeat' first | refine go_seq ?_ | refine go_region ?_ | refine go_miss rfl rfl rfl ?_ | refine go_undef rfl rfl rfl ?_ | ((first | refine go_op rfl ?_ | refine go_nil ?_ | refine go_hit rfl rfl rfl ?_ | refine go_splitT rfl rfl rfl (fun h => ?_) (fun h => ?_) | refine go_splitF rfl rfl rfl (fun h => ?_) (fun h => ?_) | refine go_storeBox rfl rfl rfl rfl rfl rfl ?_ | refine go_pickT rfl ?_ | refine go_pickF rfl ?_ | refine go_pick rfl (fun h => ?_) (fun h => ?_) | refine go_call [] (h1) rfl rfl rfl rfl ?_ | refine go_call [] (h2) rfl rfl rfl rfl ?_ | refine go_call [] (h3) rfl rfl rfl rfl ?_ | refine go_call [] (h6) rfl rfl rfl rfl ?_) <;> conv => whnf) | ((first | refine Or.inl ?_ | refine go_loadB ?_ | refine ⟨by kernel_rfl, ?_⟩ | refine go_ret ?_) <;> conv => whnf) | refine go_block ?_ | ((first | refine go_skip ?_ | refine go_exit ?_) <;> conv => whnf) | refine go_true rfl ?_ | refine go_false rfl ?_ | refine go_cond rfl (fun h => ?_) (fun h => ?_) | refine ⟨rfl, ?_⟩ | ((first | refine ⟨trivial, ?_⟩ | refine ⟨le_of_ble rfl, ?_⟩) <;> conv => whnf) | fail
        all_goals exact ret_all rfl ⟨⟨rfl, fun h => by cases h⟩, ⟨rfl, fun h => by cases h⟩, trivial⟩ List.nodup_nil List.nodup_nil trivial
      | true =>
        rw [b2] at h2
        have k1 : 0 ≤ fro ∧ fro ≤ 3650 := by simpa [inR] using b1
        have k2 : 0 ≤ to ∧ to ≤ 3650 := by simpa [inR] using b2
        have hw : IntKind.i64.wrap (to - fro) = to - fro := wrap_small (by omega) (by omega)
        cases b6 : inR (IntKind.i64.wrap (to - fro)) 0 200 with
        | false =>
          rw [b6] at h6
          repeat' first | refine go_seq ?_ | refine go_region ?_ | refine go_miss rfl rfl rfl ?_ | refine go_undef rfl rfl rfl ?_ | ((first | refine go_op rfl ?_ | refine go_nil ?_ | refine go_hit rfl rfl rfl ?_ | refine go_splitT rfl rfl rfl (fun h => ?_) (fun h => ?_) | refine go_splitF rfl rfl rfl (fun h => ?_) (fun h => ?_) | refine go_storeBox rfl rfl rfl rfl rfl rfl ?_ | refine go_pickT rfl ?_ | refine go_pickF rfl ?_ | refine go_pick rfl (fun h => ?_) (fun h => ?_) | refine go_call [] (h1) rfl rfl rfl rfl ?_ | refine go_call [] (h2) rfl rfl rfl rfl ?_ | refine go_call [] (h3) rfl rfl rfl rfl ?_ | refine go_call [] (h6) rfl rfl rfl rfl ?_) <;> conv => whnf) | ((first | refine Or.inl ?_ | refine go_loadB ?_ | refine ⟨by kernel_rfl, ?_⟩ | refine go_ret ?_) <;> conv => whnf) | refine go_block ?_ | ((first | refine go_skip ?_ | refine go_exit ?_) <;> conv => whnf) | refine go_true rfl ?_ | refine go_false rfl ?_ | refine go_cond rfl (fun h => ?_) (fun h => ?_) | refine ⟨rfl, ?_⟩ | ((first | refine ⟨trivial, ?_⟩ | refine ⟨le_of_ble rfl, ?_⟩) <;> conv => whnf) | fail
          all_goals exact ret_all rfl ⟨⟨rfl, fun h => by cases h⟩, ⟨rfl, fun h => by cases h⟩, trivial⟩ List.nodup_nil List.nodup_nil trivial
        | true =>
          rw [b6] at h6
          have b3 : ascI (fro - 1) days to = false := by
            rw [hw] at b6
            simp only [inR, Bool.and_eq_true, decide_eq_true_eq] at b6
            unfold ftV at hV
            rw [b1, b2, decide_eq_true (show fro ≤ to by omega), decide_eq_true b6.2] at hV
            exact hV
          rw [b3] at h3
          repeat' first | refine go_seq ?_ | refine go_region ?_ | refine go_miss rfl rfl rfl ?_ | refine go_undef rfl rfl rfl ?_ | ((first | refine go_op rfl ?_ | refine go_nil ?_ | refine go_hit rfl rfl rfl ?_ | refine go_splitT rfl rfl rfl (fun h => ?_) (fun h => ?_) | refine go_splitF rfl rfl rfl (fun h => ?_) (fun h => ?_) | refine go_storeBox rfl rfl rfl rfl rfl rfl ?_ | refine go_pickT rfl ?_ | refine go_pickF rfl ?_ | refine go_pick rfl (fun h => ?_) (fun h => ?_) | refine go_call [] (h1) rfl rfl rfl rfl ?_ | refine go_call [] (h2) rfl rfl rfl rfl ?_ | refine go_call [] (h3) rfl rfl rfl rfl ?_ | refine go_call [] (h6) rfl rfl rfl rfl ?_) <;> conv => whnf) | ((first | refine Or.inl ?_ | refine go_loadB ?_ | refine ⟨by kernel_rfl, ?_⟩ | refine go_ret ?_) <;> conv => whnf) | refine go_block ?_ | ((first | refine go_skip ?_ | refine go_exit ?_) <;> conv => whnf) | refine go_true rfl ?_ | refine go_false rfl ?_ | refine go_cond rfl (fun h => ?_) (fun h => ?_) | refine ⟨rfl, ?_⟩ | ((first | refine ⟨trivial, ?_⟩ | refine ⟨le_of_ble rfl, ?_⟩) <;> conv => whnf) | fail
          all_goals exact ret_all rfl ⟨⟨rfl, fun h => by cases h⟩, ⟨rfl, fun h => by cases h⟩, trivial⟩ List.nodup_nil List.nodup_nil trivial
  | true =>
  have hV' := hV
  simp only [ftV, inR, Bool.and_eq_true, decide_eq_true_eq] at hV'
  obtain ⟨k1, k2, k3, k4, k5⟩ := hV'
  have b1 : inR fro 0 3650 = true := by simp only [inR, Bool.and_eq_true, decide_eq_true_eq]; exact k1
  have b2 : inR to 0 3650 = true := by simp only [inR, Bool.and_eq_true, decide_eq_true_eq]; exact k2
  have hw : IntKind.i64.wrap (to - fro) = to - fro := wrap_small (by omega) (by omega)
  have b6 : inR (IntKind.i64.wrap (to - fro)) 0 200 = true := by rw [hw]; simp only [inR, Bool.and_eq_true, decide_eq_true_eq]; omega
  rw [b1] at h1
  rw [b2] at h2
  rw [k5] at h3
  rw [b6] at h6
  have hB : ftB fro to days = validC (ftC fro to days) := by unfold ftB; rw [hV]; rfl
  obtain ⟨n, hn⟩ : ∃ n, n = spanF fro to := ⟨_, rfl⟩
  have hnI : ((n : Nat) : Int) = to + 1 - fro := by rw [hn]; unfold spanF; omega
  repeat' first | refine go_seq ?_ | refine go_region ?_ | refine go_miss rfl rfl rfl ?_ | refine go_undef rfl rfl rfl ?_ | ((first | refine go_op rfl ?_ | refine go_nil ?_ | refine go_hit rfl rfl rfl ?_ | refine go_splitT rfl rfl rfl (fun h => ?_) (fun h => ?_) | refine go_splitF rfl rfl rfl (fun h => ?_) (fun h => ?_) | refine go_storeBox rfl rfl rfl rfl rfl rfl ?_ | refine go_pickT rfl ?_ | refine go_pickF rfl ?_ | refine go_pick rfl (fun h => ?_) (fun h => ?_) | refine go_call [] (h1) rfl rfl rfl rfl ?_ | refine go_call [] (h2) rfl rfl rfl rfl ?_ | refine go_call [] (h3) rfl rfl rfl rfl ?_ | refine go_call [] (h6) rfl rfl rfl rfl ?_ | refine Or.inr ?_) <;> conv => whnf) | ((first | refine Or.inl ?_ | refine go_loadB ?_ | refine ⟨by kernel_rfl, ?_⟩ | refine go_ret ?_) <;> conv => whnf) | refine go_block ?_ | ((first | refine go_skip ?_ | refine go_exit ?_) <;> conv => whnf) | refine go_true rfl ?_ | refine go_false rfl ?_ | refine go_cond rfl (fun h => ?_) (fun h => ?_) | refine ⟨rfl, ?_⟩ | ((first | refine ⟨trivial, ?_⟩ | refine ⟨le_of_ble rfl, ?_⟩) <;> conv => whnf) | fail
  clear h1 h2 h3 h6
  refine go_loop (α := Nat) (fun i => i ≤ 7) (fun i => 7 - i)
    (fun i => st Try.f7.ntmps [(0, .imm (.int .i64 fro)), (1, .imm (.int .i64 to)), (2, .imm (.list (days.map intRow))), (6, .box 1000 0), (8, .box 1003 0), (9, .imm (.int .i64 (i : Nat)))]
      [(1000, .box 28 ((calE calZ).map .imm)), (1001, .arr 3 1 []), (1002, .arr 3 1 []),
       (1003, .box 28 [.imm (.int .i64 fro), .imm (.int .i64 to), .imm (.int .i64 (wdN (mostW days fro n) i : Nat)), .own 1001 0 0, .own 1002 0 0])] []) 0 (Nat.zero_le _) ?_ ?_
  · exact ref_st (fun i => if i = 1003 then nid 3 8 else if i = 1001 then nid 3 39 else if i = 1002 then nid 3 40 else nid 1 6) rfl ⟨rfl, rfl, rfl, ⟨rfl, rfl⟩, ⟨rfl, rfl⟩, rfl, trivial⟩ ⟨⟨rfl, wavs_imm _⟩, rfl, rfl, ⟨rfl, rfl, rfl, rfl, ⟨rfl, rfl⟩, ⟨rfl, rfl⟩, trivial⟩, trivial⟩ (by simp [nid]) rfl (by simp)
  intro i hi
  by_cases hi7 : i = 7
  · subst hi7
    obtain ⟨wd, hwd⟩ : ∃ wd, wd = wdF days fro n := ⟨_, rfl⟩
    have hwd' : ((wdN (mostW days fro n) 7 : Nat) : Int) = wd := hwd.symm
    rw [hwd']
    have hwr := wdF_in days fro n
    rw [← hwd] at hwr
    repeat' first | refine go_seq ?_ | refine go_region ?_ | refine go_miss rfl rfl rfl ?_ | refine go_undef rfl rfl rfl ?_ | ((first | refine go_op rfl ?_ | refine go_nil ?_ | refine go_hit rfl rfl rfl ?_ | refine go_splitT rfl rfl rfl (fun h => ?_) (fun h => ?_) | refine go_splitF rfl rfl rfl (fun h => ?_) (fun h => ?_) | refine go_storeBox rfl rfl rfl rfl rfl rfl ?_ | refine go_pickT rfl ?_ | refine go_pickF rfl ?_ | refine go_pick rfl (fun h => ?_) (fun h => ?_)) <;> conv => whnf) | ((first | refine Or.inl ?_ | refine go_loadB ?_ | refine ⟨by kernel_rfl, ?_⟩ | refine go_ret ?_) <;> conv => whnf) | refine go_block ?_ | ((first | refine go_skip ?_ | refine go_exit ?_) <;> conv => whnf) | refine go_true rfl ?_ | refine go_false rfl ?_ | refine go_cond rfl (fun h => ?_) (fun h => ?_) | refine ⟨rfl, ?_⟩ | ((first | refine ⟨trivial, ?_⟩ | refine ⟨le_of_ble rfl, ?_⟩) <;> conv => whnf) | fail
    all_goals try first
      | (exfalso; simp only [decide_eq_true_eq, decide_eq_false_iff_not] at *; omega)
    refine go_loop (α := Nat) (fun q => q ≤ n) (fun q => n - q) (fun q => if q < n then ftOwn Try.f7.ntmps 8 fro to wd days q else ftFrz Try.f7.ntmps 8 fro to wd days q) 0 (Nat.zero_le _) (ft_F (.inl rfl) ?_) ?_
    · refine ref_st id rfl ⟨rfl, rfl, ⟨rfl, rfl⟩, ⟨rfl, rfl⟩, ?_, trivial⟩ ⟨⟨rfl, wavs_imm _⟩, rfl, rfl, ⟨rfl, rfl, rfl, rfl, ⟨rfl, rfl⟩, ⟨rfl, rfl⟩, trivial⟩, trivial⟩ (by simp) rfl (by simp)
      show AV.imm (.int .i64 fro) = .imm (.int .i64 (fro + ((0 : Nat) : Int)))
      rw [Int.natCast_zero, Int.add_zero]
    intro q hq
    by_cases hql : q = n
    · subst hql
      simp only [if_neg (Nat.lt_irrefl _)]
      unfold ftFrz
      have ha := adN_len days fro wd q
      have hr := rmN_len days fro wd q
      have hC := c31 ⟨fro, to, wd, adN days fro wd q, rmN days fro wd q⟩ ⟨by show (adN days fro wd q).length ≤ _; omega, by show (rmN days fro wd q).length ≤ _; omega⟩
      have hres : (⟨fro, to, wd, adN days fro wd q, rmN days fro wd q⟩ : Cal) = ftC fro to days := by rw [hwd, hn]; rfl
      unfold ftR
      rw [hB, ← hres]
      generalize (⟨fro, to, wd, adN days fro wd q, rmN days fro wd q⟩ : Cal) = C at hC ⊢
      cases hok : validC C with
      | true =>
        rw [hok] at hC
        rw [if_pos rfl]
        repeat' first | refine go_seq ?_ | refine go_region ?_ | refine go_miss rfl rfl rfl ?_ | refine go_undef rfl rfl rfl ?_ | ((first | refine go_op rfl ?_ | refine go_nil ?_ | refine go_hit rfl rfl rfl ?_ | refine go_splitT rfl rfl rfl (fun h => ?_) (fun h => ?_) | refine go_splitF rfl rfl rfl (fun h => ?_) (fun h => ?_) | refine go_storeBox rfl rfl rfl rfl rfl rfl ?_ | refine go_pickT rfl ?_ | refine go_pickF rfl ?_ | refine go_pick rfl (fun h => ?_) (fun h => ?_) | refine go_call [] (hC) rfl rfl rfl rfl ?_) <;> conv => whnf) | ((first | refine Or.inl ?_ | refine go_loadB ?_ | refine ⟨by kernel_rfl, ?_⟩ | refine go_ret ?_) <;> conv => whnf) | refine go_block ?_ | ((first | refine go_skip ?_ | refine go_exit ?_) <;> conv => whnf) | refine go_true rfl ?_ | refine go_false rfl ?_ | refine go_cond rfl (fun h => ?_) (fun h => ?_) | refine ⟨rfl, ?_⟩ | ((first | refine ⟨trivial, ?_⟩ | refine ⟨le_of_ble rfl, ?_⟩) <;> conv => whnf) | fail
        all_goals first
          | exact ret_all rfl ⟨⟨rfl, fun h => by cases h⟩, ⟨rfl, fun h => by cases h⟩, trivial⟩ List.nodup_nil List.nodup_nil trivial
          | (exfalso; simp only [decide_eq_true_eq, decide_eq_false_iff_not] at *; omega)
          | trace_state
      | false =>
        rw [hok] at hC
        rw [if_neg (by simp)]
        repeat' first | refine go_seq ?_ | refine go_region ?_ | refine go_miss rfl rfl rfl ?_ | refine go_undef rfl rfl rfl ?_ | ((first | refine go_op rfl ?_ | refine go_nil ?_ | refine go_hit rfl rfl rfl ?_ | refine go_splitT rfl rfl rfl (fun h => ?_) (fun h => ?_) | refine go_splitF rfl rfl rfl (fun h => ?_) (fun h => ?_) | refine go_storeBox rfl rfl rfl rfl rfl rfl ?_ | refine go_pickT rfl ?_ | refine go_pickF rfl ?_ | refine go_pick rfl (fun h => ?_) (fun h => ?_) | refine go_call [] (hC) rfl rfl rfl rfl ?_) <;> conv => whnf) | ((first | refine Or.inl ?_ | refine go_loadB ?_ | refine ⟨by kernel_rfl, ?_⟩ | refine go_ret ?_) <;> conv => whnf) | refine go_block ?_ | ((first | refine go_skip ?_ | refine go_exit ?_) <;> conv => whnf) | refine go_true rfl ?_ | refine go_false rfl ?_ | refine go_cond rfl (fun h => ?_) (fun h => ?_) | refine ⟨rfl, ?_⟩ | ((first | refine ⟨trivial, ?_⟩ | refine ⟨le_of_ble rfl, ?_⟩) <;> conv => whnf) | fail
        all_goals first
          | exact ret_all rfl ⟨⟨rfl, fun h => by cases h⟩, ⟨rfl, fun h => by cases h⟩, trivial⟩ List.nodup_nil List.nodup_nil trivial
          | (exfalso; simp only [decide_eq_true_eq, decide_eq_false_iff_not] at *; omega)
          | trace_state
    · have hql' : q < n := by omega
      simp only [if_pos hql']
      unfold ftOwn
      have ha := adN_len days fro wd q
      have hr := rmN_len days fro wd q
      have hA := adN_next days fro wd q
      have hR := rmN_next days fro wd q
      have hc := c29 days (fro + (q : Int)) hl
      have hb : CallOk Try.prog 30 [.imm (.agg [.int .i64 fro, .int .i64 to, .int .i64 wd, .list ((((adN days fro wd q).map intRow).drop 0).take ((adN days fro wd q).map intRow).length), .list ((((rmN days fro wd q).map intRow).drop 0).take ((rmN days fro wd q).map intRow).length)]), .imm (.int .i64 (fro + (q : Int)))] { res := [.imm (.bool (byW wd (fro + (q : Int))))] } := by
        rw [int_view, int_view]
        have h0 := c30 ⟨fro, to, wd, adN days fro wd q, rmN days fro wd q⟩ hwr k1.1 (fro + (q : Int))
        rw [show inR (fro + (q : Int)) fro to = true from by simp only [inR, Bool.and_eq_true, decide_eq_true_eq]; omega, Bool.true_and] at h0
        exact h0
      rw [has_contains] at hc
      have hone := int_one [fro + (q : Int)]
      have hbA : ((adN days fro wd q).map intRow).length + 1 ≤ 1073741824 := by rw [List.length_map]; omega
      have hbR : ((rmN days fro wd q).map intRow).length + 1 ≤ 1073741824 := by rw [List.length_map]; omega
      have hd1 : AV.imm (.int .i64 (IntKind.i64.wrap (fro + (q : Int) + 1))) = .imm (.int .i64 (fro + ((q + 1 : Nat) : Int))) := by
        rw [wrap_small (by omega) (by omega)]; congr 2; omega
      cases e1 : days.contains (fro + (q : Int)) <;> cases e2 : byW wd (fro + (q : Int))
      all_goals
        rw [e1] at hc
        rw [e2] at hb
        rw [e1, e2] at hA hR
        simp only [Bool.not_true, Bool.not_false, Bool.and_true, Bool.and_false, if_true, if_false, List.append_nil, Bool.false_eq_true] at hA hR
        repeat' first | refine go_seq ?_ | refine go_region ?_ | refine go_miss rfl rfl rfl ?_ | refine go_undef rfl rfl rfl ?_ | ((first | refine go_op rfl ?_ | refine go_nil ?_ | refine go_hit rfl rfl rfl ?_ | refine go_splitT rfl rfl rfl (fun h => ?_) (fun h => ?_) | refine go_splitF rfl rfl rfl (fun h => ?_) (fun h => ?_) | refine go_storeBox rfl rfl rfl rfl rfl rfl ?_ | refine go_pickT rfl ?_ | refine go_pickF rfl ?_ | refine go_pick rfl (fun h => ?_) (fun h => ?_) | refine go_call [] (hc) rfl rfl rfl rfl ?_ | refine go_call [] (hb) rfl rfl rfl rfl ?_ | refine go_append (rows2 := [fro + (q : Int)].map intRow) rfl rfl rfl rfl rfl rfl rfl rfl rfl rfl rfl rfl hone rfl rfl rfl hbA ?_ | refine go_append (rows2 := [fro + (q : Int)].map intRow) rfl rfl rfl rfl rfl rfl rfl rfl rfl rfl rfl rfl hone rfl rfl rfl hbR ?_) <;> conv => whnf) | ((first | refine Or.inl ?_ | refine go_loadB ?_ | refine ⟨by kernel_rfl, ?_⟩ | refine go_ret ?_) <;> conv => whnf) | refine go_block ?_ | ((first | refine go_skip ?_ | refine go_exit ?_) <;> conv => whnf) | refine go_true rfl ?_ | refine go_false rfl ?_ | refine go_cond rfl (fun h => ?_) (fun h => ?_) | refine ⟨rfl, ?_⟩ | ((first | refine ⟨trivial, ?_⟩ | refine ⟨le_of_ble rfl, ?_⟩) <;> conv => whnf) | fail
        all_goals first
          | (exfalso; simp only [decide_eq_true_eq, decide_eq_false_iff_not] at *; omega)
          | (refine go_next (q + 1) (by omega) (by omega) (ft_F (.inl rfl) (ref_st id rfl ⟨rfl, rfl, ⟨rfl, rfl⟩, ⟨rfl, rfl⟩, hd1, trivial⟩ ⟨⟨rfl, wavs_imm _⟩, ?_, ?_, ⟨rfl, rfl, rfl, rfl, ⟨?_, rfl⟩, ⟨?_, rfl⟩, trivial⟩, trivial⟩ (by simp) rfl (by simp)))
             · show some _ = some _
               rw [hA]; done
             · show some _ = some _
               rw [hR]; done
             · show AV.own _ _ _ = AV.own _ _ _
               rw [hA]; try rfl
             · show AV.own _ _ _ = AV.own _ _ _
               rw [hR]; try rfl
             done)
          | (refine go_next (q + 1) (by omega) (by omega) (ft_F (.inl rfl) (ref_st (fun i => if i = 1001 then nid 4 94 else i) rfl ⟨rfl, rfl, ⟨rfl, rfl⟩, ⟨rfl, rfl⟩, hd1, trivial⟩ ⟨⟨rfl, wavs_imm _⟩, ?_, ?_, ⟨rfl, rfl, rfl, rfl, ⟨?_, rfl⟩, ⟨?_, rfl⟩, trivial⟩, trivial⟩ (by simp [nid]) rfl (by simp)))
             · show some _ = some _
               rw [hA, List.map_append]; try rfl
             · show some _ = some _
               rw [hR]; try rfl
             · show AV.own _ _ _ = AV.own _ _ _
               rw [hA, List.map_append, List.length_append]; try rfl
             · show AV.own _ _ _ = AV.own _ _ _
               rw [hR]; try rfl
             done)
          | (refine go_next (q + 1) (by omega) (by omega) (ft_F (.inl rfl) (ref_st (fun i => if i = 1002 then nid 5 110 else i) rfl ⟨rfl, rfl, ⟨rfl, rfl⟩, ⟨rfl, rfl⟩, hd1, trivial⟩ ⟨⟨rfl, wavs_imm _⟩, ?_, ?_, ⟨rfl, rfl, rfl, rfl, ⟨?_, rfl⟩, ⟨?_, rfl⟩, trivial⟩, trivial⟩ (by simp [nid]) rfl (by simp)))
             · show some _ = some _
               rw [hA]; try rfl
             · show some _ = some _
               rw [hR, List.map_append]; try rfl
             · show AV.own _ _ _ = AV.own _ _ _
               rw [hA]; try rfl
             · show AV.own _ _ _ = AV.own _ _ _
               rw [hR, List.map_append, List.length_append]; try rfl
             done)
          | trace_state
  · have hi6 : i < 7 := by omega
    repeat' first | refine go_seq ?_ | refine go_region ?_ | refine go_miss rfl rfl rfl ?_ | refine go_undef rfl rfl rfl ?_ | ((first | refine go_op rfl ?_ | refine go_nil ?_ | refine go_hit rfl rfl rfl ?_ | refine go_splitT rfl rfl rfl (fun h => ?_) (fun h => ?_) | refine go_splitF rfl rfl rfl (fun h => ?_) (fun h => ?_) | refine go_storeBox rfl rfl rfl rfl rfl rfl ?_ | refine go_pickT rfl ?_ | refine go_pickF rfl ?_ | refine go_pick rfl (fun h => ?_) (fun h => ?_)) <;> conv => whnf) | ((first | refine Or.inl ?_ | refine go_loadB ?_ | refine ⟨by kernel_rfl, ?_⟩ | refine go_ret ?_) <;> conv => whnf) | refine go_block ?_ | ((first | refine go_skip ?_ | refine go_exit ?_) <;> conv => whnf) | refine go_true rfl ?_ | refine go_false rfl ?_ | refine go_cond rfl (fun h => ?_) (fun h => ?_) | refine ⟨rfl, ?_⟩ | ((first | refine ⟨trivial, ?_⟩ | refine ⟨le_of_ble rfl, ?_⟩) <;> conv => whnf) | fail
    all_goals try first
      | (exfalso; simp only [decide_eq_true_eq, decide_eq_false_iff_not] at *; omega)
    refine go_loop (α := Nat) (fun j => j ≤ n) (fun j => n - j)
      (fun j => st Try.f7.ntmps [(0, .imm (.int .i64 fro)), (1, .imm (.int .i64 to)), (2, .imm (.list (days.map intRow))), (6, .box 1000 0), (8, .box 1003 0), (9, .imm (.int .i64 (i : Nat))), (10, .imm (.int .i64 (gvN days fro i j : Nat))), (11, .imm (.int .i64 (gvN days fro i j + msN days fro i j : Nat))), (12, .imm (.int .i64 (fro + (j : Nat))))]
        [(1000, .box 28 ((calE calZ).map .imm)), (1001, .arr 3 1 []), (1002, .arr 3 1 []),
         (1003, .box 28 [.imm (.int .i64 fro), .imm (.int .i64 to), .imm (.int .i64 (wdN (mostW days fro n) i : Nat)), .own 1001 0 0, .own 1002 0 0])] []) 0 (Nat.zero_le _) ?_ ?_
    · refine ref_st id rfl ⟨rfl, rfl, rfl, ⟨rfl, rfl⟩, ⟨rfl, rfl⟩, rfl, rfl, rfl, ?_, trivial⟩ ⟨⟨rfl, wavs_imm _⟩, rfl, rfl, ⟨rfl, rfl, rfl, rfl, ⟨rfl, rfl⟩, ⟨rfl, rfl⟩, trivial⟩, trivial⟩ (by simp) rfl (by simp)
      show AV.imm (.int .i64 fro) = .imm (.int .i64 (fro + ((0 : Nat) : Int)))
      rw [Int.natCast_zero, Int.add_zero]
    intro j hj
    have hgl := gvN_le days fro i j
    have hml := msN_le days fro i j
    by_cases hlast : j = n
    · subst hlast
      have hu : IntKind.u64.wrap (i : Int) = (i : Int) := by rw [IntKind.wrap_u64]; omega
      have hw2 : IntKind.i64.wrap (2 * ((gvN days fro i j : Nat) : Int)) = 2 * (gvN days fro i j : Nat) := wrap_small (by omega) (by omega)
      repeat' first | refine go_seq ?_ | refine go_region ?_ | refine go_miss rfl rfl rfl ?_ | refine go_undef rfl rfl rfl ?_ | ((first | refine go_op rfl ?_ | refine go_nil ?_ | refine go_hit rfl rfl rfl ?_ | refine go_splitT rfl rfl rfl (fun h => ?_) (fun h => ?_) | refine go_splitF rfl rfl rfl (fun h => ?_) (fun h => ?_) | refine go_storeBox rfl rfl rfl rfl rfl rfl ?_ | refine go_pickT rfl ?_ | refine go_pickF rfl ?_ | refine go_pick rfl (fun h => ?_) (fun h => ?_) | refine ⟨by rw [hu]; exact Int.natCast_nonneg i, ?_⟩) <;> conv => whnf) | ((first | refine Or.inl ?_ | refine go_loadB ?_ | refine ⟨by kernel_rfl, ?_⟩ | refine go_ret ?_) <;> conv => whnf) | refine go_block ?_ | ((first | refine go_skip ?_ | refine go_exit ?_) <;> conv => whnf) | refine go_true rfl ?_ | refine go_false rfl ?_ | refine go_cond rfl (fun h => ?_) (fun h => ?_) | refine ⟨rfl, ?_⟩ | ((first | refine ⟨trivial, ?_⟩ | refine ⟨le_of_ble rfl, ?_⟩) <;> conv => whnf) | fail
      all_goals first
        | (exfalso; simp only [decide_eq_true_eq, decide_eq_false_iff_not] at *; omega)
        | (have hp : mostW days fro j i = true := by unfold mostW; have g := of_decide_eq_true h; rw [hw2] at g; exact decide_eq_true (by omega)
           refine go_next (i + 1) (by omega) (by omega) (ref_st id rfl ⟨rfl, rfl, rfl, ⟨rfl, rfl⟩, ⟨rfl, rfl⟩, next_i (by omega), trivial⟩ ⟨⟨rfl, wavs_imm _⟩, rfl, rfl, ⟨rfl, rfl, rfl, ?_, ⟨rfl, rfl⟩, ⟨rfl, rfl⟩, trivial⟩, trivial⟩ (by simp) rfl (by simp))
           show AV.imm (.int .i64 (bits BinOp.or IntKind.i64 ((wdN (mostW days fro j) i : Nat) : Int) (IntKind.i64.wrap (1 * 2 ^ (min (IntKind.u64.wrap (i : Int)).toNat IntKind.i64.bits))))) = AV.imm _
           rw [hu]
           exact congrArg (fun z => AV.imm (.int .i64 z)) (wdN_or hi6 hp))
        | (have hp : mostW days fro j i = false := by unfold mostW; have g := of_decide_eq_false h; rw [hw2] at g; exact decide_eq_false (by omega)
           refine go_next (i + 1) (by omega) (by omega) (ref_st id rfl ⟨rfl, rfl, rfl, ⟨rfl, rfl⟩, ⟨rfl, rfl⟩, next_i (by omega), trivial⟩ ⟨⟨rfl, wavs_imm _⟩, rfl, rfl, ⟨rfl, rfl, rfl, ?_, ⟨rfl, rfl⟩, ⟨rfl, rfl⟩, trivial⟩, trivial⟩ (by simp) rfl (by simp))
           show AV.imm _ = AV.imm _
           rw [wdN, if_neg (by rw [hp]; decide), Nat.add_zero])
        | trace_state
    · have hd1 : AV.imm (.int .i64 (IntKind.i64.wrap (fro + (j : Int) + 1))) = .imm (.int .i64 (fro + ((j + 1 : Nat) : Int))) := by
        rw [wrap_small (by omega) (by omega)]; congr 2; omega
      have hc := c29 days (fro + (j : Int)) hl
      rw [has_contains] at hc
      have hmod : (fro + (j : Int)).tmod 7 = (fro + (j : Int)) % 7 := byw_emod (by omega)
      have hg := gvN_next days fro i j
      have hm := msN_next days fro i j
      by_cases hk : (fro + (j : Int)) % 7 = (i : Int)
      · cases e : days.contains (fro + (j : Int)) with
        | true =>
          rw [e] at hc hg hm
          rw [if_pos ⟨hk, rfl⟩] at hg
          replace hm : msN days fro i (j + 1) = msN days fro i j := by rw [hm, if_neg (by simp)]; rfl
          repeat' first | refine go_seq ?_ | refine go_region ?_ | refine go_miss rfl rfl rfl ?_ | refine go_undef rfl rfl rfl ?_ | ((first | refine go_op rfl ?_ | refine go_nil ?_ | refine go_hit rfl rfl rfl ?_ | refine go_splitT rfl rfl rfl (fun h => ?_) (fun h => ?_) | refine go_splitF rfl rfl rfl (fun h => ?_) (fun h => ?_) | refine go_storeBox rfl rfl rfl rfl rfl rfl ?_ | refine go_pickT rfl ?_ | refine go_pickF rfl ?_ | refine go_pick rfl (fun h => ?_) (fun h => ?_) | refine go_call [] (hc) rfl rfl rfl rfl ?_ | refine ⟨seven_ne, ?_⟩) <;> conv => whnf) | ((first | refine Or.inl ?_ | refine go_loadB ?_ | refine ⟨by kernel_rfl, ?_⟩ | refine go_ret ?_) <;> conv => whnf) | refine go_block ?_ | ((first | refine go_skip ?_ | refine go_exit ?_) <;> conv => whnf) | refine go_true rfl ?_ | refine go_false rfl ?_ | refine go_cond rfl (fun h => ?_) (fun h => ?_) | refine ⟨rfl, ?_⟩ | ((first | refine ⟨trivial, ?_⟩ | refine ⟨le_of_ble rfl, ?_⟩) <;> conv => whnf) | fail
          all_goals first
            | (exfalso; simp only [decide_eq_true_eq, decide_eq_false_iff_not, Bool.not_eq_true', Bool.not_eq_false', hmod] at *; omega)
            | (refine go_next (j + 1) (by omega) (by omega) (ref_st id rfl ⟨rfl, rfl, rfl, ⟨rfl, rfl⟩, ⟨rfl, rfl⟩, rfl, ?_, ?_, hd1, trivial⟩ ⟨⟨rfl, wavs_imm _⟩, rfl, rfl, ⟨rfl, rfl, rfl, rfl, ⟨rfl, rfl⟩, ⟨rfl, rfl⟩, trivial⟩, trivial⟩ (by simp) rfl (by simp))
               · show AV.imm _ = AV.imm _
                 rw [hg, wrap_small (by omega) (by omega)]; rfl
               · show AV.imm _ = AV.imm _
                 rw [hg, hm, wrap_small (by omega) (by omega)]; congr 2 <;> omega)
            | trace_state
        | false =>
          rw [e] at hc hg hm
          rw [if_pos ⟨hk, rfl⟩] at hm
          replace hg : gvN days fro i (j + 1) = gvN days fro i j := by rw [hg, if_neg (by simp)]; rfl
          repeat' first | refine go_seq ?_ | refine go_region ?_ | refine go_miss rfl rfl rfl ?_ | refine go_undef rfl rfl rfl ?_ | ((first | refine go_op rfl ?_ | refine go_nil ?_ | refine go_hit rfl rfl rfl ?_ | refine go_splitT rfl rfl rfl (fun h => ?_) (fun h => ?_) | refine go_splitF rfl rfl rfl (fun h => ?_) (fun h => ?_) | refine go_storeBox rfl rfl rfl rfl rfl rfl ?_ | refine go_pickT rfl ?_ | refine go_pickF rfl ?_ | refine go_pick rfl (fun h => ?_) (fun h => ?_) | refine go_call [] (hc) rfl rfl rfl rfl ?_ | refine ⟨seven_ne, ?_⟩) <;> conv => whnf) | ((first | refine Or.inl ?_ | refine go_loadB ?_ | refine ⟨by kernel_rfl, ?_⟩ | refine go_ret ?_) <;> conv => whnf) | refine go_block ?_ | ((first | refine go_skip ?_ | refine go_exit ?_) <;> conv => whnf) | refine go_true rfl ?_ | refine go_false rfl ?_ | refine go_cond rfl (fun h => ?_) (fun h => ?_) | refine ⟨rfl, ?_⟩ | ((first | refine ⟨trivial, ?_⟩ | refine ⟨le_of_ble rfl, ?_⟩) <;> conv => whnf) | fail
          all_goals first
            | (exfalso; simp only [decide_eq_true_eq, decide_eq_false_iff_not, Bool.not_eq_true', Bool.not_eq_false', hmod] at *; omega)
            | (refine go_next (j + 1) (by omega) (by omega) (ref_st id rfl ⟨rfl, rfl, rfl, ⟨rfl, rfl⟩, ⟨rfl, rfl⟩, rfl, ?_, ?_, hd1, trivial⟩ ⟨⟨rfl, wavs_imm _⟩, rfl, rfl, ⟨rfl, rfl, rfl, rfl, ⟨rfl, rfl⟩, ⟨rfl, rfl⟩, trivial⟩, trivial⟩ (by simp) rfl (by simp))
               · show AV.imm _ = AV.imm _
                 rw [hg]
               · show AV.imm _ = AV.imm _
                 rw [hg, hm, wrap_small (by omega) (by omega)]; congr 2 <;> omega)
            | trace_state
      · replace hg : gvN days fro i (j + 1) = gvN days fro i j := by rw [hg, if_neg (by omega)]; rfl
        replace hm : msN days fro i (j + 1) = msN days fro i j := by rw [hm, if_neg (by omega)]; rfl
        repeat' first | refine go_seq ?_ | refine go_region ?_ | refine go_miss rfl rfl rfl ?_ | refine go_undef rfl rfl rfl ?_ | ((first | refine go_op rfl ?_ | refine go_nil ?_ | refine go_hit rfl rfl rfl ?_ | refine go_splitT rfl rfl rfl (fun h => ?_) (fun h => ?_) | refine go_splitF rfl rfl rfl (fun h => ?_) (fun h => ?_) | refine go_storeBox rfl rfl rfl rfl rfl rfl ?_ | refine go_pickT rfl ?_ | refine go_pickF rfl ?_ | refine go_pick rfl (fun h => ?_) (fun h => ?_) | refine go_call [] (hc) rfl rfl rfl rfl ?_ | refine ⟨seven_ne, ?_⟩) <;> conv => whnf) | ((first | refine Or.inl ?_ | refine go_loadB ?_ | refine ⟨by kernel_rfl, ?_⟩ | refine go_ret ?_) <;> conv => whnf) | refine go_block ?_ | ((first | refine go_skip ?_ | refine go_exit ?_) <;> conv => whnf) | refine go_true rfl ?_ | refine go_false rfl ?_ | refine go_cond rfl (fun h => ?_) (fun h => ?_) | refine ⟨rfl, ?_⟩ | ((first | refine ⟨trivial, ?_⟩ | refine ⟨le_of_ble rfl, ?_⟩) <;> conv => whnf) | fail
        all_goals first
          | (exfalso; simp only [decide_eq_true_eq, decide_eq_false_iff_not, Bool.not_eq_true', Bool.not_eq_false', hmod] at *; omega)
          | (refine go_next (j + 1) (by omega) (by omega) (ref_st id rfl ⟨rfl, rfl, rfl, ⟨rfl, rfl⟩, ⟨rfl, rfl⟩, rfl, ?_, ?_, hd1, trivial⟩ ⟨⟨rfl, wavs_imm _⟩, rfl, rfl, ⟨rfl, rfl, rfl, rfl, ⟨rfl, rfl⟩, ⟨rfl, rfl⟩, trivial⟩, trivial⟩ (by simp) rfl (by simp))
             · show AV.imm _ = AV.imm _
               rw [hg]
             · show AV.imm _ = AV.imm _
               rw [hg, hm])
          | trace_state
end Go.Proofs.Ytlpdlfdafgoafaa

