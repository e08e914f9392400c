/- FnLevels: the law walked. -/
import Derived.Test.YtmijabfckmgaiaaFL6
import Derived.Test.YtmijabfckmgaiaaFL7
import Derived.Test.YtmijabfckmgaiaaFL8
import Derived.Test.YtmijabfckmgaiaaFD2
namespace Go.Proofs.Ytmijabfckmgaiaa
open Go Go.Am
set_option maxRecDepth 100000
set_option maxHeartbeats 16000000
attribute [local irreducible] amOps amC opCall opIndexAddr opPick retQ opMake opStore amDraw opAppend opLoad opNilCmp opIndex opSlice

theorem c4 (xs : List Int) : CallOk Try.prog 4 [.imm (.list (xs.map byteRow))] { res := [.imm (.bool (decide (65536 < ((xs.map byteRow).length : Int))))] } := by
  refine callOk_of tyOk Try.func4 rfl rfl (le_of_ble rfl) (le_of_ble rfl) (mutOk_imm rfl _) ?_
  repeat' first | refine go_seq ?_ | refine go_region ?_ | ((first | refine go_op rfl ?_ | refine go_nil ?_) <;> conv => whnf) | ((first | refine ⟨by kernel_rfl, ?_⟩ | refine go_ret ?_) <;> conv => whnf) | ((first | refine go_skip ?_) <;> conv => whnf) | refine ⟨rfl, ?_⟩ | ((first | refine ⟨trivial, ?_⟩ | refine ⟨le_of_ble rfl, ?_⟩) <;> conv => whnf) | fail
  all_goals exact ret_imm rfl rfl rfl rfl rfl rfl
/-- A list of numbers is equal to itself. -/
theorem c8 (xs : List Int) (hl : xs.length ≤ 1048576) : CallOk Try.prog 8 [.imm (.list (xs.map intRow)), .imm (.list (xs.map intRow))] { res := [.imm (.bool true)] } := by
  refine callOk_of tyOk Try.func8 rfl rfl (le_of_ble rfl) (le_of_ble rfl) (mutOk_imm rfl _) ?_
  repeat' first | refine go_seq ?_ | refine go_region ?_ | refine go_draw drawsOk ?_ | ((first | refine go_op rfl ?_ | refine go_nil ?_ | refine go_dop rfl ?_ | refine go_dend (by kernel_rfl) ?_) <;> conv => whnf) | ((first | refine go_loadB ?_ | refine ⟨by kernel_rfl, ?_⟩ | refine go_ret ?_) <;> conv => whnf) | refine go_block ?_ | ((first | refine go_skip ?_ | refine go_exit ?_) <;> conv => whnf) | refine go_true rfl ?_ | refine go_false rfl ?_ | refine go_cond rfl (fun h => ?_) (fun h => ?_) | refine ⟨rfl, ?_⟩ | ((first | refine ⟨trivial, ?_⟩ | refine ⟨le_of_ble rfl, ?_⟩) <;> conv => whnf) | fail
  all_goals first
    | (exfalso; simp at h; done)
    | skip
  refine go_loop (α := Nat) (fun i => i ≤ xs.length) (fun i => xs.length - i) (fun i => st Try.f8.ntmps [(0, .imm (.list (xs.map intRow))), (1, .imm (.list (xs.map intRow))), (5, .imm (.int .i64 (i : Nat)))] [] []) 0
    (Nat.zero_le _) (ref_st0 rfl ⟨rfl, rfl, rfl, trivial⟩ rfl) ?_
  intro i hi
  cases hx : xs[i]? with
  | none =>
    have hge := le_of_at hx
    repeat' first | refine go_seq ?_ | refine go_region ?_ | refine go_draw drawsOk ?_ | ((first | refine go_op rfl ?_ | refine go_nil ?_ | refine go_dop rfl ?_ | refine go_dend (by kernel_rfl) ?_) <;> conv => whnf) | ((first | refine go_loadB ?_ | refine ⟨by kernel_rfl, ?_⟩ | refine go_ret ?_) <;> conv => whnf) | refine go_block ?_ | ((first | refine go_skip ?_ | refine go_exit ?_) <;> conv => whnf) | refine go_true rfl ?_ | refine go_false rfl ?_ | refine go_cond rfl (fun h => ?_) (fun h => ?_) | refine ⟨rfl, ?_⟩ | ((first | refine ⟨trivial, ?_⟩ | refine ⟨le_of_ble rfl, ?_⟩) <;> conv => whnf) | fail
    all_goals first
      | exact ret_imm rfl rfl rfl rfl rfl rfl
      | (exfalso; simp only [decide_eq_true_eq, List.length_map] at *; omega)
      | trace_state
  | some d =>
    have hlt := lt_of_at hx
    have hr := row_at intRow hx
    repeat' first | refine go_seq ?_ | refine go_region ?_ | refine go_draw drawsOk ?_ | ((first | refine go_op rfl ?_ | refine go_nil ?_ | refine go_dop rfl ?_ | refine go_dend (by kernel_rfl) ?_ | refine go_idx rfl rfl rfl rfl (by omega) hr rfl ?_) <;> conv => whnf) | ((first | refine go_loadB ?_ | refine ⟨by kernel_rfl, ?_⟩ | refine go_ret ?_) <;> conv => whnf) | refine go_block ?_ | ((first | refine go_skip ?_ | refine go_exit ?_) <;> conv => whnf) | refine go_true rfl ?_ | refine go_false rfl ?_ | refine go_cond rfl (fun h => ?_) (fun h => ?_) | refine ⟨rfl, ?_⟩ | ((first | refine ⟨trivial, ?_⟩ | refine ⟨le_of_ble rfl, ?_⟩) <;> conv => whnf) | fail
    all_goals first
      | exact go_next (i + 1) (by show i + 1 ≤ _; omega) (by show _ - (i + 1) < _ - i; omega) (ref_st0 rfl ⟨rfl, rfl, next_i (by omega), trivial⟩ rfl)
      | (exfalso; simp at h; done)
      | (exfalso; simp only [decide_eq_false_iff_not, List.length_map] at *; omega)
      | trace_state

/-- What the law asks of fewest minutes and of the range. -/
theorem tail_few {L : List Leg} {b : Bat} {lv : Int} {q : List Int} (h : fewP L b lv = some q) : lvOk L b lv q = true ∧ fstE b (afL L b lv q) = -1 ∧ q.length ≤ 12 := by
  unfold fewP at h
  split at h
  · rename_i hc
    obtain ⟨h1, h2⟩ := few_at _ _ _ (zero_ok (chg_at hc).1) h
    refine ⟨by unfold lvOk; rw [hc, h1]; rfl, h2, ?_⟩
    have := (pl_iff.1 h1).1
    have := (legs_at (chg_at hc).1).1
    omega
  · cases h

/-- The states behind the first half: what is still alive. -/
theorem c3 (xs : List Int) (hx : areB xs) : CallOk Try.prog 3 [.imm (.list (xs.map byteRow))] { res := [.imm (.bool true)] } := by
  refine callOk_of tyOk Try.func3 rfl rfl (le_of_ble rfl) (le_of_ble rfl) (mutOk_imm rfl _) ?_
  have hb := c4 xs
  cases hbig : decide (65536 < ((xs.map byteRow).length : Int)) with
  | true =>
    rw [hbig] at hb
    repeat' first | refine go_seq ?_ | refine go_region ?_ | refine go_miss rfl rfl rfl ?_ | refine go_undef rfl rfl rfl ?_ | refine go_draw drawsOk ?_ | ((first | refine go_op rfl ?_ | refine go_nil ?_ | refine go_hit rfl rfl rfl ?_ | refine go_splitT rfl rfl rfl (fun h => ?_) (fun h => ?_) | refine go_splitF rfl rfl rfl (fun h => ?_) (fun h => ?_) | refine go_storeBox rfl rfl rfl rfl rfl rfl ?_ | refine go_dop rfl ?_ | refine go_dhit rfl rfl ?_ | refine go_dmiss rfl rfl ?_ | refine go_dundef rfl rfl ?_ | refine go_dend (by kernel_rfl) ?_ | refine go_pickT rfl ?_ | refine go_pickF rfl ?_ | refine go_pick rfl (fun h => ?_) (fun h => ?_) | refine go_call [] (hb) rfl rfl rfl rfl ?_) <;> conv => whnf) | ((first | refine go_dsplit2 rfl (fun h => ?_) (fun h => ?_) | refine go_loadB ?_ | refine ⟨by kernel_rfl, ?_⟩ | refine go_ret ?_) <;> conv => whnf) | refine go_block ?_ | ((first | refine go_skip ?_ | refine go_exit ?_) <;> conv => whnf) | refine go_true rfl ?_ | refine go_false rfl ?_ | refine go_cond rfl (fun h => ?_) (fun h => ?_) | refine ⟨rfl, ?_⟩ | ((first | refine ⟨trivial, ?_⟩ | refine ⟨le_of_ble rfl, ?_⟩) <;> conv => whnf) | fail
    all_goals exact ret_imm rfl rfl rfl rfl rfl rfl
  | false =>
  rw [hbig] at hb
  obtain ⟨L, b, lv, p, hL, hp, hd⟩ := drawLevels xs hx
  obtain ⟨L2, b2, lv2, hL2, hd2⟩ := drawFewest xs hx
  obtain ⟨b3, lv3, per, hd3⟩ := drawRange xs hx
  have hA := c6 L (by omega) b lv p (by omega)
  have hA' := c7 L (by omega) b lv p (by omega)
  have hE := c9 L (by omega) b lv p (by omega)
  have hlvl : (lvL L b lv p).length ≤ 8 := by
    unfold lvL
    split
    · rw [afL_len]; exact hL
    · simp
  have hR := c8 (lvL L b lv p) (by omega)
  have hW := c13 L2 (by omega) b2 lv2
  have hW' := c14 L2 (by omega) b2 lv2
  have hG := c16 b3 lv3 per
  have hG' := c17 b3 lv3 per
  have hS : ∀ q, fewP L2 b2 lv2 = some q → lvOk L2 b2 lv2 q = true ∧ fstE b2 (afL L2 b2 lv2 q) = -1 ∧ q.length ≤ 12 := fun q h => tail_few h
  generalize rgV b3 lv3 per = gv at hG hG'
  generalize rgOk b3 lv3 per = gb at hG hG'
  have hq : ∀ q, fewP L2 b2 lv2 = some q → CallOk Try.prog 9 [.imm (.list (L2.map Leg.enc)), .imm (.agg (batE b2)), .imm (.int .i64 lv2), .imm (.list (q.map intRow))] { res := [.imm (.int .i64 (-1)), .imm (.bool true)] } := fun q h => by
    obtain ⟨s1, s2, s3⟩ := hS q h
    have := c9 L2 (by omega) b2 lv2 q (by omega)
    rw [s1, s2, if_pos rfl] at this
    exact this
  have hq0 := c8 [] (by simp)
  have hq1 : ∀ q, fewP L2 b2 lv2 = some q → CallOk Try.prog 8 [.imm (.list (q.map intRow)), .imm (.list (q.map intRow))] { res := [.imm (.bool true)] } := fun q h => c8 q (by have := (hS q h).2.2; omega)
  generalize chgOk L2 b2 lv2 = cb at hW hW'
  clear hS
  cases hlo : lvOk L b lv p with
  | false =>
    rw [hlo] at hA hA' hE
    cases hfe : fewP L2 b2 lv2 with
    | none =>
      rw [hfe] at hW hW'
      clear hq hq1
      cases gb <;> cases cb
      all_goals
        repeat' first | refine go_seq ?_ | refine go_region ?_ | refine go_miss rfl rfl rfl ?_ | refine go_undef rfl rfl rfl ?_ | refine go_draw drawsOk ?_ | ((first | refine go_op rfl ?_ | refine go_nil ?_ | refine go_hit rfl rfl rfl ?_ | refine go_splitT rfl rfl rfl (fun h => ?_) (fun h => ?_) | refine go_splitF rfl rfl rfl (fun h => ?_) (fun h => ?_) | refine go_storeBox rfl rfl rfl rfl rfl rfl ?_ | refine go_dop rfl ?_ | refine go_dhit rfl rfl ?_ | refine go_dmiss rfl rfl ?_ | refine go_dundef rfl rfl ?_ | refine go_dend (by kernel_rfl) ?_ | refine go_pickT rfl ?_ | refine go_pickF rfl ?_ | refine go_pick rfl (fun h => ?_) (fun h => ?_) | refine go_call [] (hb) rfl rfl rfl rfl ?_ | refine go_call [] (hd) rfl rfl rfl rfl ?_ | refine go_call [] (hd2) rfl rfl rfl rfl ?_ | refine go_call [] (hd3) rfl rfl rfl rfl ?_ | refine go_call [] (hA) rfl rfl rfl rfl ?_ | refine go_call [] (hA') rfl rfl rfl rfl ?_ | refine go_call [] (hE) rfl rfl rfl rfl ?_ | refine go_call [] (hR) rfl rfl rfl rfl ?_ | refine go_call [] (hW) rfl rfl rfl rfl ?_ | refine go_call [] (hW') rfl rfl rfl rfl ?_ | refine go_call [] (hG) rfl rfl rfl rfl ?_ | refine go_call [] (hG') rfl rfl rfl rfl ?_ | refine go_call [] (hq0) rfl rfl rfl rfl ?_) <;> conv => whnf) | ((first | refine go_dsplit2 rfl (fun h => ?_) (fun h => ?_) | refine go_loadB ?_ | refine ⟨by kernel_rfl, ?_⟩ | refine go_ret ?_) <;> conv => whnf) | refine go_block ?_ | ((first | refine go_skip ?_ | refine go_exit ?_) <;> conv => whnf) | refine go_true rfl ?_ | refine go_false rfl ?_ | refine go_cond rfl (fun h => ?_) (fun h => ?_) | refine ⟨rfl, ?_⟩ | ((first | refine ⟨trivial, ?_⟩ | refine ⟨le_of_ble rfl, ?_⟩) <;> conv => whnf) | fail
        all_goals first
          | exact ret_imm rfl rfl rfl rfl rfl rfl
          | (refine ret_imm rfl rfl rfl rfl ?_ rfl; simp; done)
          | (exfalso; simp at h; done)
          | trace_state
    | some q =>
      have hqa := hq q hfe
      have hqb := hq1 q hfe
      rw [hfe] at hW hW'
      clear hq hq1 hq0
      cases gb <;> cases cb
      all_goals
        repeat' first | refine go_seq ?_ | refine go_region ?_ | refine go_miss rfl rfl rfl ?_ | refine go_undef rfl rfl rfl ?_ | refine go_draw drawsOk ?_ | ((first | refine go_op rfl ?_ | refine go_nil ?_ | refine go_hit rfl rfl rfl ?_ | refine go_splitT rfl rfl rfl (fun h => ?_) (fun h => ?_) | refine go_splitF rfl rfl rfl (fun h => ?_) (fun h => ?_) | refine go_storeBox rfl rfl rfl rfl rfl rfl ?_ | refine go_dop rfl ?_ | refine go_dhit rfl rfl ?_ | refine go_dmiss rfl rfl ?_ | refine go_dundef rfl rfl ?_ | refine go_dend (by kernel_rfl) ?_ | refine go_pickT rfl ?_ | refine go_pickF rfl ?_ | refine go_pick rfl (fun h => ?_) (fun h => ?_) | refine go_call [] (hb) rfl rfl rfl rfl ?_ | refine go_call [] (hd) rfl rfl rfl rfl ?_ | refine go_call [] (hd2) rfl rfl rfl rfl ?_ | refine go_call [] (hd3) rfl rfl rfl rfl ?_ | refine go_call [] (hA) rfl rfl rfl rfl ?_ | refine go_call [] (hA') rfl rfl rfl rfl ?_ | refine go_call [] (hE) rfl rfl rfl rfl ?_ | refine go_call [] (hR) rfl rfl rfl rfl ?_ | refine go_call [] (hW) rfl rfl rfl rfl ?_ | refine go_call [] (hW') rfl rfl rfl rfl ?_ | refine go_call [] (hG) rfl rfl rfl rfl ?_ | refine go_call [] (hG') rfl rfl rfl rfl ?_ | refine go_call [] (hqa) rfl rfl rfl rfl ?_ | refine go_call [] (hqb) rfl rfl rfl rfl ?_) <;> conv => whnf) | ((first | refine go_dsplit2 rfl (fun h => ?_) (fun h => ?_) | refine go_loadB ?_ | refine ⟨by kernel_rfl, ?_⟩ | refine go_ret ?_) <;> conv => whnf) | refine go_block ?_ | ((first | refine go_skip ?_ | refine go_exit ?_) <;> conv => whnf) | refine go_true rfl ?_ | refine go_false rfl ?_ | refine go_cond rfl (fun h => ?_) (fun h => ?_) | refine ⟨rfl, ?_⟩ | ((first | refine ⟨trivial, ?_⟩ | refine ⟨le_of_ble rfl, ?_⟩) <;> conv => whnf) | fail
        all_goals first
          | exact ret_imm rfl rfl rfl rfl rfl rfl
          | (refine ret_imm rfl rfl rfl rfl ?_ rfl; simp; done)
          | (exfalso; simp at h; done)
          | trace_state
  | true =>
    have hlo' := hlo
    unfold lvOk at hlo'
    simp only [Bool.and_eq_true] at hlo'
    obtain ⟨hc, hpo⟩ := hlo'
    have hv := (chg_at hc).1
    have hao := alP_ok (b := b) (lv := lv) hv
    have hlo2 : lvOk L b lv (alP L b lv) = true := by unfold lvOk; rw [hc, hao]; rfl
    have hH := c10 L (by omega) b lv
    have hca : caL L b lv = alP L b lv := by unfold caL; rw [hc, if_pos rfl]
    rw [hca, hc] at hH
    have hAp := c6 L (by omega) b lv (alP L b lv) (by have := (pl_iff.1 hao).1; omega)
    have hla : lvL L b lv p = afL L b lv p := by unfold lvL; rw [hlo, if_pos rfl]
    have hlb : lvL L b lv (alP L b lv) = afL L b lv (alP L b lv) := by unfold lvL; rw [hlo2, if_pos rfl]
    rw [hlb, hlo2] at hAp
    rw [hla, hlo] at hA hA'
    rw [hla] at hR
    rw [hlo, if_pos rfl] at hE
    have hI := c11 L (by omega)
    rw [hv] at hI
    have hlen := afL_len L b lv p
    have hlen2 := afL_len L b lv (alP L b lv)
    have hn := (legs_at hv).1
    have hmost : ∀ i, i < L.length → afN L b lv p i ≤ afN L b lv (alP L b lv) i := fun i hi => af_most hc hpo hi
    have hat : ∀ i, i < L.length → (afL L b lv p)[i]? = some (afN L b lv p i) := fun i hi => afL_at hi
    have hat2 : ∀ i, i < L.length → (afL L b lv (alP L b lv))[i]? = some (afN L b lv (alP L b lv) i) := fun i hi => afL_at hi
    generalize afN L b lv (alP L b lv) = F2 at *
    generalize afN L b lv p = F1 at *
    generalize afL L b lv (alP L b lv) = A2 at *
    generalize afL L b lv p = A1 at *
    generalize alP L b lv = AP at *
    have hlm : ((A1.map intRow).length : Int) = L.length := by rw [List.length_map, hlen]
    have hwl : IntKind.i64.wrap (((A1.map intRow).length : Int) - 1) = (L.length : Int) - 1 := by rw [hlm]; exact wrap_small (by omega) (by omega)
    repeat' first | refine go_seq ?_ | refine go_region ?_ | refine go_miss rfl rfl rfl ?_ | refine go_undef rfl rfl rfl ?_ | refine go_draw drawsOk ?_ | ((first | refine go_op rfl ?_ | refine go_nil ?_ | refine go_hit rfl rfl rfl ?_ | refine go_splitT rfl rfl rfl (fun h => ?_) (fun h => ?_) | refine go_splitF rfl rfl rfl (fun h => ?_) (fun h => ?_) | refine go_storeBox rfl rfl rfl rfl rfl rfl ?_ | refine go_dop rfl ?_ | refine go_dhit rfl rfl ?_ | refine go_dmiss rfl rfl ?_ | refine go_dundef rfl rfl ?_ | refine go_dend (by kernel_rfl) ?_ | refine go_pickT rfl ?_ | refine go_pickF rfl ?_ | refine go_pick rfl (fun h => ?_) (fun h => ?_) | refine go_call [] (hb) rfl rfl rfl rfl ?_ | refine go_call [] (hd) rfl rfl rfl rfl ?_ | refine go_call [] (hA) rfl rfl rfl rfl ?_ | refine go_call [] (hA') rfl rfl rfl rfl ?_ | refine go_call [] (hE) rfl rfl rfl rfl ?_ | refine go_call [] (hR) rfl rfl rfl rfl ?_ | refine go_call [] (hH) rfl rfl rfl rfl ?_ | refine go_call [] (hAp) rfl rfl rfl rfl ?_ | refine go_call [] (hI) rfl rfl rfl rfl ?_) <;> conv => whnf) | ((first | refine go_dsplit2 rfl (fun h => ?_) (fun h => ?_) | refine go_loadB ?_ | refine ⟨by kernel_rfl, ?_⟩ | refine go_ret ?_) <;> conv => whnf) | refine go_block ?_ | ((first | refine go_skip ?_ | refine go_exit ?_) <;> conv => whnf) | refine go_true rfl ?_ | refine go_false rfl ?_ | refine go_cond rfl (fun h => ?_) (fun h => ?_) | refine ⟨rfl, ?_⟩ | ((first | refine ⟨trivial, ?_⟩ | refine ⟨le_of_ble rfl, ?_⟩) <;> conv => whnf) | fail
    all_goals try first
      | (exfalso; simp at h; done)
    clear hb hd hA hA' hE hR hH hAp hI
    refine go_loop (α := Nat) (fun j => j ≤ L.length) (fun j => L.length - j)
      (fun j => st Try.f3.ntmps [(0, .imm (.list (xs.map byteRow))), (4, .box 1000 0), (7, .imm (.list (A1.map intRow))), (11, .imm (.int .i64 (fstE b A1))), (15, .imm (.list (A2.map intRow))), (17, .imm (.int .i64 (fromE b A1 (L.length - j)))), (18, .imm (.int .i64 ((L.length : Int) - 1 - (j : Nat))))]
        [(1000, .box 26 ((batE b).map .imm))] []) 0 (Nat.zero_le _) ?_ ?_
    · refine ref_st (fun _ => nid 3 4) rfl ⟨rfl, ⟨rfl, rfl⟩, rfl, rfl, rfl, ?_, ?_, trivial⟩ ⟨⟨rfl, wavs_imm _⟩, trivial⟩ (by simp) rfl (by simp)
      · show AV.imm _ = AV.imm _
        rw [fromE_end b (by omega)]
      · show AV.imm _ = AV.imm _
        rw [hwl, Int.natCast_zero, Int.sub_zero]
    intro j hj
    have hdec : AV.imm (.int .i64 (IntKind.i64.wrap ((L.length : Int) - 1 - (j : Nat) - 1))) = .imm (.int .i64 ((L.length : Int) - 1 - ((j + 1 : Nat) : Int))) := by rw [wrap_small (by omega) (by omega)]; congr 2; omega
    by_cases hlast : j = L.length
    · subst hlast
      have hfin : fromE b A1 (L.length - L.length) = fstE b A1 := by rw [Nat.sub_self]; exact fromE_0 b A1
      rw [hfin]
      generalize fstE b A1 = e0 at *
      cases hfe : fewP L2 b2 lv2 with
      | none =>
        rw [hfe] at hW hW'
        clear hq hq1
        cases gb <;> cases cb
        all_goals
          repeat' first | refine go_seq ?_ | refine go_region ?_ | refine go_miss rfl rfl rfl ?_ | refine go_undef rfl rfl rfl ?_ | refine go_draw drawsOk ?_ | ((first | refine go_op rfl ?_ | refine go_nil ?_ | refine go_hit rfl rfl rfl ?_ | refine go_splitT rfl rfl rfl (fun h => ?_) (fun h => ?_) | refine go_splitF rfl rfl rfl (fun h => ?_) (fun h => ?_) | refine go_storeBox rfl rfl rfl rfl rfl rfl ?_ | refine go_dop rfl ?_ | refine go_dhit rfl rfl ?_ | refine go_dmiss rfl rfl ?_ | refine go_dundef rfl rfl ?_ | refine go_dend (by kernel_rfl) ?_ | refine go_pickT rfl ?_ | refine go_pickF rfl ?_ | refine go_pick rfl (fun h => ?_) (fun h => ?_) | refine go_call [] (hd2) rfl rfl rfl rfl ?_ | refine go_call [] (hd3) rfl rfl rfl rfl ?_ | refine go_call [] (hW) rfl rfl rfl rfl ?_ | refine go_call [] (hW') rfl rfl rfl rfl ?_ | refine go_call [] (hG) rfl rfl rfl rfl ?_ | refine go_call [] (hG') rfl rfl rfl rfl ?_ | refine go_call [] (hq0) rfl rfl rfl rfl ?_) <;> conv => whnf) | ((first | refine go_dsplit2 rfl (fun h => ?_) (fun h => ?_) | refine go_loadB ?_ | refine ⟨by kernel_rfl, ?_⟩ | refine go_ret ?_) <;> conv => whnf) | refine go_block ?_ | ((first | refine go_skip ?_ | refine go_exit ?_) <;> conv => whnf) | refine go_true rfl ?_ | refine go_false rfl ?_ | refine go_cond rfl (fun h => ?_) (fun h => ?_) | refine ⟨rfl, ?_⟩ | ((first | refine ⟨trivial, ?_⟩ | refine ⟨le_of_ble rfl, ?_⟩) <;> conv => whnf) | fail
          all_goals first
            | exact ret_imm rfl rfl rfl rfl rfl rfl
            | (refine ret_imm rfl rfl rfl rfl ?_ rfl; simp; done)
            | (exfalso; simp at h; done)
            | (exfalso; simp only [decide_eq_true_eq, decide_eq_false_iff_not] at *; omega)
            | trace_state
      | some q =>
        have hqa := hq q hfe
        have hqb := hq1 q hfe
        rw [hfe] at hW hW'
        clear hq hq1 hq0
        cases gb <;> cases cb
        all_goals
          repeat' first | refine go_seq ?_ | refine go_region ?_ | refine go_miss rfl rfl rfl ?_ | refine go_undef rfl rfl rfl ?_ | refine go_draw drawsOk ?_ | ((first | refine go_op rfl ?_ | refine go_nil ?_ | refine go_hit rfl rfl rfl ?_ | refine go_splitT rfl rfl rfl (fun h => ?_) (fun h => ?_) | refine go_splitF rfl rfl rfl (fun h => ?_) (fun h => ?_) | refine go_storeBox rfl rfl rfl rfl rfl rfl ?_ | refine go_dop rfl ?_ | refine go_dhit rfl rfl ?_ | refine go_dmiss rfl rfl ?_ | refine go_dundef rfl rfl ?_ | refine go_dend (by kernel_rfl) ?_ | refine go_pickT rfl ?_ | refine go_pickF rfl ?_ | refine go_pick rfl (fun h => ?_) (fun h => ?_) | refine go_call [] (hd2) rfl rfl rfl rfl ?_ | refine go_call [] (hd3) rfl rfl rfl rfl ?_ | refine go_call [] (hW) rfl rfl rfl rfl ?_ | refine go_call [] (hW') rfl rfl rfl rfl ?_ | refine go_call [] (hG) rfl rfl rfl rfl ?_ | refine go_call [] (hG') rfl rfl rfl rfl ?_ | refine go_call [] (hqa) rfl rfl rfl rfl ?_ | refine go_call [] (hqb) rfl rfl rfl rfl ?_) <;> conv => whnf) | ((first | refine go_dsplit2 rfl (fun h => ?_) (fun h => ?_) | refine go_loadB ?_ | refine ⟨by kernel_rfl, ?_⟩ | refine go_ret ?_) <;> conv => whnf) | refine go_block ?_ | ((first | refine go_skip ?_ | refine go_exit ?_) <;> conv => whnf) | refine go_true rfl ?_ | refine go_false rfl ?_ | refine go_cond rfl (fun h => ?_) (fun h => ?_) | refine ⟨rfl, ?_⟩ | ((first | refine ⟨trivial, ?_⟩ | refine ⟨le_of_ble rfl, ?_⟩) <;> conv => whnf) | fail
          all_goals first
            | exact ret_imm rfl rfl rfl rfl rfl rfl
            | (refine ret_imm rfl rfl rfl rfl ?_ rfl; simp; done)
            | (exfalso; simp at h; done)
            | (exfalso; simp only [decide_eq_true_eq, decide_eq_false_iff_not] at *; omega)
            | trace_state
    · obtain ⟨i, hi⟩ : ∃ i, i + 1 + j = L.length := ⟨L.length - j - 1, by omega⟩
      have hik : L.length - j = i + 1 := by omega
      have hik2 : L.length - (j + 1) = i := by omega
      have hii : (L.length : Int) - 1 - (j : Nat) = (i : Int) := by omega
      have hr1 := row_at intRow (hat i (by omega))
      have hr2 := row_at intRow (hat2 i (by omega))
      have hm := hmost i (by omega)
      have hst := fromE_step b (hat i (by omega))
      rw [hii] at hdec
      rw [hik, hii]
      clear hq hq1 hq0 hd2 hd3 hW hW' hG hG'
      generalize F1 i = v1 at *
      generalize F2 i = v2 at *
      by_cases hv1 : v1 < b.res
      · rw [if_pos hv1] at hst
        repeat' first | refine go_seq ?_ | refine go_region ?_ | refine go_miss rfl rfl rfl ?_ | refine go_undef rfl rfl rfl ?_ | refine go_draw drawsOk ?_ | ((first | refine go_op rfl ?_ | refine go_nil ?_ | refine go_hit rfl rfl rfl ?_ | refine go_splitT rfl rfl rfl (fun h => ?_) (fun h => ?_) | refine go_splitF rfl rfl rfl (fun h => ?_) (fun h => ?_) | refine go_storeBox rfl rfl rfl rfl rfl rfl ?_ | refine go_dop rfl ?_ | refine go_dhit rfl rfl ?_ | refine go_dmiss rfl rfl ?_ | refine go_dundef rfl rfl ?_ | refine go_dend (by kernel_rfl) ?_ | refine go_pickT rfl ?_ | refine go_pickF rfl ?_ | refine go_pick rfl (fun h => ?_) (fun h => ?_) | refine go_idx rfl rfl rfl rfl (by omega) hr1 rfl ?_ | refine go_idx rfl rfl rfl rfl (by omega) hr2 rfl ?_) <;> conv => whnf) | ((first | refine go_dsplit2 rfl (fun h => ?_) (fun h => ?_) | refine go_loadB ?_ | refine ⟨by kernel_rfl, ?_⟩ | refine go_ret ?_) <;> conv => whnf) | refine go_block ?_ | ((first | refine go_skip ?_ | refine go_exit ?_) <;> conv => whnf) | refine go_true rfl ?_ | refine go_false rfl ?_ | refine go_cond rfl (fun h => ?_) (fun h => ?_) | refine ⟨rfl, ?_⟩ | ((first | refine ⟨trivial, ?_⟩ | refine ⟨le_of_ble rfl, ?_⟩) <;> conv => whnf) | fail
        all_goals first
          | (exfalso; simp only [decide_eq_true_eq, decide_eq_false_iff_not] at *; omega)
          | (refine go_next (j + 1) (by omega) (by omega) (ref_st id rfl ⟨rfl, ⟨rfl, rfl⟩, rfl, rfl, rfl, ?_, hdec, trivial⟩ ⟨⟨rfl, wavs_imm _⟩, trivial⟩ (by simp) rfl (by simp))
             show AV.imm _ = AV.imm _
             rw [hik2, hst])
          | trace_state
      · rw [if_neg hv1] at hst
        repeat' first | refine go_seq ?_ | refine go_region ?_ | refine go_miss rfl rfl rfl ?_ | refine go_undef rfl rfl rfl ?_ | refine go_draw drawsOk ?_ | ((first | refine go_op rfl ?_ | refine go_nil ?_ | refine go_hit rfl rfl rfl ?_ | refine go_splitT rfl rfl rfl (fun h => ?_) (fun h => ?_) | refine go_splitF rfl rfl rfl (fun h => ?_) (fun h => ?_) | refine go_storeBox rfl rfl rfl rfl rfl rfl ?_ | refine go_dop rfl ?_ | refine go_dhit rfl rfl ?_ | refine go_dmiss rfl rfl ?_ | refine go_dundef rfl rfl ?_ | refine go_dend (by kernel_rfl) ?_ | refine go_pickT rfl ?_ | refine go_pickF rfl ?_ | refine go_pick rfl (fun h => ?_) (fun h => ?_) | refine go_idx rfl rfl rfl rfl (by omega) hr1 rfl ?_ | refine go_idx rfl rfl rfl rfl (by omega) hr2 rfl ?_) <;> conv => whnf) | ((first | refine go_dsplit2 rfl (fun h => ?_) (fun h => ?_) | refine go_loadB ?_ | refine ⟨by kernel_rfl, ?_⟩ | refine go_ret ?_) <;> conv => whnf) | refine go_block ?_ | ((first | refine go_skip ?_ | refine go_exit ?_) <;> conv => whnf) | refine go_true rfl ?_ | refine go_false rfl ?_ | refine go_cond rfl (fun h => ?_) (fun h => ?_) | refine ⟨rfl, ?_⟩ | ((first | refine ⟨trivial, ?_⟩ | refine ⟨le_of_ble rfl, ?_⟩) <;> conv => whnf) | fail
        all_goals first
          | (exfalso; simp only [decide_eq_true_eq, decide_eq_false_iff_not] at *; omega)
          | (refine go_next (j + 1) (by omega) (by omega) (ref_st id rfl ⟨rfl, ⟨rfl, rfl⟩, rfl, rfl, rfl, ?_, hdec, trivial⟩ ⟨⟨rfl, wavs_imm _⟩, trivial⟩ (by simp) rfl (by simp))
             show AV.imm _ = AV.imm _
             rw [hik2, hst])
          | trace_state
end Go.Proofs.Ytmijabfckmgaiaa

