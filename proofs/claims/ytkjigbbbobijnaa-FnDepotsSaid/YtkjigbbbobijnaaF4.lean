/- FnDepots: the law walked. -/
import Derived.Test.YtkjigbbbobijnaaF3
import Derived.Test.YtkjigbbbobijnaaE4
import Derived.Test.YtkjigbbbobijnaaE8
namespace Go.Proofs.Ytkjigbbbobijnaa
open Go Go.Am
set_option maxRecDepth 100000
set_option maxHeartbeats 8000000
attribute [local irreducible] amOps amC opCall opIndexAddr opPick retQ opMake opStore amDraw opAppend opLoad opNilCmp opIndex opSlice xQ

theorem fit_of_ok {d : Depot} (h : depOk d = true) : d.fit := by
  obtain ⟨h1, h2, h3, _, _⟩ := depOk_iff.1 h
  refine ⟨by omega, by omega, fun t ht => ?_⟩
  obtain ⟨i, hi, rfl⟩ := List.getElem_of_mem ht
  have hs : d.sizes[i]? = some d.sizes[i] := List.getElem?_eq_getElem (by omega)
  obtain ⟨a, b⟩ := szOk_at h3 hs
  have e : trk d.tracks i = d.tracks[i] := by unfold trk; rw [List.getD_eq_getElem?_getD, List.getElem?_eq_getElem hi]; rfl
  rw [e] at b
  omega
theorem none_fit : dNone.fit := ⟨by decide, by decide, fun t ht => by cases ht⟩
theorem take_fit {d : Depot} (hf : d.fit) (v : Int) : (opD (tkD d v)).fit := by
  obtain ⟨f1, f2, f3⟩ := hf
  unfold tkD
  split
  · unfold takeD
    cases h : plc d.tracks v with
    | none => exact none_fit
    | some x =>
      obtain ⟨i, k⟩ := x
      simp only
      obtain ⟨_, h2, _, h4⟩ := plcF_some h
      rw [Nat.sub_zero] at h2
      split
      · refine ⟨f1, by simpa [opD] using f2, fun t ht => ?_⟩
        rcases List.mem_or_eq_of_mem_set ht with ht | rfl
        · exact f3 t ht
        · have := f3 _ (List.mem_of_getElem? (trk_at h2))
          rw [List.length_take]; omega
      · exact none_fit
  · exact none_fit
theorem bk_len {d : Depot} (hf : d.fit) (v : Int) : (bkL d v).length ≤ 1048576 := by
  obtain ⟨f1, f2, f3⟩ := hf
  unfold bkL
  split
  · unfold blkL
    cases h : plc d.tracks v with
    | none => simp
    | some x =>
      obtain ⟨i, k⟩ := x
      simp only
      obtain ⟨_, h2, _, h4⟩ := plcF_some h
      rw [Nat.sub_zero] at h2
      have := f3 _ (List.mem_of_getElem? (trk_at h2))
      rw [List.length_reverse, List.length_drop]; omega
  · simp
theorem take_law' (d : Depot) (v : Int) : opB (tkD d v) = (bkT d v && decide ((bkL d v).length = 0)) := by
  unfold opB tkD bkT bkL
  cases h : depOk d with
  | false => rfl
  | true => simp only [if_true, Bool.true_and]; exact take_law d v

theorem c3 (xs : List Int) (hx : areB xs) : CallOk Try.prog 3 [.imm (.list (xs.map byteRow))] { res := [.imm (.bool true)] } := by
  refine callOk_of tyOk Try.func3 rfl rfl (le_of_ble rfl) (le_of_ble rfl) (mutOk_imm rfl _) ?_
  have hb := c4 xs
  cases hbig : decide (65536 < ((xs.map byteRow).length : Int)) with
  | true =>
    rw [hbig] at hb
    repeat' first | refine go_seq ?_ | refine go_region ?_ | refine go_miss rfl rfl rfl ?_ | refine go_undef rfl rfl rfl ?_ | ((first | refine go_op rfl ?_ | refine go_nil ?_ | refine go_hit rfl rfl rfl ?_ | refine go_splitT rfl rfl rfl (fun h => ?_) (fun h => ?_) | refine go_splitF rfl rfl rfl (fun h => ?_) (fun h => ?_) | refine go_storeBox rfl rfl rfl rfl rfl rfl ?_ | refine go_pickT rfl ?_ | refine go_pickF rfl ?_ | refine go_pick rfl (fun h => ?_) (fun h => ?_) | refine go_call [] (hb) rfl rfl rfl rfl ?_) <;> conv => whnf) | ((first | refine go_loadB ?_ | refine ⟨by kernel_rfl, ?_⟩ | refine go_ret ?_) <;> conv => whnf) | ((first | refine go_skip ?_) <;> conv => whnf) | refine go_true rfl ?_ | refine go_false rfl ?_ | refine go_cond rfl (fun h => ?_) (fun h => ?_) | refine ⟨rfl, ?_⟩ | ((first | refine ⟨trivial, ?_⟩ | refine ⟨le_of_ble rfl, ?_⟩) <;> conv => whnf) | fail
    all_goals exact ret_imm rfl rfl rfl rfl rfl rfl
  | false =>
  rw [hbig] at hb
  obtain ⟨d1, v1, t1, hf1, hD1⟩ := drawPark xs hx
  obtain ⟨d2, v2, hf2, hD2⟩ := drawTake xs hx
  have hP := c6 d1 hf1 v1 t1
  have hP' := c7 d1 hf1 v1 t1
  have hT := c9 d2 hf2 v2
  have hT' := c14 d2 hf2 v2
  have hB := c11 d2 hf2 v2
  have hB' := c15 d2 hf2 v2
  have hR2 := c8 _ (take_fit hf2 v2)
  have hI := c16 _ (bk_len hf2 v2)
  have hlaw := take_law' d2 v2
  generalize opD (tkD d2 v2) = q2 at *
  generalize opB (tkD d2 v2) = b2 at *
  generalize bkT d2 v2 = w2 at *
  generalize bkL d2 v2 = L2 at *
  have hl0 : ((L2.map intRow).length : Int) = 0 ↔ L2.length = 0 := by rw [List.length_map]; omega
  cases hpk : pkD d1 v1 t1 with
  | none =>
    rw [hpk] at hP hP'
    have hR1 := c8 dNone none_fit
    have hP : CallOk Try.prog 6 [.imm (.agg d1.enc), .imm (.int .i64 v1), .imm (.int .i64 t1)] { res := [.imm (.agg dNone.enc), .imm (.bool false)], sep := false } := hP
    have hP' : CallOk Try.prog 7 [.imm (.agg d1.enc), .imm (.int .i64 v1), .imm (.int .i64 t1)] { res := [.imm (.agg dNone.enc), .imm (.bool false)], sep := false } := hP'
    cases w2 with
    | false =>
      have hl : L2.length = L2.length := rfl
      have hb2 : b2 = false := by simpa using hlaw
      subst hb2
      clear hlaw
      repeat' first | refine go_seq ?_ | refine go_region ?_ | refine go_miss rfl rfl rfl ?_ | refine go_undef rfl rfl rfl ?_ | ((first | refine go_op rfl ?_ | refine go_nil ?_ | refine go_hit rfl rfl rfl ?_ | refine go_splitT rfl rfl rfl (fun h => ?_) (fun h => ?_) | refine go_splitF rfl rfl rfl (fun h => ?_) (fun h => ?_) | refine go_storeBox rfl rfl rfl rfl rfl rfl ?_ | refine go_pickT rfl ?_ | refine go_pickF rfl ?_ | refine go_pick rfl (fun h => ?_) (fun h => ?_) | refine go_call [] (hb) rfl rfl rfl rfl ?_ | refine go_call [] (hD1) rfl rfl rfl rfl ?_ | refine go_call [] (hP) rfl rfl rfl rfl ?_ | refine go_call [] (hP') rfl rfl rfl rfl ?_ | refine go_call [] (hR1) rfl rfl rfl rfl ?_ | refine go_call [] (hD2) rfl rfl rfl rfl ?_ | refine go_call [] (hT) rfl rfl rfl rfl ?_ | refine go_call [] (hT') rfl rfl rfl rfl ?_ | refine go_call [] (hR2) rfl rfl rfl rfl ?_ | refine go_call [] (hB) rfl rfl rfl rfl ?_ | refine go_call [] (hB') rfl rfl rfl rfl ?_ | refine go_call [] (hI) rfl rfl rfl rfl ?_) <;> conv => whnf) | ((first | refine go_loadB ?_ | refine ⟨by kernel_rfl, ?_⟩ | refine go_ret ?_) <;> conv => whnf) | ((first | refine go_skip ?_) <;> conv => whnf) | refine go_true rfl ?_ | refine go_false rfl ?_ | refine go_cond rfl (fun h => ?_) (fun h => ?_) | refine ⟨rfl, ?_⟩ | ((first | refine ⟨trivial, ?_⟩ | refine ⟨le_of_ble rfl, ?_⟩) <;> conv => whnf) | fail
      all_goals first
        | exact ret_imm rfl rfl rfl rfl rfl rfl
        | (refine ret_imm rfl rfl rfl rfl ?_ rfl; simp; done)
        | (refine ret_imm rfl rfl rfl rfl ?_ rfl; have hl2 := hl; rw [List.length_eq_zero_iff] at hl2; simp [hl2]; done)
        | (exfalso; simp at h; done)
        | (exfalso; simp at h; omega)
        | trace_state
    | true =>
      by_cases hl : L2.length = 0
      · have hb2 : b2 = true := by simpa [hl] using hlaw
        have hlz := hl0.2 hl
        subst hb2
        clear hlaw
        repeat' first | refine go_seq ?_ | refine go_region ?_ | refine go_miss rfl rfl rfl ?_ | refine go_undef rfl rfl rfl ?_ | ((first | refine go_op rfl ?_ | refine go_nil ?_ | refine go_hit rfl rfl rfl ?_ | refine go_splitT rfl rfl rfl (fun h => ?_) (fun h => ?_) | refine go_splitF rfl rfl rfl (fun h => ?_) (fun h => ?_) | refine go_storeBox rfl rfl rfl rfl rfl rfl ?_ | refine go_pickT rfl ?_ | refine go_pickF rfl ?_ | refine go_pick rfl (fun h => ?_) (fun h => ?_) | refine go_call [] (hb) rfl rfl rfl rfl ?_ | refine go_call [] (hD1) rfl rfl rfl rfl ?_ | refine go_call [] (hP) rfl rfl rfl rfl ?_ | refine go_call [] (hP') rfl rfl rfl rfl ?_ | refine go_call [] (hR1) rfl rfl rfl rfl ?_ | refine go_call [] (hD2) rfl rfl rfl rfl ?_ | refine go_call [] (hT) rfl rfl rfl rfl ?_ | refine go_call [] (hT') rfl rfl rfl rfl ?_ | refine go_call [] (hR2) rfl rfl rfl rfl ?_ | refine go_call [] (hB) rfl rfl rfl rfl ?_ | refine go_call [] (hB') rfl rfl rfl rfl ?_ | refine go_call [] (hI) rfl rfl rfl rfl ?_) <;> conv => whnf) | ((first | refine go_loadB ?_ | refine ⟨by kernel_rfl, ?_⟩ | refine go_ret ?_) <;> conv => whnf) | ((first | refine go_skip ?_) <;> conv => whnf) | refine go_true rfl ?_ | refine go_false rfl ?_ | refine go_cond rfl (fun h => ?_) (fun h => ?_) | refine ⟨rfl, ?_⟩ | ((first | refine ⟨trivial, ?_⟩ | refine ⟨le_of_ble rfl, ?_⟩) <;> conv => whnf) | fail
        all_goals first
          | exact ret_imm rfl rfl rfl rfl rfl rfl
          | (refine ret_imm rfl rfl rfl rfl ?_ rfl; simp; done)
          | (refine ret_imm rfl rfl rfl rfl ?_ rfl; have hl2 := hl; rw [List.length_eq_zero_iff] at hl2; simp [hl2]; done)
          | (exfalso; simp at h; done)
          | (exfalso; simp at h; omega)
          | trace_state
      · have hb2 : b2 = false := by simpa [hl] using hlaw
        have hlz : ((L2.map intRow).length : Int) ≠ 0 := fun e => hl (hl0.1 e)
        subst hb2
        clear hlaw
        repeat' first | refine go_seq ?_ | refine go_region ?_ | refine go_miss rfl rfl rfl ?_ | refine go_undef rfl rfl rfl ?_ | ((first | refine go_op rfl ?_ | refine go_nil ?_ | refine go_hit rfl rfl rfl ?_ | refine go_splitT rfl rfl rfl (fun h => ?_) (fun h => ?_) | refine go_splitF rfl rfl rfl (fun h => ?_) (fun h => ?_) | refine go_storeBox rfl rfl rfl rfl rfl rfl ?_ | refine go_pickT rfl ?_ | refine go_pickF rfl ?_ | refine go_pick rfl (fun h => ?_) (fun h => ?_) | refine go_call [] (hb) rfl rfl rfl rfl ?_ | refine go_call [] (hD1) rfl rfl rfl rfl ?_ | refine go_call [] (hP) rfl rfl rfl rfl ?_ | refine go_call [] (hP') rfl rfl rfl rfl ?_ | refine go_call [] (hR1) rfl rfl rfl rfl ?_ | refine go_call [] (hD2) rfl rfl rfl rfl ?_ | refine go_call [] (hT) rfl rfl rfl rfl ?_ | refine go_call [] (hT') rfl rfl rfl rfl ?_ | refine go_call [] (hR2) rfl rfl rfl rfl ?_ | refine go_call [] (hB) rfl rfl rfl rfl ?_ | refine go_call [] (hB') rfl rfl rfl rfl ?_ | refine go_call [] (hI) rfl rfl rfl rfl ?_) <;> conv => whnf) | ((first | refine go_loadB ?_ | refine ⟨by kernel_rfl, ?_⟩ | refine go_ret ?_) <;> conv => whnf) | ((first | refine go_skip ?_) <;> conv => whnf) | refine go_true rfl ?_ | refine go_false rfl ?_ | refine go_cond rfl (fun h => ?_) (fun h => ?_) | refine ⟨rfl, ?_⟩ | ((first | refine ⟨trivial, ?_⟩ | refine ⟨le_of_ble rfl, ?_⟩) <;> conv => whnf) | fail
        all_goals first
          | exact ret_imm rfl rfl rfl rfl rfl rfl
          | (refine ret_imm rfl rfl rfl rfl ?_ rfl; simp; done)
          | (refine ret_imm rfl rfl rfl rfl ?_ rfl; have hl2 := hl; rw [List.length_eq_zero_iff] at hl2; simp [hl2]; done)
          | (exfalso; simp at h; done)
          | (exfalso; simp at h; omega)
          | trace_state
  | some p =>
    rw [hpk] at hP hP'
    unfold pkD at hpk
    have hd1 : depOk d1 = true := by
      cases hd : depOk d1 with
      | true => rfl
      | false => rw [hd] at hpk; cases hpk
    rw [hd1, if_pos rfl] at hpk
    obtain ⟨hok, hback, hfree, hblk, hbl⟩ := park_law hd1 hpk
    have hfp := fit_of_ok hok
    have hR1 := c8 p hfp
    have hRd := c8 d1 hf1
    have hVp := c12 p hfp
    rw [hok] at hVp
    have hTp := c9 p hfp v1
    have eT : tkD p v1 = some d1 := by unfold tkD; rw [hok, if_pos rfl, hback]
    rw [eT] at hTp
    have hBp := c11 p hfp v1
    have eB : bkT p v1 = true := by unfold bkT; rw [hok]; simpa [Option.isSome_iff_ne_none] using hblk
    have eL : bkL p v1 = [] := by unfold bkL; rw [hok, if_pos rfl, hbl]
    rw [eB, eL] at hBp
    have hFd := c10 d1 hf1
    have hFp := c10 p hfp
    rw [hd1] at hFd
    rw [hok] at hFp
    have hfr : frOf d1 = IntKind.i64.wrap (frOf p + 1) := by
      obtain ⟨g1, _, g3, _, _⟩ := depOk_iff.1 hok
      have := freeL_bd g3
      unfold frOf
      rw [hd1, hok, if_pos rfl, if_pos rfl, hfree, wrap_small (by omega) (by omega)]
    generalize frOf d1 = F1 at *
    generalize frOf p = F2 at *
    subst hfr
    have hP : CallOk Try.prog 6 [.imm (.agg d1.enc), .imm (.int .i64 v1), .imm (.int .i64 t1)] { res := [.imm (.agg p.enc), .imm (.bool true)], sep := false } := hP
    have hP' : CallOk Try.prog 7 [.imm (.agg d1.enc), .imm (.int .i64 v1), .imm (.int .i64 t1)] { res := [.imm (.agg p.enc), .imm (.bool true)], sep := false } := hP'
    have hTp : CallOk Try.prog 9 [.imm (.agg p.enc), .imm (.int .i64 v1)] { res := [.imm (.agg d1.enc), .imm (.bool true)], sep := false } := hTp
    have hBp : CallOk Try.prog 11 [.imm (.agg p.enc), .imm (.int .i64 v1)] { res := [.imm (.list []), .imm (.bool true)], sep := false } := hBp
    cases w2 with
    | false =>
      have hl : L2.length = L2.length := rfl
      have hb2 : b2 = false := by simpa using hlaw
      subst hb2
      clear hlaw
      repeat' first | refine go_seq ?_ | refine go_region ?_ | refine go_miss rfl rfl rfl ?_ | refine go_undef rfl rfl rfl ?_ | ((first | refine go_op rfl ?_ | refine go_nil ?_ | refine go_hit rfl rfl rfl ?_ | refine go_splitT rfl rfl rfl (fun h => ?_) (fun h => ?_) | refine go_splitF rfl rfl rfl (fun h => ?_) (fun h => ?_) | refine go_storeBox rfl rfl rfl rfl rfl rfl ?_ | refine go_pickT rfl ?_ | refine go_pickF rfl ?_ | refine go_pick rfl (fun h => ?_) (fun h => ?_) | refine go_call [] (hb) rfl rfl rfl rfl ?_ | refine go_call [] (hD1) rfl rfl rfl rfl ?_ | refine go_call [] (hP) rfl rfl rfl rfl ?_ | refine go_call [] (hP') rfl rfl rfl rfl ?_ | refine go_call [] (hR1) rfl rfl rfl rfl ?_ | refine go_call [] (hTp) rfl rfl rfl rfl ?_ | refine go_call [] (hFd) rfl rfl rfl rfl ?_ | refine go_call [] (hFp) rfl rfl rfl rfl ?_ | refine go_call [] (hBp) rfl rfl rfl rfl ?_ | refine go_call [] (hRd) rfl rfl rfl rfl ?_ | refine go_call [] (hVp) rfl rfl rfl rfl ?_ | refine go_call [] (hD2) rfl rfl rfl rfl ?_ | refine go_call [] (hT) rfl rfl rfl rfl ?_ | refine go_call [] (hT') rfl rfl rfl rfl ?_ | refine go_call [] (hR2) rfl rfl rfl rfl ?_ | refine go_call [] (hB) rfl rfl rfl rfl ?_ | refine go_call [] (hB') rfl rfl rfl rfl ?_ | refine go_call [] (hI) rfl rfl rfl rfl ?_) <;> conv => whnf) | ((first | refine go_loadB ?_ | refine ⟨by kernel_rfl, ?_⟩ | refine go_ret ?_) <;> conv => whnf) | ((first | refine go_skip ?_) <;> conv => whnf) | refine go_true rfl ?_ | refine go_false rfl ?_ | refine go_cond rfl (fun h => ?_) (fun h => ?_) | refine ⟨rfl, ?_⟩ | ((first | refine ⟨trivial, ?_⟩ | refine ⟨le_of_ble rfl, ?_⟩) <;> conv => whnf) | fail
      all_goals first
        | exact ret_imm rfl rfl rfl rfl rfl rfl
        | (refine ret_imm rfl rfl rfl rfl ?_ rfl; simp; done)
        | (refine ret_imm rfl rfl rfl rfl ?_ rfl; have hl2 := hl; rw [List.length_eq_zero_iff] at hl2; simp [hl2]; done)
        | (exfalso; simp at h; done)
        | (exfalso; simp at h; omega)
        | trace_state
    | true =>
      by_cases hl : L2.length = 0
      · have hb2 : b2 = true := by simpa [hl] using hlaw
        have hlz := hl0.2 hl
        subst hb2
        clear hlaw
        repeat' first | refine go_seq ?_ | refine go_region ?_ | refine go_miss rfl rfl rfl ?_ | refine go_undef rfl rfl rfl ?_ | ((first | refine go_op rfl ?_ | refine go_nil ?_ | refine go_hit rfl rfl rfl ?_ | refine go_splitT rfl rfl rfl (fun h => ?_) (fun h => ?_) | refine go_splitF rfl rfl rfl (fun h => ?_) (fun h => ?_) | refine go_storeBox rfl rfl rfl rfl rfl rfl ?_ | refine go_pickT rfl ?_ | refine go_pickF rfl ?_ | refine go_pick rfl (fun h => ?_) (fun h => ?_) | refine go_call [] (hb) rfl rfl rfl rfl ?_ | refine go_call [] (hD1) rfl rfl rfl rfl ?_ | refine go_call [] (hP) rfl rfl rfl rfl ?_ | refine go_call [] (hP') rfl rfl rfl rfl ?_ | refine go_call [] (hR1) rfl rfl rfl rfl ?_ | refine go_call [] (hTp) rfl rfl rfl rfl ?_ | refine go_call [] (hFd) rfl rfl rfl rfl ?_ | refine go_call [] (hFp) rfl rfl rfl rfl ?_ | refine go_call [] (hBp) rfl rfl rfl rfl ?_ | refine go_call [] (hRd) rfl rfl rfl rfl ?_ | refine go_call [] (hVp) rfl rfl rfl rfl ?_ | refine go_call [] (hD2) rfl rfl rfl rfl ?_ | refine go_call [] (hT) rfl rfl rfl rfl ?_ | refine go_call [] (hT') rfl rfl rfl rfl ?_ | refine go_call [] (hR2) rfl rfl rfl rfl ?_ | refine go_call [] (hB) rfl rfl rfl rfl ?_ | refine go_call [] (hB') rfl rfl rfl rfl ?_ | refine go_call [] (hI) rfl rfl rfl rfl ?_) <;> conv => whnf) | ((first | refine go_loadB ?_ | refine ⟨by kernel_rfl, ?_⟩ | refine go_ret ?_) <;> conv => whnf) | ((first | refine go_skip ?_) <;> conv => whnf) | refine go_true rfl ?_ | refine go_false rfl ?_ | refine go_cond rfl (fun h => ?_) (fun h => ?_) | refine ⟨rfl, ?_⟩ | ((first | refine ⟨trivial, ?_⟩ | refine ⟨le_of_ble rfl, ?_⟩) <;> conv => whnf) | fail
        all_goals first
          | exact ret_imm rfl rfl rfl rfl rfl rfl
          | (refine ret_imm rfl rfl rfl rfl ?_ rfl; simp; done)
          | (refine ret_imm rfl rfl rfl rfl ?_ rfl; have hl2 := hl; rw [List.length_eq_zero_iff] at hl2; simp [hl2]; done)
          | (exfalso; simp at h; done)
          | (exfalso; simp at h; omega)
          | trace_state
      · have hb2 : b2 = false := by simpa [hl] using hlaw
        have hlz : ((L2.map intRow).length : Int) ≠ 0 := fun e => hl (hl0.1 e)
        subst hb2
        clear hlaw
        repeat' first | refine go_seq ?_ | refine go_region ?_ | refine go_miss rfl rfl rfl ?_ | refine go_undef rfl rfl rfl ?_ | ((first | refine go_op rfl ?_ | refine go_nil ?_ | refine go_hit rfl rfl rfl ?_ | refine go_splitT rfl rfl rfl (fun h => ?_) (fun h => ?_) | refine go_splitF rfl rfl rfl (fun h => ?_) (fun h => ?_) | refine go_storeBox rfl rfl rfl rfl rfl rfl ?_ | refine go_pickT rfl ?_ | refine go_pickF rfl ?_ | refine go_pick rfl (fun h => ?_) (fun h => ?_) | refine go_call [] (hb) rfl rfl rfl rfl ?_ | refine go_call [] (hD1) rfl rfl rfl rfl ?_ | refine go_call [] (hP) rfl rfl rfl rfl ?_ | refine go_call [] (hP') rfl rfl rfl rfl ?_ | refine go_call [] (hR1) rfl rfl rfl rfl ?_ | refine go_call [] (hTp) rfl rfl rfl rfl ?_ | refine go_call [] (hFd) rfl rfl rfl rfl ?_ | refine go_call [] (hFp) rfl rfl rfl rfl ?_ | refine go_call [] (hBp) rfl rfl rfl rfl ?_ | refine go_call [] (hRd) rfl rfl rfl rfl ?_ | refine go_call [] (hVp) rfl rfl rfl rfl ?_ | refine go_call [] (hD2) rfl rfl rfl rfl ?_ | refine go_call [] (hT) rfl rfl rfl rfl ?_ | refine go_call [] (hT') rfl rfl rfl rfl ?_ | refine go_call [] (hR2) rfl rfl rfl rfl ?_ | refine go_call [] (hB) rfl rfl rfl rfl ?_ | refine go_call [] (hB') rfl rfl rfl rfl ?_ | refine go_call [] (hI) rfl rfl rfl rfl ?_) <;> conv => whnf) | ((first | refine go_loadB ?_ | refine ⟨by kernel_rfl, ?_⟩ | refine go_ret ?_) <;> conv => whnf) | ((first | refine go_skip ?_) <;> conv => whnf) | refine go_true rfl ?_ | refine go_false rfl ?_ | refine go_cond rfl (fun h => ?_) (fun h => ?_) | refine ⟨rfl, ?_⟩ | ((first | refine ⟨trivial, ?_⟩ | refine ⟨le_of_ble rfl, ?_⟩) <;> conv => whnf) | fail
        all_goals first
          | exact ret_imm rfl rfl rfl rfl rfl rfl
          | (refine ret_imm rfl rfl rfl rfl ?_ rfl; simp; done)
          | (refine ret_imm rfl rfl rfl rfl ?_ rfl; have hl2 := hl; rw [List.length_eq_zero_iff] at hl2; simp [hl2]; done)
          | (exfalso; simp at h; done)
          | (exfalso; simp at h; omega)
          | trace_state
end Go.Proofs.Ytkjigbbbobijnaa

