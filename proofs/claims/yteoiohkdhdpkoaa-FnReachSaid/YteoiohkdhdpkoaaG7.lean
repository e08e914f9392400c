/- FnReach: the law walked, whatever network is drawn. -/
import Derived.Test.YteoiohkdhdpkoaaG6
namespace Go.Proofs.Yteoiohkdhdpkoaa
open Go Go.Am
set_option maxRecDepth 100000
set_option maxHeartbeats 16000000
attribute [local irreducible] amOps amC opCall opIndexAddr opPick retQ opMake opStore amDraw opAppend opLoad opNilCmp opIndex opSlice xQ

theorem rs_rides {n : Network} {s : Int} (h : rsB n s = true) : ∃ k : Nat, s = (k : Nat) ∧ k < n.stops.length ∧ netOk n = true ∧ Rides n.lines n.stops.length k (ridB n.lines n.stops.length k) := by
  unfold rsB at h
  rw [Bool.and_eq_true] at h
  obtain ⟨⟨h1, h2⟩, _, h3⟩ := netOk_facts h.1
  obtain ⟨k, rfl, hk⟩ := isSt_nat h.2
  exact ⟨k, rfl, hk, h.1, ridB_ok (fun l hl => (h3 l hl).1) (by omega) hk⟩
theorem isSt_of {n : Network} {i : Nat} (h : i < n.stops.length) : isSt n (i : Int) = true := by
  unfold isSt
  rw [inR_iff]
  omega
theorem fl_has {n : Network} {s : Int} {i : Nat} (h : rsB n s = true) (hi : i < n.stops.length) : (rsL n s).any (pInt (i : Int)) = flB n s i := by
  obtain ⟨k, rfl, hk, _, hr⟩ := rs_rides h
  unfold flB rsL
  rw [h, isSt_of hi, if_pos rfl, Int.toNat_natCast, Int.toNat_natCast, Bool.eq_iff_iff, any_pInt]
  unfold reL
  rw [reU_mem, hr.len]
  simp [hi]
theorem fl_zero {n : Network} {s : Int} {i : Nat} (h : flB n s i = true) : flV n s i = 0 ↔ (i : Int) = s := by
  have h' := h
  unfold flB at h'
  simp only [Bool.and_eq_true] at h'
  obtain ⟨k, rfl, hk, _, hr⟩ := rs_rides h'.1.1
  unfold flV
  rw [h, if_pos rfl, Int.toNat_natCast, Int.toNat_natCast, hr.zer]
  omega
theorem rt_one {n : Network} {li s : Int} {i : Nat} (h : rtB n li s i = true) : flB n s i = true ∧ flV n s i = 1 := by
  unfold rtB rtG at h
  simp only [Bool.and_eq_true, decide_eq_true_eq] at h
  obtain ⟨⟨⟨⟨h1, h2⟩, h3⟩, h4⟩, h5⟩ := h
  have hb : rsB n s = true := by unfold rsB; rw [h1, h3]; rfl
  obtain ⟨k, rfl, hk, _, hr⟩ := rs_rides hb
  rw [inR_iff] at h2
  obtain ⟨j, rfl⟩ := Int.eq_ofNat_of_zero_le h2.1
  obtain ⟨l, hlj⟩ : ∃ l, n.lines[j]? = some l := ⟨_, List.getElem?_eq_getElem (by omega)⟩
  have e : rtL n (j : Int) = l := by unfold rtL; rw [Int.toNat_natCast, List.getD_eq_getElem?_getD, hlj]; rfl
  rw [e] at h5
  unfold rtV at h5
  split at h5
  · omega
  · rename_i hc
    obtain ⟨p, ep, hp⟩ := idx_at (xs := l.stops) (y := (k : Int)) (by omega)
    obtain ⟨q, eq, hq⟩ := idx_at (xs := l.stops) (y := (i : Int)) (by omega)
    have hn : Nx n.lines k i := ⟨l, List.mem_of_getElem? hlj, p, q, by omega, hp, hq⟩
    have hne : i ≠ k := by rintro rfl; omega
    have h1' := hr.one i hne hn
    have hf : flB n (k : Int) i = true := by
      unfold flB
      rw [hb, h4, Int.toNat_natCast, Int.toNat_natCast, h1']
      rfl
    refine ⟨hf, ?_⟩
    unfold flV
    rw [hf, if_pos rfl, Int.toNat_natCast, Int.toNat_natCast, h1']
theorem rsL_len {n : Network} (hf : n.fit) (s : Int) : (rsL n s).length ≤ 1048576 := by
  unfold rsL
  by_cases h : rsB n s = true
  · rw [if_pos h]
    obtain ⟨k, rfl, hk, _, hr⟩ := rs_rides h
    rw [Int.toNat_natCast]
    have := reU_len (ridB n.lines n.stops.length k) (ridB n.lines n.stops.length k).length
    have h2 := hr.len
    have h3 := hf.1
    unfold reL
    omega
  · rw [if_neg h]; simp

theorem law_of (xs : List Int) (n : Network) (s : Int) (hf : n.fit) (hD : CallOk Try.prog 5 [.imm (.list (xs.map byteRow))] { res := [.imm (.agg n.enc), .imm (.int .i64 s)], sep := false }) :
    CallOk Try.prog 3 [.imm (.list (xs.map byteRow))] { res := [.imm (.bool true)] } := by
  refine callOk_of tyOk Try.func3 rfl rfl (le_of_ble rfl) (le_of_ble rfl) (mutOk_imm rfl _) ?_
  have hb := c4 xs
  cases hbig : decide (65536 < ((xs.map byteRow).length : Int)) with
  | true =>
    rw [hbig] at hb
    repeat' first | refine go_seq ?_ | refine go_region ?_ | refine go_miss rfl rfl rfl ?_ | refine go_undef rfl rfl rfl ?_ | ((first | refine go_op rfl ?_ | refine go_nil ?_ | refine go_hit rfl rfl rfl ?_ | refine go_splitT rfl rfl rfl (fun h => ?_) (fun h => ?_) | refine go_splitF rfl rfl rfl (fun h => ?_) (fun h => ?_) | refine go_storeBox rfl rfl rfl rfl rfl rfl ?_ | refine go_pickT rfl ?_ | refine go_pickF rfl ?_ | refine go_pick rfl (fun h => ?_) (fun h => ?_) | refine go_call [] (hb) rfl rfl rfl rfl ?_) <;> conv => whnf) | ((first | refine go_loadB ?_ | refine ⟨by kernel_rfl, ?_⟩ | refine go_ret ?_) <;> conv => whnf) | refine go_block ?_ | ((first | refine go_skip ?_ | refine go_exit ?_) <;> conv => whnf) | refine go_true rfl ?_ | refine go_false rfl ?_ | refine go_cond rfl (fun h => ?_) (fun h => ?_) | refine ⟨rfl, ?_⟩ | ((first | refine ⟨trivial, ?_⟩ | refine ⟨le_of_ble rfl, ?_⟩) <;> conv => whnf) | fail
    all_goals exact ret_imm rfl rfl rfl rfl rfl rfl
  | false =>
  rw [hbig] at hb
  have hR := c6 n hf s
  have hR' := c7 n hf s
  have hI := c8 _ (rsL_len hf s)
  have hH := fun x => c10 _ x (rsL_len hf s)
  have hall := fun i (hi : i < n.stops.length) (h : rsB n s = true) => fl_has h hi
  have es : (n.stops.map strRow).length = n.stops.length := List.length_map _
  have el : (n.lines.map Line.enc).length = n.lines.length := List.length_map _
  have hls := hf.1
  have hll := hf.2.2.1
  cases hB : rsB n s with
  | false =>
    rw [hB] at hR hR'
    have hL : rsL n s = [] := by unfold rsL; rw [hB]; rfl
    rw [hL] at hR hR' hI
    repeat' first | refine go_seq ?_ | refine go_region ?_ | refine go_miss rfl rfl rfl ?_ | refine go_undef rfl rfl rfl ?_ | ((first | refine go_op rfl ?_ | refine go_nil ?_ | refine go_hit rfl rfl rfl ?_ | refine go_splitT rfl rfl rfl (fun h => ?_) (fun h => ?_) | refine go_splitF rfl rfl rfl (fun h => ?_) (fun h => ?_) | refine go_storeBox rfl rfl rfl rfl rfl rfl ?_ | refine go_pickT rfl ?_ | refine go_pickF rfl ?_ | refine go_pick rfl (fun h => ?_) (fun h => ?_) | refine go_call [] (hb) rfl rfl rfl rfl ?_ | refine go_call [] (hD) rfl rfl rfl rfl ?_ | refine go_call [] (hR) rfl rfl rfl rfl ?_ | refine go_call [] (hR') rfl rfl rfl rfl ?_ | refine go_call [] (hI) rfl rfl rfl rfl ?_) <;> conv => whnf) | ((first | refine go_loadB ?_ | refine ⟨by kernel_rfl, ?_⟩ | refine go_ret ?_) <;> conv => whnf) | refine go_block ?_ | ((first | refine go_skip ?_ | refine go_exit ?_) <;> conv => whnf) | refine go_true rfl ?_ | refine go_false rfl ?_ | refine go_cond rfl (fun h => ?_) (fun h => ?_) | refine ⟨rfl, ?_⟩ | ((first | refine ⟨trivial, ?_⟩ | refine ⟨le_of_ble rfl, ?_⟩) <;> conv => whnf) | fail
    all_goals first
      | exact ret_imm rfl rfl rfl rfl rfl rfl
      | (exfalso; simp at h; done)
      | trace_state
  | true =>
    rw [hB] at hR hR'
    have hall := fun i hi => hall i hi hB
    generalize rsL n s = L at *
    repeat' first | refine go_seq ?_ | refine go_region ?_ | refine go_miss rfl rfl rfl ?_ | refine go_undef rfl rfl rfl ?_ | ((first | refine go_op rfl ?_ | refine go_nil ?_ | refine go_hit rfl rfl rfl ?_ | refine go_splitT rfl rfl rfl (fun h => ?_) (fun h => ?_) | refine go_splitF rfl rfl rfl (fun h => ?_) (fun h => ?_) | refine go_storeBox rfl rfl rfl rfl rfl rfl ?_ | refine go_pickT rfl ?_ | refine go_pickF rfl ?_ | refine go_pick rfl (fun h => ?_) (fun h => ?_) | refine go_call [] (hb) rfl rfl rfl rfl ?_ | refine go_call [] (hD) rfl rfl rfl rfl ?_ | refine go_call [] (hR) rfl rfl rfl rfl ?_ | refine go_call [] (hR') rfl rfl rfl rfl ?_ | refine go_call [] (hI) rfl rfl rfl rfl ?_) <;> conv => whnf) | ((first | refine go_loadB ?_ | refine ⟨by kernel_rfl, ?_⟩ | refine go_ret ?_) <;> conv => whnf) | refine go_block ?_ | ((first | refine go_skip ?_ | refine go_exit ?_) <;> conv => whnf) | refine go_true rfl ?_ | refine go_false rfl ?_ | refine go_cond rfl (fun h => ?_) (fun h => ?_) | refine ⟨rfl, ?_⟩ | ((first | refine ⟨trivial, ?_⟩ | refine ⟨le_of_ble rfl, ?_⟩) <;> conv => whnf) | fail
    all_goals first
      | (exfalso; simp at h; done)
      | skip
    refine go_loop (α := Nat) (fun i => i ≤ n.stops.length) (fun i => n.stops.length - i)
      (fun i => st Try.f3.ntmps [(3, .box 1000 0), (4, .imm (.int .i64 s)), (5, .imm (.list (L.map intRow))), (9, .imm (.int .i64 (i : Nat)))]
        [(1000, .box 27 (n.enc.map .imm))] []) 0 (Nat.zero_le _) ?_ ?_
    · exact ref_st (fun _ => nid 3 3) rfl ⟨⟨rfl, rfl⟩, rfl, rfl, rfl, trivial⟩ ⟨⟨rfl, wavs_imm _⟩, trivial⟩ (by simp [nid]) rfl (by simp)
    intro i hi
    by_cases hlt : i < n.stops.length
    · have hF := c9 n hf s i
      have hH := hH (i : Int)
      rw [hall i hlt] at hH
      have hz := fun h => fl_zero (n := n) (s := s) (i := i) h
      have hone := fun li h => rt_one (n := n) (li := li) (s := s) (i := i) h
      have hT := fun li => c11 n hf li s i
      generalize flV n s i = v at *
      cases hfb : flB n s i with
      | true =>
        rw [hfb] at hF hH
        have hz := hz hfb
        have hzd : decide (v = 0) = decide ((i : Int) = s) := by rw [Bool.eq_iff_iff]; simpa using hz
        repeat' first | refine go_seq ?_ | refine go_region ?_ | refine go_miss rfl rfl rfl ?_ | refine go_undef rfl rfl rfl ?_ | ((first | refine go_op rfl ?_ | refine go_nil ?_ | refine go_hit rfl rfl rfl ?_ | refine go_splitT rfl rfl rfl (fun h => ?_) (fun h => ?_) | refine go_splitF rfl rfl rfl (fun h => ?_) (fun h => ?_) | refine go_storeBox rfl rfl rfl rfl rfl rfl ?_ | refine go_pickT rfl ?_ | refine go_pickF rfl ?_ | refine go_pick rfl (fun h => ?_) (fun h => ?_) | refine go_call [] (hF) rfl rfl rfl rfl ?_ | refine go_call [] (hH) rfl rfl rfl rfl ?_) <;> conv => whnf) | ((first | refine go_loadB ?_ | refine ⟨by kernel_rfl, ?_⟩ | refine go_ret ?_) <;> conv => whnf) | refine go_block ?_ | ((first | refine go_skip ?_ | refine go_exit ?_) <;> conv => whnf) | refine go_true rfl ?_ | refine go_false rfl ?_ | refine go_cond rfl (fun h => ?_) (fun h => ?_) | refine ⟨rfl, ?_⟩ | ((first | refine ⟨trivial, ?_⟩ | refine ⟨le_of_ble rfl, ?_⟩) <;> conv => whnf) | fail
        all_goals first
          | (exfalso; simp at h; done)
          | (exfalso; simp only [decide_eq_false_iff_not] at *; omega)
          | (exfalso; rw [hzd] at h; simp at h; done)
          | skip
        refine go_loop (α := Nat) (fun j => j ≤ n.lines.length) (fun j => n.lines.length - j)
          (fun j => st Try.f3.ntmps [(3, .box 1000 0), (4, .imm (.int .i64 s)), (5, .imm (.list (L.map intRow))), (9, .imm (.int .i64 (i : Nat))), (10, .imm (.int .i64 v)), (11, .imm (.bool true)), (12, .imm (.int .i64 (j : Nat)))]
            [(1000, .box 27 (n.enc.map .imm))] []) 0 (Nat.zero_le _) ?_ ?_
        · exact ref_st id rfl ⟨⟨rfl, rfl⟩, rfl, rfl, rfl, rfl, rfl, rfl, trivial⟩ ⟨⟨rfl, wavs_imm _⟩, trivial⟩ (by simp) rfl (by simp)
        intro j hj
        by_cases hjl : j < n.lines.length
        · have hT := hT (j : Int)
          have hone := hone (j : Int)
          rw [hfb] at hone
          cases hq : rtB n (j : Int) s i with
          | true =>
            have h1 := hone hq
            rw [hq] at hT
            generalize rtR n (j : Int) s i = w at *
            repeat' first | refine go_seq ?_ | refine go_region ?_ | refine go_miss rfl rfl rfl ?_ | refine go_undef rfl rfl rfl ?_ | ((first | refine go_op rfl ?_ | refine go_nil ?_ | refine go_hit rfl rfl rfl ?_ | refine go_splitT rfl rfl rfl (fun h => ?_) (fun h => ?_) | refine go_splitF rfl rfl rfl (fun h => ?_) (fun h => ?_) | refine go_storeBox rfl rfl rfl rfl rfl rfl ?_ | refine go_pickT rfl ?_ | refine go_pickF rfl ?_ | refine go_pick rfl (fun h => ?_) (fun h => ?_) | refine go_call [] (hT) rfl rfl rfl rfl ?_) <;> conv => whnf) | ((first | refine go_loadB ?_ | refine ⟨by kernel_rfl, ?_⟩ | refine go_ret ?_) <;> conv => whnf) | refine go_block ?_ | ((first | refine go_skip ?_ | refine go_exit ?_) <;> conv => whnf) | refine go_true rfl ?_ | refine go_false rfl ?_ | refine go_cond rfl (fun h => ?_) (fun h => ?_) | refine ⟨rfl, ?_⟩ | ((first | refine ⟨trivial, ?_⟩ | refine ⟨le_of_ble rfl, ?_⟩) <;> conv => whnf) | fail
            all_goals first
              | (exfalso; simp only [decide_eq_false_iff_not] at *; omega)
              | (exfalso; simp [h1] at h; done)
              | exact go_next (j + 1) (by show j + 1 ≤ _; omega) (by show _ - (j + 1) < _ - j; omega) (ref_st id rfl ⟨⟨rfl, rfl⟩, rfl, rfl, rfl, rfl, rfl, next_i (by omega), trivial⟩ ⟨⟨rfl, wavs_imm _⟩, trivial⟩ (by simp) rfl (by simp))
              | trace_state
          | false =>
            rw [hq] at hT
            generalize rtR n (j : Int) s i = w at *
            repeat' first | refine go_seq ?_ | refine go_region ?_ | refine go_miss rfl rfl rfl ?_ | refine go_undef rfl rfl rfl ?_ | ((first | refine go_op rfl ?_ | refine go_nil ?_ | refine go_hit rfl rfl rfl ?_ | refine go_splitT rfl rfl rfl (fun h => ?_) (fun h => ?_) | refine go_splitF rfl rfl rfl (fun h => ?_) (fun h => ?_) | refine go_storeBox rfl rfl rfl rfl rfl rfl ?_ | refine go_pickT rfl ?_ | refine go_pickF rfl ?_ | refine go_pick rfl (fun h => ?_) (fun h => ?_) | refine go_call [] (hT) rfl rfl rfl rfl ?_) <;> conv => whnf) | ((first | refine go_loadB ?_ | refine ⟨by kernel_rfl, ?_⟩ | refine go_ret ?_) <;> conv => whnf) | refine go_block ?_ | ((first | refine go_skip ?_ | refine go_exit ?_) <;> conv => whnf) | refine go_true rfl ?_ | refine go_false rfl ?_ | refine go_cond rfl (fun h => ?_) (fun h => ?_) | refine ⟨rfl, ?_⟩ | ((first | refine ⟨trivial, ?_⟩ | refine ⟨le_of_ble rfl, ?_⟩) <;> conv => whnf) | fail
            all_goals first
              | (exfalso; simp only [decide_eq_false_iff_not] at *; omega)
              | (exfalso; simp at h; done)
              | exact go_next (j + 1) (by show j + 1 ≤ _; omega) (by show _ - (j + 1) < _ - j; omega) (ref_st id rfl ⟨⟨rfl, rfl⟩, rfl, rfl, rfl, rfl, rfl, next_i (by omega), trivial⟩ ⟨⟨rfl, wavs_imm _⟩, trivial⟩ (by simp) rfl (by simp))
              | trace_state
        · have hje : j = n.lines.length := by omega
          subst hje
          repeat' first | refine go_seq ?_ | refine go_region ?_ | refine go_miss rfl rfl rfl ?_ | refine go_undef rfl rfl rfl ?_ | ((first | refine go_op rfl ?_ | refine go_nil ?_ | refine go_hit rfl rfl rfl ?_ | refine go_splitT rfl rfl rfl (fun h => ?_) (fun h => ?_) | refine go_splitF rfl rfl rfl (fun h => ?_) (fun h => ?_) | refine go_storeBox rfl rfl rfl rfl rfl rfl ?_ | refine go_pickT rfl ?_ | refine go_pickF rfl ?_ | refine go_pick rfl (fun h => ?_) (fun h => ?_)) <;> conv => whnf) | ((first | refine go_loadB ?_ | refine ⟨by kernel_rfl, ?_⟩ | refine go_ret ?_) <;> conv => whnf) | refine go_block ?_ | ((first | refine go_skip ?_ | refine go_exit ?_) <;> conv => whnf) | refine go_true rfl ?_ | refine go_false rfl ?_ | refine go_cond rfl (fun h => ?_) (fun h => ?_) | refine ⟨rfl, ?_⟩ | ((first | refine ⟨trivial, ?_⟩ | refine ⟨le_of_ble rfl, ?_⟩) <;> conv => whnf) | fail
          all_goals first
            | (exfalso; simp only [decide_eq_true_eq] at *; omega)
            | exact go_next (i + 1) (by show i + 1 ≤ _; omega) (by show _ - (i + 1) < _ - i; omega) (ref_st id rfl ⟨⟨rfl, rfl⟩, rfl, rfl, next_i (by omega), trivial⟩ ⟨⟨rfl, wavs_imm _⟩, trivial⟩ (by simp) rfl (by simp))
            | trace_state
      | false =>
        rw [hfb] at hF hH
        repeat' first | refine go_seq ?_ | refine go_region ?_ | refine go_miss rfl rfl rfl ?_ | refine go_undef rfl rfl rfl ?_ | ((first | refine go_op rfl ?_ | refine go_nil ?_ | refine go_hit rfl rfl rfl ?_ | refine go_splitT rfl rfl rfl (fun h => ?_) (fun h => ?_) | refine go_splitF rfl rfl rfl (fun h => ?_) (fun h => ?_) | refine go_storeBox rfl rfl rfl rfl rfl rfl ?_ | refine go_pickT rfl ?_ | refine go_pickF rfl ?_ | refine go_pick rfl (fun h => ?_) (fun h => ?_) | refine go_call [] (hF) rfl rfl rfl rfl ?_ | refine go_call [] (hH) rfl rfl rfl rfl ?_) <;> conv => whnf) | ((first | refine go_loadB ?_ | refine ⟨by kernel_rfl, ?_⟩ | refine go_ret ?_) <;> conv => whnf) | refine go_block ?_ | ((first | refine go_skip ?_ | refine go_exit ?_) <;> conv => whnf) | refine go_true rfl ?_ | refine go_false rfl ?_ | refine go_cond rfl (fun h => ?_) (fun h => ?_) | refine ⟨rfl, ?_⟩ | ((first | refine ⟨trivial, ?_⟩ | refine ⟨le_of_ble rfl, ?_⟩) <;> conv => whnf) | fail
        all_goals first
          | (exfalso; simp at h; done)
          | (exfalso; simp only [decide_eq_false_iff_not] at *; omega)
          | (exfalso; simp at h; done)
          | skip
        refine go_loop (α := Nat) (fun j => j ≤ n.lines.length) (fun j => n.lines.length - j)
          (fun j => st Try.f3.ntmps [(3, .box 1000 0), (4, .imm (.int .i64 s)), (5, .imm (.list (L.map intRow))), (9, .imm (.int .i64 (i : Nat))), (10, .imm (.int .i64 v)), (11, .imm (.bool false)), (12, .imm (.int .i64 (j : Nat)))]
            [(1000, .box 27 (n.enc.map .imm))] []) 0 (Nat.zero_le _) ?_ ?_
        · exact ref_st id rfl ⟨⟨rfl, rfl⟩, rfl, rfl, rfl, rfl, rfl, rfl, trivial⟩ ⟨⟨rfl, wavs_imm _⟩, trivial⟩ (by simp) rfl (by simp)
        intro j hj
        by_cases hjl : j < n.lines.length
        · have hT := hT (j : Int)
          have hone := hone (j : Int)
          rw [hfb] at hone
          cases hq : rtB n (j : Int) s i with
          | true =>
            exact absurd (hone hq).1 (by simp)
          | false =>
            rw [hq] at hT
            generalize rtR n (j : Int) s i = w at *
            repeat' first | refine go_seq ?_ | refine go_region ?_ | refine go_miss rfl rfl rfl ?_ | refine go_undef rfl rfl rfl ?_ | ((first | refine go_op rfl ?_ | refine go_nil ?_ | refine go_hit rfl rfl rfl ?_ | refine go_splitT rfl rfl rfl (fun h => ?_) (fun h => ?_) | refine go_splitF rfl rfl rfl (fun h => ?_) (fun h => ?_) | refine go_storeBox rfl rfl rfl rfl rfl rfl ?_ | refine go_pickT rfl ?_ | refine go_pickF rfl ?_ | refine go_pick rfl (fun h => ?_) (fun h => ?_) | refine go_call [] (hT) rfl rfl rfl rfl ?_) <;> conv => whnf) | ((first | refine go_loadB ?_ | refine ⟨by kernel_rfl, ?_⟩ | refine go_ret ?_) <;> conv => whnf) | refine go_block ?_ | ((first | refine go_skip ?_ | refine go_exit ?_) <;> conv => whnf) | refine go_true rfl ?_ | refine go_false rfl ?_ | refine go_cond rfl (fun h => ?_) (fun h => ?_) | refine ⟨rfl, ?_⟩ | ((first | refine ⟨trivial, ?_⟩ | refine ⟨le_of_ble rfl, ?_⟩) <;> conv => whnf) | fail
            all_goals first
              | (exfalso; simp only [decide_eq_false_iff_not] at *; omega)
              | (exfalso; simp at h; done)
              | exact go_next (j + 1) (by show j + 1 ≤ _; omega) (by show _ - (j + 1) < _ - j; omega) (ref_st id rfl ⟨⟨rfl, rfl⟩, rfl, rfl, rfl, rfl, rfl, next_i (by omega), trivial⟩ ⟨⟨rfl, wavs_imm _⟩, trivial⟩ (by simp) rfl (by simp))
              | trace_state
        · have hje : j = n.lines.length := by omega
          subst hje
          repeat' first | refine go_seq ?_ | refine go_region ?_ | refine go_miss rfl rfl rfl ?_ | refine go_undef rfl rfl rfl ?_ | ((first | refine go_op rfl ?_ | refine go_nil ?_ | refine go_hit rfl rfl rfl ?_ | refine go_splitT rfl rfl rfl (fun h => ?_) (fun h => ?_) | refine go_splitF rfl rfl rfl (fun h => ?_) (fun h => ?_) | refine go_storeBox rfl rfl rfl rfl rfl rfl ?_ | refine go_pickT rfl ?_ | refine go_pickF rfl ?_ | refine go_pick rfl (fun h => ?_) (fun h => ?_)) <;> conv => whnf) | ((first | refine go_loadB ?_ | refine ⟨by kernel_rfl, ?_⟩ | refine go_ret ?_) <;> conv => whnf) | refine go_block ?_ | ((first | refine go_skip ?_ | refine go_exit ?_) <;> conv => whnf) | refine go_true rfl ?_ | refine go_false rfl ?_ | refine go_cond rfl (fun h => ?_) (fun h => ?_) | refine ⟨rfl, ?_⟩ | ((first | refine ⟨trivial, ?_⟩ | refine ⟨le_of_ble rfl, ?_⟩) <;> conv => whnf) | fail
          all_goals first
            | (exfalso; simp only [decide_eq_true_eq] at *; omega)
            | exact go_next (i + 1) (by show i + 1 ≤ _; omega) (by show _ - (i + 1) < _ - i; omega) (ref_st id rfl ⟨⟨rfl, rfl⟩, rfl, rfl, next_i (by omega), trivial⟩ ⟨⟨rfl, wavs_imm _⟩, trivial⟩ (by simp) rfl (by simp))
            | trace_state
    · have hie : i = n.stops.length := by omega
      subst hie
      repeat' first | refine go_seq ?_ | refine go_region ?_ | refine go_miss rfl rfl rfl ?_ | refine go_undef rfl rfl rfl ?_ | ((first | refine go_op rfl ?_ | refine go_nil ?_ | refine go_hit rfl rfl rfl ?_ | refine go_splitT rfl rfl rfl (fun h => ?_) (fun h => ?_) | refine go_splitF rfl rfl rfl (fun h => ?_) (fun h => ?_) | refine go_storeBox rfl rfl rfl rfl rfl rfl ?_ | refine go_pickT rfl ?_ | refine go_pickF rfl ?_ | refine go_pick rfl (fun h => ?_) (fun h => ?_)) <;> conv => whnf) | ((first | refine go_loadB ?_ | refine ⟨by kernel_rfl, ?_⟩ | refine go_ret ?_) <;> conv => whnf) | refine go_block ?_ | ((first | refine go_skip ?_ | refine go_exit ?_) <;> conv => whnf) | refine go_true rfl ?_ | refine go_false rfl ?_ | refine go_cond rfl (fun h => ?_) (fun h => ?_) | refine ⟨rfl, ?_⟩ | ((first | refine ⟨trivial, ?_⟩ | refine ⟨le_of_ble rfl, ?_⟩) <;> conv => whnf) | fail
      all_goals first
        | exact ret_imm rfl rfl rfl rfl rfl rfl
        | (exfalso; simp only [decide_eq_true_eq] at *; omega)
        | trace_state
end Go.Proofs.Yteoiohkdhdpkoaa

