/- The walk of the program's quantile of the delays, and its law. -/
import Derived.Test.YtnjojepeilgikaaV15
import Derived.Test.YtnjojepeilgikaaSh
namespace Go.Proofs.Ytnjojepeilgikaa
open Go Go.Am Go.Shelf
set_option maxRecDepth 100000
set_option maxHeartbeats 4000000

theorem c61 (zs : List Int) (hz : zs.length < 4611686018427387904) : CallOk Try.prog 61 [.arr 3 1 (zs.map intRow)] { res := [], muts := [.arr 3 1 ((srt zs).map intRow)] } :=
  callOk_sortInt lays189 ⟨_, Try.func61, rfl, rfl⟩ 3 zs hz

attribute [local irreducible] amOps amC opCall opIndexAddr opPick retQ opMake opStore amDraw opAppend opLoad opNilCmp

theorem c35 (xs : List Visit) (num den : Int) (hok : ∀ v ∈ xs, v.ok) (hl : xs.length ≤ 1048576) : CallOk Try.prog 35 [.imm (.list (xs.map Visit.enc)), .imm (.int .i64 num), .imm (.int .i64 den)]
    { res := [.imm (.int .i64 (dqV num den xs)), .imm (.bool (dqOk num den xs))] } := by
  refine callOk_of tyOk Try.func35 rfl rfl (le_of_ble rfl) (le_of_ble rfl) (mutOk_imm rfl _) ?_
  have hc16 : CallOk Try.prog 16 [.imm (.list (xs.map Visit.enc))] { res := [.imm (.bool (valid xs))] } := c16 xs hl
  cases hv : valid xs with
  | false =>
    have hm : dqOk num den xs = false := by simp [dqOk, hv]
    rw [hv] at hc16
    repeat' first
      | refine go_seq ?_
      | refine go_region ?_
      | (refine go_op rfl ?_; conv => whnf)
      | (refine go_nil ?_; conv => whnf)
      | (refine go_hit rfl rfl rfl ?_; conv => whnf)
      | (refine go_miss rfl rfl rfl ?_)
      | (refine go_undef rfl rfl rfl ?_)
      | (refine go_splitT rfl rfl rfl (fun h => ?_) (fun h => ?_) <;> conv => whnf)
      | (refine go_splitF rfl rfl rfl (fun h => ?_) (fun h => ?_) <;> conv => whnf)
      | (refine go_storeBox rfl rfl rfl rfl rfl rfl ?_; conv => whnf)
      | (refine go_dop rfl ?_; conv => whnf)
      | (refine go_dhit rfl rfl ?_; conv => whnf)
      | (refine go_dmiss rfl rfl ?_; conv => whnf)
      | (refine go_dundef rfl rfl ?_; conv => whnf)
      | (refine go_dend (by kernel_rfl) ?_; conv => whnf)
      | refine go_draw drawsOk ?_
      | (refine go_pickT rfl ?_; conv => whnf)
      | (refine go_pickF rfl ?_; conv => whnf)
      | (refine go_pick rfl (fun h => ?_) (fun h => ?_) <;> conv => whnf)
      | (refine go_call [] (hc16) rfl rfl rfl rfl ?_; conv => whnf)
      | (refine go_dsplit2 rfl (fun h => ?_) (fun h => ?_) <;> conv => whnf)
      | (refine go_loadB ?_; conv => whnf)
      | (refine ⟨by kernel_rfl, ?_⟩; conv => whnf)
      | (refine go_ret ?_; conv => whnf)
      | refine go_block ?_
      | (refine go_skip ?_; conv => whnf)
      | (refine go_exit ?_; conv => whnf)
      | refine go_true rfl ?_
      | refine go_false rfl ?_
      | refine go_cond rfl (fun h => ?_) (fun h => ?_)
      | refine ⟨rfl, ?_⟩
      | (refine ⟨trivial, ?_⟩; conv => whnf)
      | (refine ⟨le_of_ble rfl, ?_⟩; conv => whnf)
      | fail
    all_goals exact ret_imm2 rfl rfl rfl rfl rfl (by simp [dqV, hm]) (by simp [hm]) rfl
  | true =>
    rw [hv] at hc16
    obtain ⟨h30, _⟩ := valid_at hv
    have hlm : (xs.map Visit.enc).length = xs.length := List.length_map _
    by_cases hall : xs.length ≠ 0 ∧ 1 ≤ num ∧ num ≤ den ∧ den ≤ 1000
    · obtain ⟨h0, hn1, hn2, hd⟩ := hall
      have hm : dqOk num den xs = true := by
        simp only [dqOk, hv, inR, Bool.true_and, Bool.and_eq_true, Bool.not_eq_true', decide_eq_true_eq, decide_eq_false_iff_not]
        omega
      repeat' first
        | refine go_seq ?_
        | refine go_region ?_
        | (refine go_op rfl ?_; conv => whnf)
        | (refine go_nil ?_; conv => whnf)
        | (refine go_hit rfl rfl rfl ?_; conv => whnf)
        | (refine go_miss rfl rfl rfl ?_)
        | (refine go_undef rfl rfl rfl ?_)
        | (refine go_splitT rfl rfl rfl (fun h => ?_) (fun h => ?_) <;> conv => whnf)
        | (refine go_splitF rfl rfl rfl (fun h => ?_) (fun h => ?_) <;> conv => whnf)
        | (refine go_storeBox rfl rfl rfl rfl rfl rfl ?_; conv => whnf)
        | (refine go_dop rfl ?_; conv => whnf)
        | (refine go_dhit rfl rfl ?_; conv => whnf)
        | (refine go_dmiss rfl rfl ?_; conv => whnf)
        | (refine go_dundef rfl rfl ?_; conv => whnf)
        | (refine go_dend (by kernel_rfl) ?_; conv => whnf)
        | refine go_draw drawsOk ?_
        | (refine go_pickT rfl ?_; conv => whnf)
        | (refine go_pickF rfl ?_; conv => whnf)
        | (refine go_pick rfl (fun h => ?_) (fun h => ?_) <;> conv => whnf)
        | (refine go_call [] (hc16) rfl rfl rfl rfl ?_; conv => whnf)
        | (refine go_makeN rfl rfl rfl rfl rfl rfl rfl rfl rfl (by omega) (by simp; omega) ?_; conv => whnf)
        | (refine go_dsplit2 rfl (fun h => ?_) (fun h => ?_) <;> conv => whnf)
        | (refine go_loadB ?_; conv => whnf)
        | (refine ⟨by kernel_rfl, ?_⟩; conv => whnf)
        | (refine go_ret ?_; conv => whnf)
        | refine go_block ?_
        | (refine go_skip ?_; conv => whnf)
        | (refine go_exit ?_; conv => whnf)
        | refine go_true rfl ?_
        | refine go_false rfl ?_
        | refine go_cond rfl (fun h => ?_) (fun h => ?_)
        | refine ⟨rfl, ?_⟩
        | (refine ⟨trivial, ?_⟩; conv => whnf)
        | (refine ⟨le_of_ble rfl, ?_⟩; conv => whnf)
        | fail
      all_goals try (exfalso; first | (rw [hlm] at h; simp only [decide_eq_true_eq] at h; omega) | (simp only [decide_eq_true_eq] at h; omega))
      refine go_loop (α := Nat) (fun i => i ≤ xs.length) (fun i => xs.length - i)
        (fun i => st Try.f35.ntmps [(1, .imm (.int .i64 num)), (2, .imm (.int .i64 den)), (8, .own 1000 0 xs.length), (36, .imm (.list (xs.map Visit.enc))), (37, .imm (.int .i64 (xs.map Visit.enc).length)), (38, .imm (.int .i64 (i : Nat)))]
          [(1000, .arr 3 1 (fill intRow ty3.zero (dels xs) i))] []) 0 (Nat.zero_le _) ?_ ?_
      · refine ref_st (fun _ => nid 3 35) rfl ⟨rfl, rfl, ⟨?_, rfl⟩, rfl, rfl, rfl, trivial⟩ ⟨?_, trivial⟩ (by simp) rfl (by simp)
        · show AV.own _ _ _ = AV.own _ _ _
          rw [← hlm]
        · show some _ = some _
          rw [← fill_0, dels_len, ← hlm]
          rfl
      · intro i hi
        cases hx : xs[i]? with
        | none =>
          have hge := le_of_at hx
          have hie : i = xs.length := by omega
          rw [fill_end _ _ _ (by rw [dels_len]; exact hge)]
          have hc61 := c61 (dels xs) (by rw [dels_len]; omega)
          have hsl : ((srt (dels xs)).map intRow).length = xs.length := by rw [List.length_map, srt_len, dels_len]
          repeat' first
            | refine go_seq ?_
            | refine go_region ?_
            | (refine go_op rfl ?_; conv => whnf)
            | (refine go_nil ?_; conv => whnf)
            | (refine go_hit rfl rfl rfl ?_; conv => whnf)
            | (refine go_miss rfl rfl rfl ?_)
            | (refine go_undef rfl rfl rfl ?_)
            | (refine go_splitT rfl rfl rfl (fun h => ?_) (fun h => ?_) <;> conv => whnf)
            | (refine go_splitF rfl rfl rfl (fun h => ?_) (fun h => ?_) <;> conv => whnf)
            | (refine go_storeBox rfl rfl rfl rfl rfl rfl ?_; conv => whnf)
            | (refine go_dop rfl ?_; conv => whnf)
            | (refine go_dhit rfl rfl ?_; conv => whnf)
            | (refine go_dmiss rfl rfl ?_; conv => whnf)
            | (refine go_dundef rfl rfl ?_; conv => whnf)
            | (refine go_dend (by kernel_rfl) ?_; conv => whnf)
            | refine go_draw drawsOk ?_
            | (refine go_pickT rfl ?_; conv => whnf)
            | (refine go_pickF rfl ?_; conv => whnf)
            | (refine go_pick rfl (fun h => ?_) (fun h => ?_) <;> conv => whnf)
            | (refine go_call [2] hc61 (argsIn_lent rfl (by rw [List.length_map, dels_len]) rfl) rfl rfl rfl ?_; conv => whnf)
            | (refine go_dsplit2 rfl (fun h => ?_) (fun h => ?_) <;> conv => whnf)
            | (refine go_loadB ?_; conv => whnf)
            | (refine ⟨by kernel_rfl, ?_⟩; conv => whnf)
            | (refine go_ret ?_; conv => whnf)
            | refine go_block ?_
            | (refine go_skip ?_; conv => whnf)
            | (refine go_exit ?_; conv => whnf)
            | refine go_true rfl ?_
            | refine go_false rfl ?_
            | refine go_cond rfl (fun h => ?_) (fun h => ?_)
            | refine ⟨rfl, ?_⟩
            | (refine ⟨trivial, ?_⟩; conv => whnf)
            | (refine ⟨le_of_ble rfl, ?_⟩; conv => whnf)
            | fail
          · exfalso; simp at *; omega
          refine go_loop (α := Nat) (fun i => i < xs.length ∧ (i = 0 ∨ (i : Int) * den < num * (xs.length : Nat))) (fun i => xs.length - i)
            (fun i => st Try.f35.ntmps [(1, .imm (.int .i64 num)), (2, .imm (.int .i64 den)), (8, .own 1000 0 xs.length), (11, .imm (.int .i64 (i : Nat)))]
              [(1000, .arr 3 1 ((srt (dels xs)).map intRow))] []) 0 ⟨by omega, .inl rfl⟩ ?_ ?_
          · exact ref_st id rfl ⟨rfl, rfl, ⟨rfl, rfl⟩, rfl, trivial⟩ ⟨rfl, trivial⟩ (by simp) rfl (by simp)
          · rintro i ⟨hil, hii⟩
            have e0 : IntKind.i64.wrap ((i : Int) + 1) = (i : Int) + 1 := wrap_small (by omega) (by omega)
            have e1 := mul_small' (a := (i : Int) + 1) (b := den) (by omega) (by omega) (by omega) (by omega)
            have e2 := mul_small' (a := num) (b := (xs.length : Nat)) (by omega) (by omega) (by omega) (by omega)
            obtain ⟨x, hx⟩ : ∃ x, (srt (dels xs))[i]? = some x := ⟨_, List.getElem?_eq_getElem (by rw [srt_len, dels_len]; exact hil)⟩
            have hxr : ((srt (dels xs)).map intRow)[i]? = some (intRow x) := by simp [hx]
            repeat' first
              | refine go_seq ?_
              | refine go_region ?_
              | (refine go_op rfl ?_; conv => whnf)
              | (refine go_nil ?_; conv => whnf)
              | (refine go_hit rfl rfl rfl ?_; conv => whnf)
              | (refine go_miss rfl rfl rfl ?_)
              | (refine go_undef rfl rfl rfl ?_)
              | (refine go_splitT rfl rfl rfl (fun h => ?_) (fun h => ?_) <;> conv => whnf)
              | (refine go_splitF rfl rfl rfl (fun h => ?_) (fun h => ?_) <;> conv => whnf)
              | (refine go_storeBox rfl rfl rfl rfl rfl rfl ?_; conv => whnf)
              | (refine go_dop rfl ?_; conv => whnf)
              | (refine go_dhit rfl rfl ?_; conv => whnf)
              | (refine go_dmiss rfl rfl ?_; conv => whnf)
              | (refine go_dundef rfl rfl ?_; conv => whnf)
              | (refine go_dend (by kernel_rfl) ?_; conv => whnf)
              | refine go_draw drawsOk ?_
              | (refine go_pickT rfl ?_; conv => whnf)
              | (refine go_pickF rfl ?_; conv => whnf)
              | (refine go_pick rfl (fun h => ?_) (fun h => ?_) <;> conv => whnf)
              | (refine go_idxOwn rfl rfl rfl rfl rfl rfl hil ?_; conv => whnf)
              | (refine go_loadEl rfl rfl rfl hxr ?_; conv => whnf)
              | (refine go_dsplit2 rfl (fun h => ?_) (fun h => ?_) <;> conv => whnf)
              | (refine go_loadB ?_; conv => whnf)
              | (refine ⟨by kernel_rfl, ?_⟩; conv => whnf)
              | (refine go_ret ?_; conv => whnf)
              | refine go_block ?_
              | (refine go_skip ?_; conv => whnf)
              | (refine go_exit ?_; conv => whnf)
              | refine go_true rfl ?_
              | refine go_false rfl ?_
              | refine go_cond rfl (fun h => ?_) (fun h => ?_)
              | refine ⟨rfl, ?_⟩
              | (refine ⟨trivial, ?_⟩; conv => whnf)
              | (refine ⟨le_of_ble rfl, ?_⟩; conv => whnf)
              | fail
            · rw [e0, e1, e2] at h
              have h' : ((i : Int) + 1) * den < num * (xs.length : Nat) := by simpa using h
              have hlt : i + 1 < xs.length := by
                rcases Nat.lt_or_ge (i + 1) xs.length with hh | hh
                · exact hh
                · exfalso
                  have q1 : num * (xs.length : Nat) ≤ den * (xs.length : Nat) := Int.mul_le_mul_of_nonneg_right hn2 (by omega)
                  have q2 : den * (xs.length : Nat) ≤ den * ((i : Int) + 1) := Int.mul_le_mul_of_nonneg_left (by omega) (by omega)
                  rw [Int.mul_comm den ((i : Int) + 1)] at q2
                  omega
              exact go_next (i + 1) ⟨hlt, .inr (by push_cast; exact h')⟩ (by omega) (ref_st id rfl ⟨rfl, rfl, ⟨rfl, rfl⟩, next_i (by omega), trivial⟩ ⟨rfl, trivial⟩ (by simp) rfl (by simp))
            · rw [e0, e1, e2] at h
              have h' : num * (xs.length : Nat) ≤ ((i : Int) + 1) * den := by simpa using h
              have hb := best_eq (num := num) (den := den) (L := (xs.length : Nat)) (ds := dels xs) (by omega) (dels_le hok hv) hx h' hii
              rw [dels_len] at hb
              exact ret_imm2 rfl rfl rfl rfl rfl (by simp [dqV, hm, hb]) (by simp [hm]) rfl
        | some v =>
          have hlt := lt_of_at hx
          have hr := row_at Visit.enc hx
          repeat' first
            | refine go_seq ?_
            | refine go_region ?_
            | (refine go_op rfl ?_; conv => whnf)
            | (refine go_nil ?_; conv => whnf)
            | (refine go_hit rfl rfl rfl ?_; conv => whnf)
            | (refine go_miss rfl rfl rfl ?_)
            | (refine go_undef rfl rfl rfl ?_)
            | (refine go_splitT rfl rfl rfl (fun h => ?_) (fun h => ?_) <;> conv => whnf)
            | (refine go_splitF rfl rfl rfl (fun h => ?_) (fun h => ?_) <;> conv => whnf)
            | (refine go_storeBox rfl rfl rfl rfl rfl rfl ?_; conv => whnf)
            | (refine go_dop rfl ?_; conv => whnf)
            | (refine go_dhit rfl rfl ?_; conv => whnf)
            | (refine go_dmiss rfl rfl ?_; conv => whnf)
            | (refine go_dundef rfl rfl ?_; conv => whnf)
            | (refine go_dend (by kernel_rfl) ?_; conv => whnf)
            | refine go_draw drawsOk ?_
            | (refine go_pickT rfl ?_; conv => whnf)
            | (refine go_pickF rfl ?_; conv => whnf)
            | (refine go_pick rfl (fun h => ?_) (fun h => ?_) <;> conv => whnf)
            | (refine go_idx rfl rfl rfl rfl (by omega) hr rfl ?_; conv => whnf)
            | (refine go_idxOwn rfl rfl rfl rfl rfl rfl hlt ?_; conv => whnf)
            | (refine go_storeRow rfl rfl rfl rfl (fill_at _ _ (dels_at hx)) rfl rfl (fill_set _ _ (dels_at hx)) ?_; conv => whnf)
            | (refine go_dsplit2 rfl (fun h => ?_) (fun h => ?_) <;> conv => whnf)
            | (refine go_loadB ?_; conv => whnf)
            | (refine ⟨by kernel_rfl, ?_⟩; conv => whnf)
            | (refine go_ret ?_; conv => whnf)
            | refine go_block ?_
            | (refine go_skip ?_; conv => whnf)
            | (refine go_exit ?_; conv => whnf)
            | refine go_true rfl ?_
            | refine go_false rfl ?_
            | refine go_cond rfl (fun h => ?_) (fun h => ?_)
            | refine ⟨rfl, ?_⟩
            | (refine ⟨trivial, ?_⟩; conv => whnf)
            | (refine ⟨le_of_ble rfl, ?_⟩; conv => whnf)
            | fail
          · exact go_next (i + 1) (by omega) (by omega) (ref_st id rfl ⟨rfl, rfl, ⟨rfl, rfl⟩, rfl, rfl, next_i (by omega), trivial⟩ ⟨rfl, trivial⟩ (by simp) rfl (by simp))
          · exfalso; simp at *; omega
    · have hm : dqOk num den xs = false := by
        rw [Bool.eq_false_iff]
        intro hh
        simp only [dqOk, hv, inR, Bool.true_and, Bool.and_eq_true, Bool.not_eq_true', decide_eq_true_eq, decide_eq_false_iff_not] at hh
        exact hall (by omega)
      repeat' first
        | refine go_seq ?_
        | refine go_region ?_
        | (refine go_op rfl ?_; conv => whnf)
        | (refine go_nil ?_; conv => whnf)
        | (refine go_hit rfl rfl rfl ?_; conv => whnf)
        | (refine go_miss rfl rfl rfl ?_)
        | (refine go_undef rfl rfl rfl ?_)
        | (refine go_splitT rfl rfl rfl (fun h => ?_) (fun h => ?_) <;> conv => whnf)
        | (refine go_splitF rfl rfl rfl (fun h => ?_) (fun h => ?_) <;> conv => whnf)
        | (refine go_storeBox rfl rfl rfl rfl rfl rfl ?_; conv => whnf)
        | (refine go_dop rfl ?_; conv => whnf)
        | (refine go_dhit rfl rfl ?_; conv => whnf)
        | (refine go_dmiss rfl rfl ?_; conv => whnf)
        | (refine go_dundef rfl rfl ?_; conv => whnf)
        | (refine go_dend (by kernel_rfl) ?_; conv => whnf)
        | refine go_draw drawsOk ?_
        | (refine go_pickT rfl ?_; conv => whnf)
        | (refine go_pickF rfl ?_; conv => whnf)
        | (refine go_pick rfl (fun h => ?_) (fun h => ?_) <;> conv => whnf)
        | (refine go_call [] (hc16) rfl rfl rfl rfl ?_; conv => whnf)
        | (refine go_dsplit2 rfl (fun h => ?_) (fun h => ?_) <;> conv => whnf)
        | (refine go_loadB ?_; conv => whnf)
        | (refine ⟨by kernel_rfl, ?_⟩; conv => whnf)
        | (refine go_ret ?_; conv => whnf)
        | refine go_block ?_
        | (refine go_skip ?_; conv => whnf)
        | (refine go_exit ?_; conv => whnf)
        | refine go_true rfl ?_
        | refine go_false rfl ?_
        | refine go_cond rfl (fun h => ?_) (fun h => ?_)
        | refine ⟨rfl, ?_⟩
        | (refine ⟨trivial, ?_⟩; conv => whnf)
        | (refine ⟨le_of_ble rfl, ?_⟩; conv => whnf)
        | fail
      all_goals first
        | exact ret_imm2 rfl rfl rfl rfl rfl (by simp [dqV, hm]) (by simp [hm]) rfl
        | (exfalso; rw [hlm] at *; simp only [decide_eq_true_eq, decide_eq_false_iff_not] at *; exact hall (by omega))

theorem c11 (xs : List Visit) (hok : ∀ v ∈ xs, v.ok) (hl : xs.length ≤ 9223372036854775807) (num : Int) (_ : i64 num) (den : Int) (_ : i64 den) : CallOk Try.prog 11 [.imm (.list (xs.map Visit.enc)), .imm (.int .i64 num), .imm (.int .i64 den)] { res := [.imm (.bool true)] } := by
  refine callOk_of tyOk Try.func11 rfl rfl (le_of_ble rfl) (le_of_ble rfl) (mutOk_imm rfl _) ?_
  have hw : IntKind.i64.wrap (1048576 - (xs.length : Int)) = 1048576 - xs.length := by rw [IntKind.wrap_i64]; omega
  by_cases hs : xs.length ≤ 1048576
  · have h1 : True := trivial
    repeat' first
      | refine go_seq ?_
      | refine go_region ?_
      | (refine go_op rfl ?_; conv => whnf)
      | (refine go_nil ?_; conv => whnf)
      | (refine go_hit rfl rfl rfl ?_; conv => whnf)
      | (refine go_miss rfl rfl rfl ?_)
      | (refine go_undef rfl rfl rfl ?_)
      | (refine go_splitT rfl rfl rfl (fun h => ?_) (fun h => ?_) <;> conv => whnf)
      | (refine go_splitF rfl rfl rfl (fun h => ?_) (fun h => ?_) <;> conv => whnf)
      | (refine go_storeBox rfl rfl rfl rfl rfl rfl ?_; conv => whnf)
      | (refine go_dop rfl ?_; conv => whnf)
      | (refine go_dhit rfl rfl ?_; conv => whnf)
      | (refine go_dmiss rfl rfl ?_; conv => whnf)
      | (refine go_dundef rfl rfl ?_; conv => whnf)
      | (refine go_dend (by kernel_rfl) ?_; conv => whnf)
      | refine go_draw drawsOk ?_
      | (refine go_pickT rfl ?_; conv => whnf)
      | (refine go_pickF rfl ?_; conv => whnf)
      | (refine go_pick rfl (fun h => ?_) (fun h => ?_) <;> conv => whnf)
      | (refine go_call [] (c13 xs _) rfl rfl rfl rfl ?_; conv => whnf)
      | (refine go_call [] (c15 xs hs) rfl rfl rfl rfl ?_; conv => whnf)
      | (refine go_call [] (c34 xs num den hok hs) rfl rfl rfl rfl ?_; conv => whnf)
      | (refine go_call [] (c35 xs num den hok hs) rfl rfl rfl rfl ?_; conv => whnf)
      | (refine go_call [] (c17 xs xs hs) rfl rfl rfl rfl ?_; conv => whnf)
      | (refine go_dsplit2 rfl (fun h => ?_) (fun h => ?_) <;> conv => whnf)
      | (refine go_loadB ?_; conv => whnf)
      | (refine ⟨by kernel_rfl, ?_⟩; conv => whnf)
      | (refine go_ret ?_; conv => whnf)
      | refine go_block ?_
      | (refine go_skip ?_; conv => whnf)
      | (refine go_exit ?_; conv => whnf)
      | refine go_true rfl ?_
      | refine go_false rfl ?_
      | refine go_cond rfl (fun h => ?_) (fun h => ?_)
      | refine ⟨rfl, ?_⟩
      | (refine ⟨trivial, ?_⟩; conv => whnf)
      | (refine ⟨le_of_ble rfl, ?_⟩; conv => whnf)
      | fail
    all_goals first | exact ret_imm rfl rfl rfl rfl rfl rfl | (exfalso; simp at h; done) | (exfalso; rw [zip_self beq_self] at h; simp at h; done)
  · have h1 : True := trivial
    repeat' first
      | refine go_seq ?_
      | refine go_region ?_
      | (refine go_op rfl ?_; conv => whnf)
      | (refine go_nil ?_; conv => whnf)
      | (refine go_hit rfl rfl rfl ?_; conv => whnf)
      | (refine go_miss rfl rfl rfl ?_)
      | (refine go_undef rfl rfl rfl ?_)
      | (refine go_splitT rfl rfl rfl (fun h => ?_) (fun h => ?_) <;> conv => whnf)
      | (refine go_splitF rfl rfl rfl (fun h => ?_) (fun h => ?_) <;> conv => whnf)
      | (refine go_storeBox rfl rfl rfl rfl rfl rfl ?_; conv => whnf)
      | (refine go_dop rfl ?_; conv => whnf)
      | (refine go_dhit rfl rfl ?_; conv => whnf)
      | (refine go_dmiss rfl rfl ?_; conv => whnf)
      | (refine go_dundef rfl rfl ?_; conv => whnf)
      | (refine go_dend (by kernel_rfl) ?_; conv => whnf)
      | refine go_draw drawsOk ?_
      | (refine go_pickT rfl ?_; conv => whnf)
      | (refine go_pickF rfl ?_; conv => whnf)
      | (refine go_pick rfl (fun h => ?_) (fun h => ?_) <;> conv => whnf)
      | (refine go_call [] (c13 xs _) rfl rfl rfl rfl ?_; conv => whnf)
      | (refine go_dsplit2 rfl (fun h => ?_) (fun h => ?_) <;> conv => whnf)
      | (refine go_loadB ?_; conv => whnf)
      | (refine ⟨by kernel_rfl, ?_⟩; conv => whnf)
      | (refine go_ret ?_; conv => whnf)
      | refine go_block ?_
      | (refine go_skip ?_; conv => whnf)
      | (refine go_exit ?_; conv => whnf)
      | refine go_true rfl ?_
      | refine go_false rfl ?_
      | refine go_cond rfl (fun h => ?_) (fun h => ?_)
      | refine ⟨rfl, ?_⟩
      | (refine ⟨trivial, ?_⟩; conv => whnf)
      | (refine ⟨le_of_ble rfl, ?_⟩; conv => whnf)
      | fail
    · exact ret_imm rfl rfl rfl rfl rfl rfl
    · exfalso
      rw [hw] at h
      rw [if_pos (by omega)] at h
      simp at h
end Go.Proofs.Ytnjojepeilgikaa

