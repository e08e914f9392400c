/- Charging: the plan that charges always; the range left: both sides. -/
import Derived.Test.YtmijabfckmgaiaaFL5
namespace Go.Proofs.Ytmijabfckmgaiaa
open Go Go.Am
set_option maxRecDepth 100000
set_option maxHeartbeats 8000000
attribute [local irreducible] amOps amC opCall opIndexAddr opPick retQ opMake opStore amDraw opAppend opLoad opNilCmp opIndex opSlice

theorem alN_in {xs : List Leg} {b : Bat} {lv : Int} (hc : chgOk xs b lv = true) {i : Nat} (hi : i < xs.length) : -10000 * (i : Int) ≤ alN xs b lv i ∧ alN xs b lv i ≤ b.cap := by
  rw [← al_bf i hi]
  exact bf_in hc (alP_ok (chg_at hc).1) i hi
def caL (xs : List Leg) (b : Bat) (lv : Int) : List Int := if chgOk xs b lv then alP xs b lv else []

theorem c10 (xs : List Leg) (hl : xs.length ≤ 1048576) (b : Bat) (lv : Int) :
    CallOk Try.prog 10 [.imm (.list (xs.map Leg.enc)), .imm (.agg (batE b)), .imm (.int .i64 lv)] { res := [.imm (.list ((caL xs b lv).map intRow)), .imm (.bool (chgOk xs b lv))], sep := false } := by
  refine callOk_of tyOk Try.func10 rfl rfl (le_of_ble rfl) (le_of_ble rfl) (mutOk_imm rfl _) ?_
  have h1 := c23 xs hl b lv
  unfold caL
  cases hc : chgOk xs b lv with
  | false =>
    rw [hc] at h1
    repeat' first | refine go_seq ?_ | refine go_region ?_ | refine go_miss rfl rfl rfl ?_ | refine go_undef rfl rfl rfl ?_ | refine go_draw drawsOk ?_ | ((first | refine go_op rfl ?_ | refine go_nil ?_ | refine go_hit rfl rfl rfl ?_ | refine go_splitT rfl rfl rfl (fun h => ?_) (fun h => ?_) | refine go_splitF rfl rfl rfl (fun h => ?_) (fun h => ?_) | refine go_storeBox rfl rfl rfl rfl rfl rfl ?_ | refine go_dop rfl ?_ | refine go_dhit rfl rfl ?_ | refine go_dmiss rfl rfl ?_ | refine go_dundef rfl rfl ?_ | refine go_dend (by kernel_rfl) ?_ | refine go_pickT rfl ?_ | refine go_pickF rfl ?_ | refine go_pick rfl (fun h => ?_) (fun h => ?_) | refine go_call [] (h1) rfl rfl rfl rfl ?_) <;> conv => whnf) | ((first | refine go_dsplit2 rfl (fun h => ?_) (fun h => ?_) | refine go_loadB ?_ | refine ⟨by kernel_rfl, ?_⟩ | refine go_ret ?_) <;> conv => whnf) | refine go_block ?_ | ((first | refine go_skip ?_ | refine go_exit ?_) <;> conv => whnf) | refine go_true rfl ?_ | refine go_false rfl ?_ | refine go_cond rfl (fun h => ?_) (fun h => ?_) | refine ⟨rfl, ?_⟩ | ((first | refine ⟨trivial, ?_⟩ | refine ⟨le_of_ble rfl, ?_⟩) <;> conv => whnf) | fail
    all_goals exact ret_all rfl ⟨⟨rfl, (fun h => by cases h), by show _ ∉ ([] : List Nat); simp⟩, ⟨rfl, fun h => by cases h⟩, trivial⟩ (by show List.Nodup [_]; simp) List.nodup_nil trivial
  | true =>
    rw [hc] at h1
    rw [if_pos rfl]
    obtain ⟨hv, hbo, hlv⟩ := chg_at hc
    have hn := (legs_at hv).1
    have hbt := bat_at hbo
    have hlm : ((xs.map Leg.enc).length : Int) = xs.length := by rw [List.length_map]
    obtain ⟨N, hN⟩ : ∃ N, N + 1 = xs.length := ⟨xs.length - 1, by omega⟩
    have hN1 : xs.length - 1 = N := by omega
    have hwN : IntKind.i64.wrap (((xs.map Leg.enc).length : Int) - 1) = ((N : Nat) : Int) := by rw [hlm, wrap_small (by omega) (by omega)]; omega
    have hmk : AV.imm (.int .i64 (IntKind.i64.wrap (((xs.map Leg.enc).length : Int) - 1))) = .imm (.int .i64 ((N : Nat) : Int)) := by rw [hwN]
    repeat' first | refine go_seq ?_ | refine go_region ?_ | refine go_miss rfl rfl rfl ?_ | refine go_undef rfl rfl rfl ?_ | refine go_draw drawsOk ?_ | ((first | refine go_op rfl ?_ | refine go_nil ?_ | refine go_hit rfl rfl rfl ?_ | refine go_splitT rfl rfl rfl (fun h => ?_) (fun h => ?_) | refine go_splitF rfl rfl rfl (fun h => ?_) (fun h => ?_) | refine go_storeBox rfl rfl rfl rfl rfl rfl ?_ | refine go_dop rfl ?_ | refine go_dhit rfl rfl ?_ | refine go_dmiss rfl rfl ?_ | refine go_dundef rfl rfl ?_ | refine go_dend (by kernel_rfl) ?_ | refine go_pickT rfl ?_ | refine go_pickF rfl ?_ | refine go_pick rfl (fun h => ?_) (fun h => ?_) | refine go_call [] (h1) rfl rfl rfl rfl ?_ | refine go_makeN (i := N) rfl rfl hmk rfl rfl rfl rfl rfl rfl (by rw [hwN]; omega) (by rw [hwN]; omega) ?_) <;> conv => whnf) | ((first | refine go_dsplit2 rfl (fun h => ?_) (fun h => ?_) | refine go_loadB ?_ | refine ⟨by kernel_rfl, ?_⟩ | refine go_ret ?_) <;> conv => whnf) | refine go_block ?_ | ((first | refine go_skip ?_ | refine go_exit ?_) <;> conv => whnf) | refine go_true rfl ?_ | refine go_false rfl ?_ | refine go_cond rfl (fun h => ?_) (fun h => ?_) | refine ⟨rfl, ?_⟩ | ((first | refine ⟨trivial, ?_⟩ | refine ⟨le_of_ble rfl, ?_⟩) <;> conv => whnf) | fail
    refine go_loop (α := Nat) (fun i => i ≤ N) (fun i => N - i)
      (fun i => st Try.f10.ntmps [(0, .imm (.list (xs.map Leg.enc))), (2, .imm (.int .i64 (alN xs b lv i))), (4, .box 1001 0), (8, .own 1000 0 N), (21, .imm (.int .i64 (N : Nat))), (22, .imm (.int .i64 (i : Nat)))]
        [(1000, .arr 3 1 (fill (fun k => intRow (alM xs b lv k)) ty3.zero (List.range N) i)), (1001, .box 26 ((batE b).map .imm))] []) 0 (Nat.zero_le _) ?_ ?_
    · refine ref_st (fun i => if i = 1000 then nid 3 19 else nid 1 4) rfl ⟨rfl, rfl, ⟨rfl, rfl⟩, ⟨rfl, rfl⟩, rfl, rfl, trivial⟩ ⟨?_, ⟨rfl, wavs_imm _⟩, trivial⟩ (by simp [nid]) rfl (by simp)
      show some _ = some _
      rw [← fill_0, List.length_range]; rfl
    intro i hi
    by_cases hlast : i = N
    · subst hlast
      clear h1
      repeat' first | refine go_seq ?_ | refine go_region ?_ | refine go_miss rfl rfl rfl ?_ | refine go_undef rfl rfl rfl ?_ | refine go_draw drawsOk ?_ | ((first | refine go_op rfl ?_ | refine go_nil ?_ | refine go_hit rfl rfl rfl ?_ | refine go_splitT rfl rfl rfl (fun h => ?_) (fun h => ?_) | refine go_splitF rfl rfl rfl (fun h => ?_) (fun h => ?_) | refine go_storeBox rfl rfl rfl rfl rfl rfl ?_ | refine go_dop rfl ?_ | refine go_dhit rfl rfl ?_ | refine go_dmiss rfl rfl ?_ | refine go_dundef rfl rfl ?_ | refine go_dend (by kernel_rfl) ?_ | refine go_pickT rfl ?_ | refine go_pickF rfl ?_ | refine go_pick rfl (fun h => ?_) (fun h => ?_)) <;> conv => whnf) | ((first | refine go_dsplit2 rfl (fun h => ?_) (fun h => ?_) | refine go_loadB ?_ | refine ⟨by kernel_rfl, ?_⟩ | refine go_ret ?_) <;> conv => whnf) | refine go_block ?_ | ((first | refine go_skip ?_ | refine go_exit ?_) <;> conv => whnf) | refine go_true rfl ?_ | refine go_false rfl ?_ | refine go_cond rfl (fun h => ?_) (fun h => ?_) | refine ⟨rfl, ?_⟩ | ((first | refine ⟨trivial, ?_⟩ | refine ⟨le_of_ble rfl, ?_⟩) <;> conv => whnf) | fail
      all_goals first
        | (exfalso; simp only [decide_eq_true_eq, decide_eq_false_iff_not] at *; omega)
        | (refine ret_all rfl ⟨⟨?_, (fun h => by cases h), by show _ ∉ ([] : List Nat); simp⟩, ⟨rfl, fun h => by cases h⟩, trivial⟩ (by show List.Nodup [_]; simp) List.nodup_nil trivial
           show D.list _ = D.list _
           rw [fill_end _ _ _ (by rw [List.length_range]; omega), List.drop_zero, List.take_of_length_le (by simp)]
           unfold alP; rw [List.map_map, hN1]; rfl)
        | trace_state
    · have hiN : i < N := by omega
      have hx : xs[i]? = some xs[i] := List.getElem?_eq_getElem (by omega)
      have hr := row_at Leg.enc hx
      have hlu := legAt_of hx
      have hus := ((legs_at hv).2 i (by omega)).2.2
      rw [hlu] at hus
      have hbr := brk_at hv (i := i) (by omega)
      have hal := alN_in hc (i := i) (by omega)
      have hxr : (List.range N)[i]? = some i := List.getElem?_range hiN
      obtain ⟨lw, hlw⟩ : ∃ lw, lw = alN xs b lv i - (legAt xs i).use := ⟨_, rfl⟩
      have hwl : IntKind.i64.wrap (alN xs b lv i - xs[i].use) = lw := by rw [hlw, hlu]; exact wrap_small (by omega) (by omega)
      have hlwi : -1000000 ≤ lw ∧ lw ≤ b.cap := by rw [hlw, hlu]; omega
      have hM : alM xs b lv i = mnA b lw (brk xs i) := by unfold alM; rw [hlw]
      have hAL : alN xs b lv (i + 1) = least (lw + b.rate * alM xs b lv i) b.cap := by rw [alN, ← hlw, ← hM, Int.mul_comm b.rate]
      have hMok := mnA_ok b (l := lw) hbr.1
      rw [← hM] at hMok
      have hMm := mul_in hbt.2.2.1 hbt.2.2.2 hMok.1.1 (by omega)
      have hset : (fill (fun k => intRow (alM xs b lv k)) ty3.zero (List.range N) i).set i [D.int .i64 (alM xs b lv i)] = fill (fun k => intRow (alM xs b lv k)) ty3.zero (List.range N) (i + 1) := fill_set _ _ hxr
      have e1 : IntKind.i64.wrap ((i : Int) + 1) = ((i + 1 : Nat) : Int) := by rw [wrap_small (by omega) (by omega)]; omega
      have hB : CallOk Try.prog 31 [.imm (.list (xs.map Leg.enc)), .imm (.int .i64 (IntKind.i64.wrap ((i : Int) + 1)))] { res := [.imm (.int .i64 (brk xs i))] } := by
        rw [e1]; exact c31 xs hv i (by omega)
      have hC2 := c32 b lw (alM xs b lv i) hlwi (by omega) hbt.1.2
      rw [← hAL] at hC2
      clear h1
      repeat' first | refine go_seq ?_ | refine go_region ?_ | refine go_miss rfl rfl rfl ?_ | refine go_undef rfl rfl rfl ?_ | refine go_draw drawsOk ?_ | ((first | refine go_op rfl ?_ | refine go_nil ?_ | refine go_hit rfl rfl rfl ?_ | refine go_splitT rfl rfl rfl (fun h => ?_) (fun h => ?_) | refine go_splitF rfl rfl rfl (fun h => ?_) (fun h => ?_) | refine go_storeBox rfl rfl rfl rfl rfl rfl ?_ | refine go_dop rfl ?_ | refine go_dhit rfl rfl ?_ | refine go_dmiss rfl rfl ?_ | refine go_dundef rfl rfl ?_ | refine go_dend (by kernel_rfl) ?_ | refine go_pickT rfl ?_ | refine go_pickF rfl ?_ | refine go_pick rfl (fun h => ?_) (fun h => ?_) | refine go_idx rfl rfl rfl rfl (by omega) hr rfl ?_) <;> conv => whnf) | ((first | refine go_dsplit2 rfl (fun h => ?_) (fun h => ?_) | refine go_loadB ?_ | refine ⟨by kernel_rfl, ?_⟩ | refine go_ret ?_) <;> conv => whnf) | refine go_block ?_ | ((first | refine go_skip ?_ | refine go_exit ?_) <;> conv => whnf) | refine go_true rfl ?_ | refine go_false rfl ?_ | refine go_cond rfl (fun h => ?_) (fun h => ?_) | refine ⟨rfl, ?_⟩ | ((first | refine ⟨trivial, ?_⟩ | refine ⟨le_of_ble rfl, ?_⟩) <;> conv => whnf) | fail
      all_goals try first
        | (exfalso; simp only [decide_eq_true_eq, decide_eq_false_iff_not] at *; omega)
      obtain ⟨B, hBk⟩ := Int.eq_ofNat_of_zero_le hbr.1
      refine go_loop (α := Nat) (fun m => m ≤ B ∧ mnF b lw (brk xs i) (B - m) m = alM xs b lv i) (fun m => B - m)
        (fun m => st Try.f10.ntmps [(0, .imm (.list (xs.map Leg.enc))), (2, .imm (.int .i64 lw)), (4, .box 1001 0), (8, .own 1000 0 N), (9, .imm (.int .i64 (i : Nat))), (10, .imm (.int .i64 (m : Nat))), (21, .imm (.int .i64 (N : Nat))), (22, .imm (.int .i64 (i : Nat)))]
          [(1000, .arr 3 1 (fill (fun k => intRow (alM xs b lv k)) ty3.zero (List.range N) i)), (1001, .box 26 ((batE b).map .imm))] []) 0 ⟨Nat.zero_le _, ?_⟩ ?_ ?_
      · rw [hM, Nat.sub_zero]
        unfold mnA
        rw [show (brk xs i).toNat = B from by omega]
        rfl
      · exact ref_st id rfl ⟨rfl, congrArg (fun z => AV.imm (.int .i64 z)) hwl, ⟨rfl, rfl⟩, ⟨rfl, rfl⟩, rfl, rfl, rfl, rfl, trivial⟩ ⟨rfl, ⟨rfl, wavs_imm _⟩, trivial⟩ (by simp) rfl (by simp)
      rintro m ⟨hm, hmn⟩
      have hmm := mul_in hbt.2.2.1 hbt.2.2.2 (show 0 ≤ (m : Int) by omega) (by omega)
      have hC1 := c32 b lw (m : Int) hlwi (by omega) hbt.1.2
      by_cases hgo : (m : Int) < brk xs i ∧ lw + (m : Int) * b.rate < b.cap
      · have hlt : least (lw + b.rate * (m : Int)) b.cap = lw + b.rate * (m : Int) := by unfold least; rw [if_pos (by rw [Int.mul_comm b.rate]; exact hgo.2)]
        have hlt2 : lw + b.rate * (m : Int) < b.cap := by rw [Int.mul_comm b.rate]; exact hgo.2
        rw [hlt] at hC1
        obtain ⟨f, hf⟩ : ∃ f, B - m = f + 1 := ⟨B - m - 1, by omega⟩
        rw [hf, mnF, if_pos hgo] at hmn
        repeat' first | refine go_seq ?_ | refine go_region ?_ | refine go_miss rfl rfl rfl ?_ | refine go_undef rfl rfl rfl ?_ | refine go_draw drawsOk ?_ | ((first | refine go_op rfl ?_ | refine go_nil ?_ | refine go_hit rfl rfl rfl ?_ | refine go_splitT rfl rfl rfl (fun h => ?_) (fun h => ?_) | refine go_splitF rfl rfl rfl (fun h => ?_) (fun h => ?_) | refine go_storeBox rfl rfl rfl rfl rfl rfl ?_ | refine go_dop rfl ?_ | refine go_dhit rfl rfl ?_ | refine go_dmiss rfl rfl ?_ | refine go_dundef rfl rfl ?_ | refine go_dend (by kernel_rfl) ?_ | refine go_pickT rfl ?_ | refine go_pickF rfl ?_ | refine go_pick rfl (fun h => ?_) (fun h => ?_) | refine go_call [] (hB) rfl rfl rfl rfl ?_ | refine go_call [] (hC1) rfl rfl rfl rfl ?_) <;> conv => whnf) | ((first | refine go_dsplit2 rfl (fun h => ?_) (fun h => ?_) | refine go_loadB ?_ | refine ⟨by kernel_rfl, ?_⟩ | refine go_ret ?_) <;> conv => whnf) | refine go_block ?_ | ((first | refine go_skip ?_ | refine go_exit ?_) <;> conv => whnf) | refine go_true rfl ?_ | refine go_false rfl ?_ | refine go_cond rfl (fun h => ?_) (fun h => ?_) | refine ⟨rfl, ?_⟩ | ((first | refine ⟨trivial, ?_⟩ | refine ⟨le_of_ble rfl, ?_⟩) <;> conv => whnf) | fail
        all_goals first
          | (exfalso; simp only [decide_eq_true_eq, decide_eq_false_iff_not] at *; omega)
          | exact go_next (m + 1) ⟨by omega, by rw [show B - (m + 1) = f from by omega]; exact hmn⟩ (by omega) (ref_st id rfl ⟨rfl, rfl, ⟨rfl, rfl⟩, ⟨rfl, rfl⟩, rfl, next_i (by omega), rfl, rfl, trivial⟩ ⟨rfl, ⟨rfl, wavs_imm _⟩, trivial⟩ (by simp) rfl (by simp))
          | trace_state
      · have hfin : ((m : Nat) : Int) = alM xs b lv i := by
          rw [← hmn]
          cases hf : B - m with
          | zero => rfl
          | succ f => rw [mnF, if_neg hgo]
        have hnlt : (m : Int) < brk xs i → ¬ least (lw + b.rate * (m : Int)) b.cap < b.cap := fun h3 h4 => by
          apply hgo
          refine ⟨h3, ?_⟩
          unfold least at h4
          split at h4
          · rename_i h5; rw [Int.mul_comm b.rate] at h5; exact h5
          · omega
        rw [← hfin] at hC2 hset hAL
        rw [← hAL] at hnlt
        repeat' first | refine go_seq ?_ | refine go_region ?_ | refine go_miss rfl rfl rfl ?_ | refine go_undef rfl rfl rfl ?_ | refine go_draw drawsOk ?_ | ((first | refine go_op rfl ?_ | refine go_nil ?_ | refine go_hit rfl rfl rfl ?_ | refine go_splitT rfl rfl rfl (fun h => ?_) (fun h => ?_) | refine go_splitF rfl rfl rfl (fun h => ?_) (fun h => ?_) | refine go_storeBox rfl rfl rfl rfl rfl rfl ?_ | refine go_dop rfl ?_ | refine go_dhit rfl rfl ?_ | refine go_dmiss rfl rfl ?_ | refine go_dundef rfl rfl ?_ | refine go_dend (by kernel_rfl) ?_ | refine go_pickT rfl ?_ | refine go_pickF rfl ?_ | refine go_pick rfl (fun h => ?_) (fun h => ?_) | refine go_call [] (hB) rfl rfl rfl rfl ?_ | refine go_call [] (hC2) rfl rfl rfl rfl ?_ | refine go_idxOwn rfl rfl rfl rfl rfl rfl hiN ?_ | refine go_storeRow rfl rfl rfl rfl (fill_at _ _ hxr) rfl rfl hset ?_) <;> conv => whnf) | ((first | refine go_dsplit2 rfl (fun h => ?_) (fun h => ?_) | refine go_loadB ?_ | refine ⟨by kernel_rfl, ?_⟩ | refine go_ret ?_) <;> conv => whnf) | refine go_block ?_ | ((first | refine go_skip ?_ | refine go_exit ?_) <;> conv => whnf) | refine go_true rfl ?_ | refine go_false rfl ?_ | refine go_cond rfl (fun h => ?_) (fun h => ?_) | refine ⟨rfl, ?_⟩ | ((first | refine ⟨trivial, ?_⟩ | refine ⟨le_of_ble rfl, ?_⟩) <;> conv => whnf) | fail
        all_goals first
          | (exfalso; simp only [decide_eq_true_eq, decide_eq_false_iff_not] at *; omega)
          | (exfalso; rename_i g0; exact hnlt (of_decide_eq_true g0) (of_decide_eq_true h))
          | exact go_next (i + 1) (by omega) (by omega) (ref_st id rfl ⟨rfl, rfl, ⟨rfl, rfl⟩, ⟨rfl, rfl⟩, rfl, next_i (by omega), trivial⟩ ⟨rfl, ⟨rfl, wavs_imm _⟩, trivial⟩ (by simp) rfl (by simp))
          | trace_state

def rgOk (b : Bat) (lv per : Int) : Bool := (batOk b && inR lv 0 b.cap) && inR per 1 1000
def rgV (b : Bat) (lv per : Int) : Int := if rgOk b lv per then IntKind.i64.wrap ((if 0 < IntKind.i64.wrap (lv - b.res) then IntKind.i64.wrap (lv - b.res) else 0).tdiv per) else 0
theorem c21 (a b : Int) : CallOk Try.prog 21 [.imm (.int .i64 a), .imm (.int .i64 b)] { res := [.imm (.int .i64 (if b < a then a else b))] } := by
  refine callOk_of tyOk Try.func21 rfl rfl (le_of_ble rfl) (le_of_ble rfl) (mutOk_imm rfl _) ?_
  by_cases h1 : b < a
  · rw [if_pos h1]
    repeat' first | refine go_seq ?_ | refine go_region ?_ | ((first | refine go_op rfl ?_ | refine go_nil ?_) <;> conv => whnf) | ((first | refine ⟨by kernel_rfl, ?_⟩ | refine go_ret ?_) <;> conv => whnf) | ((first | refine go_skip ?_) <;> conv => whnf) | refine go_true rfl ?_ | refine go_false rfl ?_ | refine go_cond rfl (fun h => ?_) (fun h => ?_) | refine ⟨rfl, ?_⟩ | ((first | refine ⟨trivial, ?_⟩ | refine ⟨le_of_ble rfl, ?_⟩) <;> conv => whnf) | fail
    all_goals first
      | exact ret_imm rfl rfl rfl rfl rfl rfl
      | (exfalso; simp at h; omega)
  · rw [if_neg h1]
    repeat' first | refine go_seq ?_ | refine go_region ?_ | ((first | refine go_op rfl ?_ | refine go_nil ?_) <;> conv => whnf) | ((first | refine ⟨by kernel_rfl, ?_⟩ | refine go_ret ?_) <;> conv => whnf) | ((first | refine go_skip ?_) <;> conv => whnf) | refine go_true rfl ?_ | refine go_false rfl ?_ | refine go_cond rfl (fun h => ?_) (fun h => ?_) | refine ⟨rfl, ?_⟩ | ((first | refine ⟨trivial, ?_⟩ | refine ⟨le_of_ble rfl, ?_⟩) <;> conv => whnf) | fail
    all_goals first
      | exact ret_imm rfl rfl rfl rfl rfl rfl
      | (exfalso; simp at h; omega)
theorem c16 (b : Bat) (lv per : Int) : CallOk Try.prog 16 [.imm (.agg (batE b)), .imm (.int .i64 lv), .imm (.int .i64 per)] { res := [.imm (.int .i64 (rgV b lv per)), .imm (.bool (rgOk b lv per))] } := by
  refine callOk_of tyOk Try.func16 rfl rfl (le_of_ble rfl) (le_of_ble rfl) (mutOk_imm rfl _) ?_
  have h1 := c37 b
  have h2 := c33 lv 0 b.cap
  have h3 := c33 per 1 1000
  unfold rgV rgOk
  cases e1 : batOk b <;> cases e2 : inR lv 0 b.cap <;> cases e3 : inR per 1 1000
  all_goals
    rw [e1] at h1
    rw [e2] at h2
    rw [e3] at h3
    by_cases hp : per ≠ 0
    · skip
      repeat' first | refine go_seq ?_ | refine go_region ?_ | refine go_miss rfl rfl rfl ?_ | refine go_undef rfl rfl rfl ?_ | ((first | refine go_op rfl ?_ | refine go_nil ?_ | refine go_hit rfl rfl rfl ?_ | refine go_splitT rfl rfl rfl (fun h => ?_) (fun h => ?_) | refine go_splitF rfl rfl rfl (fun h => ?_) (fun h => ?_) | refine go_pickT rfl ?_ | refine go_pickF rfl ?_ | refine go_pick rfl (fun h => ?_) (fun h => ?_) | refine go_call [] (h1) rfl rfl rfl rfl ?_ | refine go_call [] (h2) rfl rfl rfl rfl ?_ | refine go_call [] (h3) rfl rfl rfl rfl ?_ | refine ⟨hp, ?_⟩) <;> conv => whnf) | ((first | refine go_loadB ?_ | refine ⟨by kernel_rfl, ?_⟩ | refine go_ret ?_) <;> conv => whnf) | ((first | refine go_skip ?_) <;> conv => whnf) | refine go_true rfl ?_ | refine go_false rfl ?_ | refine go_cond rfl (fun h => ?_) (fun h => ?_) | refine ⟨rfl, ?_⟩ | ((first | refine ⟨trivial, ?_⟩ | refine ⟨le_of_ble rfl, ?_⟩) <;> conv => whnf) | fail
      all_goals exact ret_imm2 rfl rfl rfl rfl rfl rfl rfl rfl
    · have hp0 : per = 0 := by omega
      subst hp0
      first
        | (exfalso; revert e3; decide)
        | skip
      all_goals
        repeat' first | refine go_seq ?_ | refine go_region ?_ | refine go_miss rfl rfl rfl ?_ | refine go_undef rfl rfl rfl ?_ | ((first | refine go_op rfl ?_ | refine go_nil ?_ | refine go_hit rfl rfl rfl ?_ | refine go_splitT rfl rfl rfl (fun h => ?_) (fun h => ?_) | refine go_splitF rfl rfl rfl (fun h => ?_) (fun h => ?_) | refine go_pickT rfl ?_ | refine go_pickF rfl ?_ | refine go_pick rfl (fun h => ?_) (fun h => ?_) | refine go_call [] (h1) rfl rfl rfl rfl ?_ | refine go_call [] (h2) rfl rfl rfl rfl ?_ | refine go_call [] (h3) rfl rfl rfl rfl ?_) <;> conv => whnf) | ((first | refine go_loadB ?_ | refine ⟨by kernel_rfl, ?_⟩ | refine go_ret ?_) <;> conv => whnf) | ((first | refine go_skip ?_) <;> conv => whnf) | refine go_true rfl ?_ | refine go_false rfl ?_ | refine go_cond rfl (fun h => ?_) (fun h => ?_) | refine ⟨rfl, ?_⟩ | ((first | refine ⟨trivial, ?_⟩ | refine ⟨le_of_ble rfl, ?_⟩) <;> conv => whnf) | fail
        all_goals exact ret_imm2 rfl rfl rfl rfl rfl rfl rfl rfl
theorem c17 (b : Bat) (lv per : Int) : CallOk Try.prog 17 [.imm (.agg (batE b)), .imm (.int .i64 lv), .imm (.int .i64 per)] { res := [.imm (.int .i64 (rgV b lv per)), .imm (.bool (rgOk b lv per))] } := by
  refine callOk_of tyOk Try.func17 rfl rfl (le_of_ble rfl) (le_of_ble rfl) (mutOk_imm rfl _) ?_
  have h1 := c27 b lv
  have h3 := c38 per 1 1000
  have h4 := c21 (IntKind.i64.wrap (lv - b.res)) 0
  unfold rgV rgOk
  cases e1 : (batOk b && inR lv 0 b.cap) with
  | false =>
    rw [e1] at h1
    repeat' first | refine go_seq ?_ | refine go_region ?_ | refine go_miss rfl rfl rfl ?_ | refine go_undef rfl rfl rfl ?_ | ((first | refine go_op rfl ?_ | refine go_nil ?_ | refine go_hit rfl rfl rfl ?_ | refine go_splitT rfl rfl rfl (fun h => ?_) (fun h => ?_) | refine go_splitF rfl rfl rfl (fun h => ?_) (fun h => ?_) | refine go_pickT rfl ?_ | refine go_pickF rfl ?_ | refine go_pick rfl (fun h => ?_) (fun h => ?_) | refine go_call [] (h1) rfl rfl rfl rfl ?_ | refine go_call [] (h3) rfl rfl rfl rfl ?_) <;> conv => whnf) | ((first | refine go_loadB ?_ | refine ⟨by kernel_rfl, ?_⟩ | refine go_ret ?_) <;> conv => whnf) | ((first | refine go_skip ?_) <;> conv => whnf) | refine go_true rfl ?_ | refine go_false rfl ?_ | refine go_cond rfl (fun h => ?_) (fun h => ?_) | refine ⟨rfl, ?_⟩ | ((first | refine ⟨trivial, ?_⟩ | refine ⟨le_of_ble rfl, ?_⟩) <;> conv => whnf) | fail
    all_goals exact ret_imm2 rfl rfl rfl rfl rfl rfl rfl rfl
  | true =>
    rw [e1] at h1
    cases e3 : inR per 1 1000 with
    | false =>
      rw [e3] at h3
      repeat' first | refine go_seq ?_ | refine go_region ?_ | refine go_miss rfl rfl rfl ?_ | refine go_undef rfl rfl rfl ?_ | ((first | refine go_op rfl ?_ | refine go_nil ?_ | refine go_hit rfl rfl rfl ?_ | refine go_splitT rfl rfl rfl (fun h => ?_) (fun h => ?_) | refine go_splitF rfl rfl rfl (fun h => ?_) (fun h => ?_) | refine go_pickT rfl ?_ | refine go_pickF rfl ?_ | refine go_pick rfl (fun h => ?_) (fun h => ?_) | refine go_call [] (h1) rfl rfl rfl rfl ?_ | refine go_call [] (h3) rfl rfl rfl rfl ?_) <;> conv => whnf) | ((first | refine go_loadB ?_ | refine ⟨by kernel_rfl, ?_⟩ | refine go_ret ?_) <;> conv => whnf) | ((first | refine go_skip ?_) <;> conv => whnf) | refine go_true rfl ?_ | refine go_false rfl ?_ | refine go_cond rfl (fun h => ?_) (fun h => ?_) | refine ⟨rfl, ?_⟩ | ((first | refine ⟨trivial, ?_⟩ | refine ⟨le_of_ble rfl, ?_⟩) <;> conv => whnf) | fail
      all_goals exact ret_imm2 rfl rfl rfl rfl rfl rfl rfl rfl
    | true =>
      rw [e3] at h3
      have hp : per ≠ 0 := by rw [inR_iff] at e3; omega
      rw [Bool.and_self, if_pos rfl]
      repeat' first | refine go_seq ?_ | refine go_region ?_ | refine go_miss rfl rfl rfl ?_ | refine go_undef rfl rfl rfl ?_ | ((first | refine go_op rfl ?_ | refine go_nil ?_ | refine go_hit rfl rfl rfl ?_ | refine go_splitT rfl rfl rfl (fun h => ?_) (fun h => ?_) | refine go_splitF rfl rfl rfl (fun h => ?_) (fun h => ?_) | refine go_pickT rfl ?_ | refine go_pickF rfl ?_ | refine go_pick rfl (fun h => ?_) (fun h => ?_) | refine go_call [] (h1) rfl rfl rfl rfl ?_ | refine go_call [] (h3) rfl rfl rfl rfl ?_ | refine go_call [] (h4) rfl rfl rfl rfl ?_ | refine ⟨hp, ?_⟩) <;> conv => whnf) | ((first | refine go_loadB ?_ | refine ⟨by kernel_rfl, ?_⟩ | refine go_ret ?_) <;> conv => whnf) | ((first | refine go_skip ?_) <;> conv => whnf) | refine go_true rfl ?_ | refine go_false rfl ?_ | refine go_cond rfl (fun h => ?_) (fun h => ?_) | refine ⟨rfl, ?_⟩ | ((first | refine ⟨trivial, ?_⟩ | refine ⟨le_of_ble rfl, ?_⟩) <;> conv => whnf) | fail
      all_goals exact ret_imm2 rfl rfl rfl rfl rfl rfl rfl rfl
end Go.Proofs.Ytmijabfckmgaiaa

