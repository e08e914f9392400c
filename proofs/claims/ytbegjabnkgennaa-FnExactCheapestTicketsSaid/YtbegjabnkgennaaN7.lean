/- The copies of prices that the laws hand out, and the marks that they set in them. MADE BY PROGRAM (reg.py). -/
import Derived.Test.YtbegjabnkgennaaAmR
import Derived.Test.YtbegjabnkgennaaN1
namespace Go.Proofs.Ytbegjabnkgennaa
open Go Go.Am
set_option maxRecDepth 100000
set_option maxHeartbeats 4000000
attribute [local irreducible] amOps amC opCall opIndexAddr opPick retQ opMake opStore amDraw opAppend opLoad opNilCmp opIndex opSlice

theorem r24 (xs : List Int) (hl : xs.length ≤ 1048576) : CallOk Try.prog 24 [.reg true (.list (xs.map intRow))] { res := [.imm (.list (xs.map intRow))], muts := [.reg true], sep := false } := by
  refine callOk_of tyOk Try.func24 rfl rfl (le_of_ble rfl) (le_of_ble rfl) (mutOk_reg0 rfl) ?_
  repeat' first | refine go_seq ?_ | refine go_region ?_ | ((first | refine go_op rfl ?_ | refine go_nil ?_ | refine go_storeBox rfl rfl rfl rfl rfl rfl ?_ | refine go_makeN rfl rfl rfl rfl rfl rfl rfl rfl rfl (by omega) (by simp; omega) ?_) <;> conv => whnf) | ((first | refine go_loadB ?_ | refine ⟨by kernel_rfl, ?_⟩ | refine go_ret ?_) <;> conv => whnf) | refine go_block ?_ | ((first | refine go_skip ?_ | refine go_exit ?_) <;> conv => whnf) | refine go_true rfl ?_ | refine go_false rfl ?_ | refine go_cond rfl (fun h => ?_) (fun h => ?_) | refine ⟨rfl, ?_⟩ | ((first | refine ⟨trivial, ?_⟩ | refine ⟨le_of_ble rfl, ?_⟩) <;> conv => whnf) | fail
  refine go_loop (α := Nat) (fun i => i ≤ xs.length) (fun i => xs.length - i)
    (fun i => st Try.f24.ntmps [(0, .tv 1001 (.list (xs.map intRow))), (3, .own 1000 0 (xs.map intRow).length), (4, .imm (.int .i64 (i : Nat)))] [(1000, .arr 3 1 (fill intRow ty3.zero xs i)), (1001, .reg true)] [1001]) 0 (Nat.zero_le _) ?_ ?_
  · refine ref_st (fun x => if x = 1000 then nid 2 7 else 0) rfl ⟨⟨rfl, rfl⟩, ⟨rfl, rfl⟩, rfl, trivial⟩ ⟨?_, rfl, trivial⟩ (by simp [nid]) rfl (by simp [lookM])
    show some _ = some _
    rw [← fill_0, List.length_map]
    rfl
  · intro i hi
    cases hx : xs[i]? with
    | none =>
      have hge := le_of_at hx
      repeat' first | refine go_seq ?_ | refine go_region ?_ | ((first | refine go_op rfl ?_ | refine go_nil ?_ | refine go_storeBox rfl rfl rfl rfl rfl rfl ?_) <;> conv => whnf) | ((first | refine go_loadB ?_ | refine ⟨by kernel_rfl, ?_⟩ | refine go_ret ?_) <;> conv => whnf) | refine go_block ?_ | ((first | refine go_skip ?_ | refine go_exit ?_) <;> conv => whnf) | refine go_true rfl ?_ | refine go_false rfl ?_ | refine go_cond rfl (fun h => ?_) (fun h => ?_) | refine ⟨rfl, ?_⟩ | ((first | refine ⟨trivial, ?_⟩ | refine ⟨le_of_ble rfl, ?_⟩) <;> conv => whnf) | fail
      · exfalso; simp at *; omega
      · exact ret_regO rfl rfl rfl rfl rfl rfl (by rw [fill_end _ _ _ hge]; simp [List.take_of_length_le]) rfl
    | some v =>
      have hlt := lt_of_at hx
      have hr := row_at intRow hx
      repeat' first | refine go_seq ?_ | refine go_region ?_ | ((first | refine go_op rfl ?_ | refine go_nil ?_ | refine go_storeBox rfl rfl rfl rfl rfl rfl ?_ | refine go_tvIdx rfl rfl rfl rfl rfl (by omega) hr rfl ?_ | refine go_idxOwn rfl rfl rfl rfl rfl rfl (by simp; omega) ?_ | refine go_storeRow rfl rfl rfl rfl (fill_at _ _ hx) rfl rfl (fill_set _ _ hx) ?_) <;> conv => whnf) | ((first | refine go_loadB ?_ | refine ⟨by kernel_rfl, ?_⟩ | refine go_ret ?_) <;> conv => whnf) | refine go_block ?_ | ((first | refine go_skip ?_ | refine go_exit ?_) <;> conv => whnf) | refine go_true rfl ?_ | refine go_false rfl ?_ | refine go_cond rfl (fun h => ?_) (fun h => ?_) | refine ⟨rfl, ?_⟩ | ((first | refine ⟨trivial, ?_⟩ | refine ⟨le_of_ble rfl, ?_⟩) <;> conv => whnf) | fail
      · exact go_next (i + 1) (by omega) (by omega) (ref_st id rfl ⟨⟨rfl, rfl⟩, ⟨rfl, rfl⟩, next_i (by omega), trivial⟩ ⟨rfl, rfl, trivial⟩ (by simp) rfl (by simp [lookM]))
      · exfalso; simp at *; omega

def cntIntS (xs : List Int) : Nat := 1 * xs.length
theorem cntIntS_take {xs : List Int} {i : Nat} {v : Int} (h : xs[i]? = some v) : cntIntS (xs.take (i + 1)) = cntIntS (xs.take i) + 1 := by
  have := lt_of_at h
  simp only [cntIntS, List.length_take]
  omega

theorem cntIntS_le {xs : List Int} (hl : xs.length ≤ 1048576) : cntIntS xs ≤ 1048576 := by unfold cntIntS; omega

theorem cntIntS_end {xs : List Int} {i : Nat} (h : xs.length ≤ i) : cntIntS (xs.take i) = cntIntS xs := by rw [List.take_of_length_le h]
theorem cntIntS_mono {xs : List Int} (i : Nat) : cntIntS (xs.take i) ≤ cntIntS xs := by
  simp only [cntIntS, List.length_take]; omega

theorem k15 (xs : List Int) (hl : xs.length ≤ 1048576) (k : Int) (hk0 : 0 ≤ k) (hk1 : k + (cntIntS xs : Nat) ≤ 1152921504606846976) : CallOk Try.prog 15 [.reg false (.list (xs.map intRow)), .imm (.int .i64 k)]
    { res := [.imm (.int .i64 (k + (cntIntS xs : Nat)))], muts := [.reg false] } := by
  refine callOk_of tyOk Try.func15 rfl rfl (le_of_ble rfl) (le_of_ble rfl) (mutOk_reg0 rfl) ?_
  repeat' first | refine go_seq ?_ | refine go_region ?_ | ((first | refine go_op rfl ?_ | refine go_nil ?_ | refine go_storeBox rfl rfl rfl rfl rfl rfl ?_) <;> conv => whnf) | ((first | refine ⟨by kernel_rfl, ?_⟩ | refine go_ret ?_) <;> conv => whnf) | refine go_block ?_ | ((first | refine go_skip ?_ | refine go_exit ?_) <;> conv => whnf) | refine go_true rfl ?_ | refine go_false rfl ?_ | refine go_cond rfl (fun h => ?_) (fun h => ?_) | refine ⟨rfl, ?_⟩ | ((first | refine ⟨trivial, ?_⟩ | refine ⟨le_of_ble rfl, ?_⟩) <;> conv => whnf) | fail
  refine go_loop (α := Nat) (fun i => i ≤ xs.length) (fun i => xs.length - i)
    (fun i => st Try.f15.ntmps [(0, .tv 1000 (.list (xs.map intRow))), (1, .imm (.int .i64 (k + (cntIntS (xs.take i) : Nat)))), (5, .imm (.int .i64 (i : Nat)))] [(1000, .reg false)] [1000]) 0 (Nat.zero_le _) ?_ ?_
  · refine ref_st (fun _ => 0) rfl ⟨⟨rfl, rfl⟩, ?_, rfl, trivial⟩ ⟨rfl, trivial⟩ (by simp) rfl (by simp [lookM])
    show AV.imm (D.int _ _) = _
    simp [cntIntS]
  · intro i hi
    cases hx : xs[i]? with
    | none =>
      have hge := le_of_at hx
      rw [cntIntS_end hge]
      repeat' first | refine go_seq ?_ | refine go_region ?_ | ((first | refine go_op rfl ?_ | refine go_nil ?_ | refine go_storeBox rfl rfl rfl rfl rfl rfl ?_) <;> conv => whnf) | ((first | refine ⟨by kernel_rfl, ?_⟩ | refine go_ret ?_) <;> conv => whnf) | refine go_block ?_ | ((first | refine go_skip ?_ | refine go_exit ?_) <;> conv => whnf) | refine go_true rfl ?_ | refine go_false rfl ?_ | refine go_cond rfl (fun h => ?_) (fun h => ?_) | refine ⟨rfl, ?_⟩ | ((first | refine ⟨trivial, ?_⟩ | refine ⟨le_of_ble rfl, ?_⟩) <;> conv => whnf) | fail
      · exfalso; simp at *; omega
      · exact ret_regI rfl rfl rfl rfl rfl (fun _ => rfl) rfl
    | some v =>
      have hlt := lt_of_at hx
      have hr := row_at intRow hx
      have htk := cntIntS_take hx
      have hmo := cntIntS_mono (xs := xs) (i + 1)
      have hw0 : IntKind.i64.wrap ((k + (cntIntS (xs.take i) : Nat)) + 1) = (k + (cntIntS (xs.take i) : Nat)) + 1 := wrap_small (by omega) (by omega)
      repeat' first | refine go_seq ?_ | refine go_region ?_ | ((first | refine go_op rfl ?_ | refine go_nil ?_ | refine go_storeBox rfl rfl rfl rfl rfl rfl ?_ | refine go_tvIdx rfl rfl rfl rfl rfl (by omega) hr rfl ?_ | refine go_tvStore rfl rfl rfl rfl rfl rfl rfl ?_) <;> conv => whnf) | ((first | refine ⟨by kernel_rfl, ?_⟩ | refine go_ret ?_) <;> conv => whnf) | refine go_block ?_ | ((first | refine go_skip ?_ | refine go_exit ?_) <;> conv => whnf) | refine go_true rfl ?_ | refine go_false rfl ?_ | refine go_cond rfl (fun h => ?_) (fun h => ?_) | refine ⟨rfl, ?_⟩ | ((first | refine ⟨trivial, ?_⟩ | refine ⟨le_of_ble rfl, ?_⟩) <;> conv => whnf) | fail
      · refine go_next (i + 1) (by omega) (by omega) (ref_st id rfl ⟨⟨rfl, rfl⟩, ?_, next_i (by omega), trivial⟩ ⟨rfl, trivial⟩ (by simp) rfl (by simp [lookM]))
        show AV.imm (D.int _ _) = AV.imm (D.int _ _)
        congr 2
        rw [hw0]
        rw [htk]
        omega
      · exfalso; simp at *; omega

theorem r7 (v : Prices) (hf : v.fit) : CallOk Try.prog 7 [.reg true (.agg v.enc)] { res := [.imm (.agg v.enc)], muts := [.reg true], sep := false } := by
  refine callOk_of tyOk Try.func7 rfl rfl (le_of_ble rfl) (le_of_ble rfl) (mutOk_reg0 rfl) ?_
  have k_zones := hf
  repeat' first | refine go_seq ?_ | refine go_region ?_ | ((first | refine go_op rfl ?_ | refine go_nil ?_ | refine go_storeBox rfl rfl rfl rfl rfl rfl ?_ | refine go_call [2] (r24 v.zones k_zones) rfl rfl rfl rfl ?_) <;> conv => whnf) | ((first | refine go_loadB ?_ | refine ⟨by kernel_rfl, ?_⟩ | refine go_ret ?_) <;> conv => whnf) | ((first | refine go_skip ?_) <;> conv => whnf) | refine ⟨rfl, ?_⟩ | ((first | refine ⟨trivial, ?_⟩ | refine ⟨le_of_ble rfl, ?_⟩) <;> conv => whnf) | fail
  all_goals exact ret_regI rfl rfl rfl rfl rfl (fun e => by cases e) rfl

def cntPrices (v : Prices) : Nat := cntIntS v.zones

theorem k13 (v : Prices) (hf : v.fit) (k : Int) (hk0 : 0 ≤ k) (hk1 : k + (cntPrices v : Nat) ≤ 1152921504606846976) : CallOk Try.prog 13 [.reg false (.agg v.enc), .imm (.int .i64 k)] { res := [.imm (.int .i64 (k + (cntPrices v : Nat)))], muts := [.reg false] } := by
  refine callOk_of tyOk Try.func13 rfl rfl (le_of_ble rfl) (le_of_ble rfl) (mutOk_reg0 rfl) ?_
  have k_zones := hf
  have hm0 := k15 v.zones k_zones k (by omega) (by simp only [cntPrices] at hk1; omega)
  repeat' first | refine go_seq ?_ | refine go_region ?_ | ((first | refine go_op rfl ?_ | refine go_nil ?_ | refine go_call [2] (hm0) rfl rfl rfl rfl ?_) <;> conv => whnf) | ((first | refine go_loadB ?_ | refine ⟨by kernel_rfl, ?_⟩ | refine go_ret ?_) <;> conv => whnf) | ((first | refine go_skip ?_) <;> conv => whnf) | refine ⟨rfl, ?_⟩ | ((first | refine ⟨trivial, ?_⟩ | refine ⟨le_of_ble rfl, ?_⟩) <;> conv => whnf) | fail
  all_goals
    refine ret_regI rfl rfl rfl rfl ?_ (fun _ => rfl) rfl
    congr 1

theorem cntPrices_le {v : Prices} (hf : v.fit) : cntPrices v ≤ 1048576 := by
  have k_zones := hf
  have := cntIntS_le k_zones
  simp only [cntPrices]
  omega

theorem g7 (v : Prices) (hf : v.fit) : CallOk Try.prog 7 [.imm (.agg v.enc)] { res := [.reg (.agg v.enc)] } := callOk_copy rfl (r7 v hf)

end Go.Proofs.Ytbegjabnkgennaa

