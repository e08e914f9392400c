/- The copies of timetables that the laws hand out, and the marks that they set in them. MADE BY PROGRAM (reg.py). -/
import Derived.Test.YtfjphbjbobojbaaAmR
import Derived.Test.YtfjphbjbobojbaaN4
import Derived.Test.YtfjphbjbobojbaaMT
namespace Go.Proofs.Ytfjphbjbobojbaa
open Go Go.Am
set_option maxRecDepth 100000
set_option maxHeartbeats 4000000
attribute [local irreducible] amOps amC opCall opIndexAddr opPick retQ opMake opStore amDraw opAppend opLoad opNilCmp opIndex opSlice

theorem r90 (xs : List Int) (hl : xs.length ≤ 1048576) : CallOk Try.prog 90 [.reg true (.list (xs.map intRow))] { res := [.imm (.list (xs.map intRow))], muts := [.reg true], sep := false } := by
  refine callOk_of tyOk Try.func90 rfl rfl (le_of_ble rfl) (le_of_ble rfl) (mutOk_reg0 rfl) ?_
  repeat' first | refine go_seq ?_ | refine go_region ?_ | ((first | refine go_op rfl ?_ | refine go_nil ?_ | refine go_storeBox rfl rfl rfl rfl rfl rfl ?_ | refine go_makeN rfl rfl rfl rfl rfl rfl rfl rfl rfl (by omega) (by simp; omega) ?_) <;> conv => whnf) | ((first | refine go_loadB ?_ | refine ⟨by kernel_rfl, ?_⟩ | refine go_ret ?_) <;> conv => whnf) | refine go_block ?_ | ((first | refine go_skip ?_ | refine go_exit ?_) <;> conv => whnf) | refine go_true rfl ?_ | refine go_false rfl ?_ | refine go_cond rfl (fun h => ?_) (fun h => ?_) | refine ⟨rfl, ?_⟩ | ((first | refine ⟨trivial, ?_⟩ | refine ⟨le_of_ble rfl, ?_⟩) <;> conv => whnf) | fail
  refine go_loop (α := Nat) (fun i => i ≤ xs.length) (fun i => xs.length - i)
    (fun i => st Try.f90.ntmps [(0, .tv 1001 (.list (xs.map intRow))), (3, .own 1000 0 (xs.map intRow).length), (4, .imm (.int .i64 (i : Nat)))] [(1000, .arr 3 1 (fill intRow ty3.zero xs i)), (1001, .reg true)] [1001]) 0 (Nat.zero_le _) ?_ ?_
  · refine ref_st (fun x => if x = 1000 then nid 2 7 else 0) rfl ⟨⟨rfl, rfl⟩, ⟨rfl, rfl⟩, rfl, trivial⟩ ⟨?_, rfl, trivial⟩ (by simp [nid]) rfl (by simp [lookM])
    show some _ = some _
    rw [← fill_0, List.length_map]
    rfl
  · intro i hi
    cases hx : xs[i]? with
    | none =>
      have hge := le_of_at hx
      repeat' first | refine go_seq ?_ | refine go_region ?_ | ((first | refine go_op rfl ?_ | refine go_nil ?_ | refine go_storeBox rfl rfl rfl rfl rfl rfl ?_) <;> conv => whnf) | ((first | refine go_loadB ?_ | refine ⟨by kernel_rfl, ?_⟩ | refine go_ret ?_) <;> conv => whnf) | refine go_block ?_ | ((first | refine go_skip ?_ | refine go_exit ?_) <;> conv => whnf) | refine go_true rfl ?_ | refine go_false rfl ?_ | refine go_cond rfl (fun h => ?_) (fun h => ?_) | refine ⟨rfl, ?_⟩ | ((first | refine ⟨trivial, ?_⟩ | refine ⟨le_of_ble rfl, ?_⟩) <;> conv => whnf) | fail
      · exfalso; simp at *; omega
      · exact ret_regO rfl rfl rfl rfl rfl rfl (by rw [fill_end _ _ _ hge]; simp [List.take_of_length_le]) rfl
    | some v =>
      have hlt := lt_of_at hx
      have hr := row_at intRow hx
      repeat' first | refine go_seq ?_ | refine go_region ?_ | ((first | refine go_op rfl ?_ | refine go_nil ?_ | refine go_storeBox rfl rfl rfl rfl rfl rfl ?_ | refine go_tvIdx rfl rfl rfl rfl rfl (by omega) hr rfl ?_ | refine go_idxOwn rfl rfl rfl rfl rfl rfl (by simp; omega) ?_ | refine go_storeRow rfl rfl rfl rfl (fill_at _ _ hx) rfl rfl (fill_set _ _ hx) ?_) <;> conv => whnf) | ((first | refine go_loadB ?_ | refine ⟨by kernel_rfl, ?_⟩ | refine go_ret ?_) <;> conv => whnf) | refine go_block ?_ | ((first | refine go_skip ?_ | refine go_exit ?_) <;> conv => whnf) | refine go_true rfl ?_ | refine go_false rfl ?_ | refine go_cond rfl (fun h => ?_) (fun h => ?_) | refine ⟨rfl, ?_⟩ | ((first | refine ⟨trivial, ?_⟩ | refine ⟨le_of_ble rfl, ?_⟩) <;> conv => whnf) | fail
      · exact go_next (i + 1) (by omega) (by omega) (ref_st id rfl ⟨⟨rfl, rfl⟩, ⟨rfl, rfl⟩, next_i (by omega), trivial⟩ ⟨rfl, rfl, trivial⟩ (by simp) rfl (by simp [lookM]))
      · exfalso; simp at *; omega

def cntIntS (xs : List Int) : Nat := 1 * xs.length
theorem cntIntS_take {xs : List Int} {i : Nat} {v : Int} (h : xs[i]? = some v) : cntIntS (xs.take (i + 1)) = cntIntS (xs.take i) + 1 := by
  have := lt_of_at h
  simp only [cntIntS, List.length_take]
  omega

theorem cntIntS_end {xs : List Int} {i : Nat} (h : xs.length ≤ i) : cntIntS (xs.take i) = cntIntS xs := by rw [List.take_of_length_le h]
theorem cntIntS_mono {xs : List Int} (i : Nat) : cntIntS (xs.take i) ≤ cntIntS xs := by
  simp only [cntIntS, List.length_take]; omega

theorem k83 (xs : List Int) (hl : xs.length ≤ 1048576) (k : Int) (hk0 : 0 ≤ k) (hk1 : k + (cntIntS xs : Nat) ≤ 1152921504606846976) : CallOk Try.prog 83 [.reg false (.list (xs.map intRow)), .imm (.int .i64 k)]
    { res := [.imm (.int .i64 (k + (cntIntS xs : Nat)))], muts := [.reg false] } := by
  refine callOk_of tyOk Try.func83 rfl rfl (le_of_ble rfl) (le_of_ble rfl) (mutOk_reg0 rfl) ?_
  repeat' first | refine go_seq ?_ | refine go_region ?_ | ((first | refine go_op rfl ?_ | refine go_nil ?_ | refine go_storeBox rfl rfl rfl rfl rfl rfl ?_) <;> conv => whnf) | ((first | refine ⟨by kernel_rfl, ?_⟩ | refine go_ret ?_) <;> conv => whnf) | refine go_block ?_ | ((first | refine go_skip ?_ | refine go_exit ?_) <;> conv => whnf) | refine go_true rfl ?_ | refine go_false rfl ?_ | refine go_cond rfl (fun h => ?_) (fun h => ?_) | refine ⟨rfl, ?_⟩ | ((first | refine ⟨trivial, ?_⟩ | refine ⟨le_of_ble rfl, ?_⟩) <;> conv => whnf) | fail
  refine go_loop (α := Nat) (fun i => i ≤ xs.length) (fun i => xs.length - i)
    (fun i => st Try.f83.ntmps [(0, .tv 1000 (.list (xs.map intRow))), (1, .imm (.int .i64 (k + (cntIntS (xs.take i) : Nat)))), (5, .imm (.int .i64 (i : Nat)))] [(1000, .reg false)] [1000]) 0 (Nat.zero_le _) ?_ ?_
  · refine ref_st (fun _ => 0) rfl ⟨⟨rfl, rfl⟩, ?_, rfl, trivial⟩ ⟨rfl, trivial⟩ (by simp) rfl (by simp [lookM])
    show AV.imm (D.int _ _) = _
    simp [cntIntS]
  · intro i hi
    cases hx : xs[i]? with
    | none =>
      have hge := le_of_at hx
      rw [cntIntS_end hge]
      repeat' first | refine go_seq ?_ | refine go_region ?_ | ((first | refine go_op rfl ?_ | refine go_nil ?_ | refine go_storeBox rfl rfl rfl rfl rfl rfl ?_) <;> conv => whnf) | ((first | refine ⟨by kernel_rfl, ?_⟩ | refine go_ret ?_) <;> conv => whnf) | refine go_block ?_ | ((first | refine go_skip ?_ | refine go_exit ?_) <;> conv => whnf) | refine go_true rfl ?_ | refine go_false rfl ?_ | refine go_cond rfl (fun h => ?_) (fun h => ?_) | refine ⟨rfl, ?_⟩ | ((first | refine ⟨trivial, ?_⟩ | refine ⟨le_of_ble rfl, ?_⟩) <;> conv => whnf) | fail
      · exfalso; simp at *; omega
      · exact ret_regI rfl rfl rfl rfl rfl (fun _ => rfl) rfl
    | some v =>
      have hlt := lt_of_at hx
      have hr := row_at intRow hx
      have htk := cntIntS_take hx
      have hmo := cntIntS_mono (xs := xs) (i + 1)
      have hw0 : IntKind.i64.wrap ((k + (cntIntS (xs.take i) : Nat)) + 1) = (k + (cntIntS (xs.take i) : Nat)) + 1 := wrap_small (by omega) (by omega)
      repeat' first | refine go_seq ?_ | refine go_region ?_ | ((first | refine go_op rfl ?_ | refine go_nil ?_ | refine go_storeBox rfl rfl rfl rfl rfl rfl ?_ | refine go_tvIdx rfl rfl rfl rfl rfl (by omega) hr rfl ?_ | refine go_tvStore rfl rfl rfl rfl rfl rfl rfl ?_) <;> conv => whnf) | ((first | refine ⟨by kernel_rfl, ?_⟩ | refine go_ret ?_) <;> conv => whnf) | refine go_block ?_ | ((first | refine go_skip ?_ | refine go_exit ?_) <;> conv => whnf) | refine go_true rfl ?_ | refine go_false rfl ?_ | refine go_cond rfl (fun h => ?_) (fun h => ?_) | refine ⟨rfl, ?_⟩ | ((first | refine ⟨trivial, ?_⟩ | refine ⟨le_of_ble rfl, ?_⟩) <;> conv => whnf) | fail
      · refine go_next (i + 1) (by omega) (by omega) (ref_st id rfl ⟨⟨rfl, rfl⟩, ?_, next_i (by omega), trivial⟩ ⟨rfl, trivial⟩ (by simp) rfl (by simp [lookM]))
        show AV.imm (D.int _ _) = AV.imm (D.int _ _)
        congr 2
        rw [hw0]
        rw [htk]
        omega
      · exfalso; simp at *; omega

theorem r41 (xs : List ByteArray) (hl : xs.length ≤ 1048576) : CallOk Try.prog 41 [.reg true (.list (xs.map strRow))] { res := [.imm (.list (xs.map strRow))], muts := [.reg true], sep := false } := by
  refine callOk_of tyOk Try.func41 rfl rfl (le_of_ble rfl) (le_of_ble rfl) (mutOk_reg0 rfl) ?_
  repeat' first | refine go_seq ?_ | refine go_region ?_ | ((first | refine go_op rfl ?_ | refine go_nil ?_ | refine go_storeBox rfl rfl rfl rfl rfl rfl ?_ | refine go_makeN rfl rfl rfl rfl rfl rfl rfl rfl rfl (by omega) (by simp; omega) ?_) <;> conv => whnf) | ((first | refine go_loadB ?_ | refine ⟨by kernel_rfl, ?_⟩ | refine go_ret ?_) <;> conv => whnf) | refine go_block ?_ | ((first | refine go_skip ?_ | refine go_exit ?_) <;> conv => whnf) | refine go_true rfl ?_ | refine go_false rfl ?_ | refine go_cond rfl (fun h => ?_) (fun h => ?_) | refine ⟨rfl, ?_⟩ | ((first | refine ⟨trivial, ?_⟩ | refine ⟨le_of_ble rfl, ?_⟩) <;> conv => whnf) | fail
  refine go_loop (α := Nat) (fun i => i ≤ xs.length) (fun i => xs.length - i)
    (fun i => st Try.f41.ntmps [(0, .tv 1001 (.list (xs.map strRow))), (3, .own 1000 0 (xs.map strRow).length), (4, .imm (.int .i64 (i : Nat)))] [(1000, .arr 9 1 (fill strRow ty9.zero xs i)), (1001, .reg true)] [1001]) 0 (Nat.zero_le _) ?_ ?_
  · refine ref_st (fun x => if x = 1000 then nid 2 7 else 0) rfl ⟨⟨rfl, rfl⟩, ⟨rfl, rfl⟩, rfl, trivial⟩ ⟨?_, rfl, trivial⟩ (by simp [nid]) rfl (by simp [lookM])
    show some _ = some _
    rw [← fill_0, List.length_map]
    rfl
  · intro i hi
    cases hx : xs[i]? with
    | none =>
      have hge := le_of_at hx
      repeat' first | refine go_seq ?_ | refine go_region ?_ | ((first | refine go_op rfl ?_ | refine go_nil ?_ | refine go_storeBox rfl rfl rfl rfl rfl rfl ?_) <;> conv => whnf) | ((first | refine go_loadB ?_ | refine ⟨by kernel_rfl, ?_⟩ | refine go_ret ?_) <;> conv => whnf) | refine go_block ?_ | ((first | refine go_skip ?_ | refine go_exit ?_) <;> conv => whnf) | refine go_true rfl ?_ | refine go_false rfl ?_ | refine go_cond rfl (fun h => ?_) (fun h => ?_) | refine ⟨rfl, ?_⟩ | ((first | refine ⟨trivial, ?_⟩ | refine ⟨le_of_ble rfl, ?_⟩) <;> conv => whnf) | fail
      · exfalso; simp at *; omega
      · exact ret_regO rfl rfl rfl rfl rfl rfl (by rw [fill_end _ _ _ hge]; simp [List.take_of_length_le]) rfl
    | some v =>
      have hlt := lt_of_at hx
      have hr := row_at strRow hx
      repeat' first | refine go_seq ?_ | refine go_region ?_ | ((first | refine go_op rfl ?_ | refine go_nil ?_ | refine go_storeBox rfl rfl rfl rfl rfl rfl ?_ | refine go_tvIdx rfl rfl rfl rfl rfl (by omega) hr rfl ?_ | refine go_idxOwn rfl rfl rfl rfl rfl rfl (by simp; omega) ?_ | refine go_storeRow rfl rfl rfl rfl (fill_at _ _ hx) rfl rfl (fill_set _ _ hx) ?_) <;> conv => whnf) | ((first | refine go_loadB ?_ | refine ⟨by kernel_rfl, ?_⟩ | refine go_ret ?_) <;> conv => whnf) | refine go_block ?_ | ((first | refine go_skip ?_ | refine go_exit ?_) <;> conv => whnf) | refine go_true rfl ?_ | refine go_false rfl ?_ | refine go_cond rfl (fun h => ?_) (fun h => ?_) | refine ⟨rfl, ?_⟩ | ((first | refine ⟨trivial, ?_⟩ | refine ⟨le_of_ble rfl, ?_⟩) <;> conv => whnf) | fail
      · exact go_next (i + 1) (by omega) (by omega) (ref_st id rfl ⟨⟨rfl, rfl⟩, ⟨rfl, rfl⟩, next_i (by omega), trivial⟩ ⟨rfl, rfl, trivial⟩ (by simp) rfl (by simp [lookM]))
      · exfalso; simp at *; omega

def cntStringS (xs : List ByteArray) : Nat := 1 * xs.length
theorem cntStringS_take {xs : List ByteArray} {i : Nat} {v : ByteArray} (h : xs[i]? = some v) : cntStringS (xs.take (i + 1)) = cntStringS (xs.take i) + 1 := by
  have := lt_of_at h
  simp only [cntStringS, List.length_take]
  omega

theorem cntStringS_le {xs : List ByteArray} (hl : xs.length ≤ 1048576) : cntStringS xs ≤ 1048576 := by unfold cntStringS; omega

theorem cntStringS_end {xs : List ByteArray} {i : Nat} (h : xs.length ≤ i) : cntStringS (xs.take i) = cntStringS xs := by rw [List.take_of_length_le h]
theorem cntStringS_mono {xs : List ByteArray} (i : Nat) : cntStringS (xs.take i) ≤ cntStringS xs := by
  simp only [cntStringS, List.length_take]; omega

theorem k55 (xs : List ByteArray) (hl : xs.length ≤ 1048576) (k : Int) (hk0 : 0 ≤ k) (hk1 : k + (cntStringS xs : Nat) ≤ 1152921504606846976) : CallOk Try.prog 55 [.reg false (.list (xs.map strRow)), .imm (.int .i64 k)]
    { res := [.imm (.int .i64 (k + (cntStringS xs : Nat)))], muts := [.reg false] } := by
  refine callOk_of tyOk Try.func55 rfl rfl (le_of_ble rfl) (le_of_ble rfl) (mutOk_reg0 rfl) ?_
  repeat' first | refine go_seq ?_ | refine go_region ?_ | ((first | refine go_op rfl ?_ | refine go_nil ?_ | refine go_storeBox rfl rfl rfl rfl rfl rfl ?_) <;> conv => whnf) | ((first | refine ⟨by kernel_rfl, ?_⟩ | refine go_ret ?_) <;> conv => whnf) | refine go_block ?_ | ((first | refine go_skip ?_ | refine go_exit ?_) <;> conv => whnf) | refine go_true rfl ?_ | refine go_false rfl ?_ | refine go_cond rfl (fun h => ?_) (fun h => ?_) | refine ⟨rfl, ?_⟩ | ((first | refine ⟨trivial, ?_⟩ | refine ⟨le_of_ble rfl, ?_⟩) <;> conv => whnf) | fail
  refine go_loop (α := Nat) (fun i => i ≤ xs.length) (fun i => xs.length - i)
    (fun i => st Try.f55.ntmps [(0, .tv 1000 (.list (xs.map strRow))), (1, .imm (.int .i64 (k + (cntStringS (xs.take i) : Nat)))), (5, .imm (.int .i64 (i : Nat)))] [(1000, .reg false)] [1000]) 0 (Nat.zero_le _) ?_ ?_
  · refine ref_st (fun _ => 0) rfl ⟨⟨rfl, rfl⟩, ?_, rfl, trivial⟩ ⟨rfl, trivial⟩ (by simp) rfl (by simp [lookM])
    show AV.imm (D.int _ _) = _
    simp [cntStringS]
  · intro i hi
    cases hx : xs[i]? with
    | none =>
      have hge := le_of_at hx
      rw [cntStringS_end hge]
      repeat' first | refine go_seq ?_ | refine go_region ?_ | ((first | refine go_op rfl ?_ | refine go_nil ?_ | refine go_storeBox rfl rfl rfl rfl rfl rfl ?_) <;> conv => whnf) | ((first | refine ⟨by kernel_rfl, ?_⟩ | refine go_ret ?_) <;> conv => whnf) | refine go_block ?_ | ((first | refine go_skip ?_ | refine go_exit ?_) <;> conv => whnf) | refine go_true rfl ?_ | refine go_false rfl ?_ | refine go_cond rfl (fun h => ?_) (fun h => ?_) | refine ⟨rfl, ?_⟩ | ((first | refine ⟨trivial, ?_⟩ | refine ⟨le_of_ble rfl, ?_⟩) <;> conv => whnf) | fail
      · exfalso; simp at *; omega
      · exact ret_regI rfl rfl rfl rfl rfl (fun _ => rfl) rfl
    | some v =>
      have hlt := lt_of_at hx
      have hr := row_at strRow hx
      have htk := cntStringS_take hx
      have hmo := cntStringS_mono (xs := xs) (i + 1)
      have ht0 : CallOk Try.prog 82 [.imm (.int .i64 (k + (cntStringS (xs.take i) : Nat)))] { res := [.imm (.str (mText (k + (cntStringS (xs.take i) : Nat))))] } := c82 _ (by omega)
      have hw0 : IntKind.i64.wrap ((k + (cntStringS (xs.take i) : Nat)) + 1) = (k + (cntStringS (xs.take i) : Nat)) + 1 := wrap_small (by omega) (by omega)
      repeat' first | refine go_seq ?_ | refine go_region ?_ | ((first | refine go_op rfl ?_ | refine go_nil ?_ | refine go_storeBox rfl rfl rfl rfl rfl rfl ?_ | refine go_call [] (ht0) rfl rfl rfl rfl ?_ | refine go_tvIdx rfl rfl rfl rfl rfl (by omega) hr rfl ?_ | refine go_tvStore rfl rfl rfl rfl rfl rfl rfl ?_) <;> conv => whnf) | ((first | refine ⟨by kernel_rfl, ?_⟩ | refine go_ret ?_) <;> conv => whnf) | refine go_block ?_ | ((first | refine go_skip ?_ | refine go_exit ?_) <;> conv => whnf) | refine go_true rfl ?_ | refine go_false rfl ?_ | refine go_cond rfl (fun h => ?_) (fun h => ?_) | refine ⟨rfl, ?_⟩ | ((first | refine ⟨trivial, ?_⟩ | refine ⟨le_of_ble rfl, ?_⟩) <;> conv => whnf) | fail
      · refine go_next (i + 1) (by omega) (by omega) (ref_st id rfl ⟨⟨rfl, rfl⟩, ?_, next_i (by omega), trivial⟩ ⟨rfl, trivial⟩ (by simp) rfl (by simp [lookM]))
        show AV.imm (D.int _ _) = AV.imm (D.int _ _)
        congr 2
        rw [hw0]
        rw [htk]
        omega
      · exfalso; simp at *; omega

theorem r67 (v : Line) (hf : v.fit) : CallOk Try.prog 67 [.reg true (.agg v.enc)] { res := [.imm (.agg v.enc)], muts := [.reg true], sep := false } := by
  refine callOk_of tyOk Try.func67 rfl rfl (le_of_ble rfl) (le_of_ble rfl) (mutOk_reg0 rfl) ?_
  obtain ⟨_, k_stops, k_runs⟩ := hf
  repeat' first | refine go_seq ?_ | refine go_region ?_ | ((first | refine go_op rfl ?_ | refine go_nil ?_ | refine go_storeBox rfl rfl rfl rfl rfl rfl ?_ | refine go_call [2] (r90 v.stops k_stops) rfl rfl rfl rfl ?_ | refine go_call [2] (r90 v.runs k_runs) rfl rfl rfl rfl ?_) <;> conv => whnf) | ((first | refine go_loadB ?_ | refine ⟨by kernel_rfl, ?_⟩ | refine go_ret ?_) <;> conv => whnf) | ((first | refine go_skip ?_) <;> conv => whnf) | refine ⟨rfl, ?_⟩ | ((first | refine ⟨trivial, ?_⟩ | refine ⟨le_of_ble rfl, ?_⟩) <;> conv => whnf) | fail
  all_goals exact ret_regI rfl rfl rfl rfl rfl (fun e => by cases e) rfl

theorem r42 (xs : List Line) (hall : ∀ v ∈ xs, (Line.fit) v) (hl : xs.length ≤ 1048576) : CallOk Try.prog 42 [.reg true (.list (xs.map Line.enc))] { res := [.imm (.list (xs.map Line.enc))], muts := [.reg true], sep := false } := by
  refine callOk_of tyOk Try.func42 rfl rfl (le_of_ble rfl) (le_of_ble rfl) (mutOk_reg0 rfl) ?_
  repeat' first | refine go_seq ?_ | refine go_region ?_ | ((first | refine go_op rfl ?_ | refine go_nil ?_ | refine go_storeBox rfl rfl rfl rfl rfl rfl ?_ | refine go_makeN rfl rfl rfl rfl rfl rfl rfl rfl rfl (by omega) (by simp; omega) ?_) <;> conv => whnf) | ((first | refine go_loadB ?_ | refine ⟨by kernel_rfl, ?_⟩ | refine go_ret ?_) <;> conv => whnf) | refine go_block ?_ | ((first | refine go_skip ?_ | refine go_exit ?_) <;> conv => whnf) | refine go_true rfl ?_ | refine go_false rfl ?_ | refine go_cond rfl (fun h => ?_) (fun h => ?_) | refine ⟨rfl, ?_⟩ | ((first | refine ⟨trivial, ?_⟩ | refine ⟨le_of_ble rfl, ?_⟩) <;> conv => whnf) | fail
  refine go_loop (α := Nat) (fun i => i ≤ xs.length) (fun i => xs.length - i)
    (fun i => st Try.f42.ntmps [(0, .tv 1001 (.list (xs.map Line.enc))), (3, .own 1000 0 (xs.map Line.enc).length), (4, .imm (.int .i64 (i : Nat)))] [(1000, .arr 90 3 (fill Line.enc ty90.zero xs i)), (1001, .reg true)] [1001]) 0 (Nat.zero_le _) ?_ ?_
  · refine ref_st (fun x => if x = 1000 then nid 2 7 else 0) rfl ⟨⟨rfl, rfl⟩, ⟨rfl, rfl⟩, rfl, trivial⟩ ⟨?_, rfl, trivial⟩ (by simp [nid]) rfl (by simp [lookM])
    show some _ = some _
    rw [← fill_0, List.length_map]
    rfl
  · intro i hi
    cases hx : xs[i]? with
    | none =>
      have hge := le_of_at hx
      repeat' first | refine go_seq ?_ | refine go_region ?_ | ((first | refine go_op rfl ?_ | refine go_nil ?_ | refine go_storeBox rfl rfl rfl rfl rfl rfl ?_) <;> conv => whnf) | ((first | refine go_loadB ?_ | refine ⟨by kernel_rfl, ?_⟩ | refine go_ret ?_) <;> conv => whnf) | refine go_block ?_ | ((first | refine go_skip ?_ | refine go_exit ?_) <;> conv => whnf) | refine go_true rfl ?_ | refine go_false rfl ?_ | refine go_cond rfl (fun h => ?_) (fun h => ?_) | refine ⟨rfl, ?_⟩ | ((first | refine ⟨trivial, ?_⟩ | refine ⟨le_of_ble rfl, ?_⟩) <;> conv => whnf) | fail
      · exfalso; simp at *; omega
      · exact ret_regO rfl rfl rfl rfl rfl rfl (by rw [fill_end _ _ _ hge]; simp [List.take_of_length_le]) rfl
    | some v =>
      have hlt := lt_of_at hx
      have hr := row_at Line.enc hx
      repeat' first | refine go_seq ?_ | refine go_region ?_ | ((first | refine go_op rfl ?_ | refine go_nil ?_ | refine go_storeBox rfl rfl rfl rfl rfl rfl ?_ | refine go_call [2] (r67 v (hall v (List.mem_of_getElem? hx))) rfl rfl rfl rfl ?_ | refine go_tvIdx rfl rfl rfl rfl rfl (by omega) hr rfl ?_ | refine go_idxOwn rfl rfl rfl rfl rfl rfl (by simp; omega) ?_ | refine go_storeRow rfl rfl rfl rfl (fill_at _ _ hx) rfl rfl (fill_set _ _ hx) ?_) <;> conv => whnf) | ((first | refine go_loadB ?_ | refine ⟨by kernel_rfl, ?_⟩ | refine go_ret ?_) <;> conv => whnf) | refine go_block ?_ | ((first | refine go_skip ?_ | refine go_exit ?_) <;> conv => whnf) | refine go_true rfl ?_ | refine go_false rfl ?_ | refine go_cond rfl (fun h => ?_) (fun h => ?_) | refine ⟨rfl, ?_⟩ | ((first | refine ⟨trivial, ?_⟩ | refine ⟨le_of_ble rfl, ?_⟩) <;> conv => whnf) | fail
      · exact go_next (i + 1) (by omega) (by omega) (ref_st id rfl ⟨⟨rfl, rfl⟩, ⟨rfl, rfl⟩, next_i (by omega), trivial⟩ ⟨rfl, rfl, trivial⟩ (by simp) rfl (by simp [lookM]))
      · exfalso; simp at *; omega

def cntLine (v : Line) : Nat := 1 + cntIntS v.stops + cntIntS v.runs
def cntLineS (xs : List Line) : Nat := (xs.map cntLine).sum
theorem cntLineS_take {xs : List Line} {i : Nat} {v : Line} (h : xs[i]? = some v) : cntLineS (xs.take (i + 1)) = cntLineS (xs.take i) + (1 + cntIntS v.stops + cntIntS v.runs) := by
  have hlt := lt_of_at h
  have e : xs.take (i + 1) = xs.take i ++ [v] := by
    rw [List.take_add_one, h]; rfl
  unfold cntLineS
  rw [e, List.map_append, List.sum_append]
  simp [cntLine]

theorem cntLine_le {v : Line} (h : (Line.fit) v) : cntLine v ≤ 2097153 := by
  have := h.2.1
  have := h.2.2
  simp only [cntLine, cntIntS, cntIntS] at *
  omega

theorem cntLineS_up {xs : List Line} (hall : ∀ v ∈ xs, (Line.fit) v) : cntLineS xs ≤ xs.length * 2097153 := by
  induction xs with
  | nil => simp [cntLineS]
  | cons v r ih =>
    have h1 := cntLine_le (hall v (by simp))
    have h2 := ih fun x hx => hall x (by simp [hx])
    simp only [cntLineS, List.map_cons, List.sum_cons, List.length_cons] at *
    omega
theorem cntLineS_le {xs : List Line} (hall : ∀ v ∈ xs, (Line.fit) v) (hl : xs.length ≤ 1048576) : cntLineS xs ≤ 2199024304128 := by
  have := cntLineS_up hall
  omega

theorem cntLineS_end {xs : List Line} {i : Nat} (h : xs.length ≤ i) : cntLineS (xs.take i) = cntLineS xs := by rw [List.take_of_length_le h]
theorem cntLineS_mono {xs : List Line} (i : Nat) : cntLineS (xs.take i) ≤ cntLineS xs := by
  conv => rhs; rw [← List.take_append_drop i xs]
  unfold cntLineS
  rw [List.map_append, List.sum_append]
  omega

theorem k56 (xs : List Line) (hall : ∀ v ∈ xs, (Line.fit) v) (hl : xs.length ≤ 1048576) (k : Int) (hk0 : 0 ≤ k) (hk1 : k + (cntLineS xs : Nat) ≤ 1152921504606846976) : CallOk Try.prog 56 [.reg false (.list (xs.map Line.enc)), .imm (.int .i64 k)]
    { res := [.imm (.int .i64 (k + (cntLineS xs : Nat)))], muts := [.reg false] } := by
  refine callOk_of tyOk Try.func56 rfl rfl (le_of_ble rfl) (le_of_ble rfl) (mutOk_reg0 rfl) ?_
  repeat' first | refine go_seq ?_ | refine go_region ?_ | ((first | refine go_op rfl ?_ | refine go_nil ?_ | refine go_storeBox rfl rfl rfl rfl rfl rfl ?_) <;> conv => whnf) | ((first | refine go_loadB ?_ | refine ⟨by kernel_rfl, ?_⟩ | refine go_ret ?_) <;> conv => whnf) | refine go_block ?_ | ((first | refine go_skip ?_ | refine go_exit ?_) <;> conv => whnf) | refine go_true rfl ?_ | refine go_false rfl ?_ | refine go_cond rfl (fun h => ?_) (fun h => ?_) | refine ⟨rfl, ?_⟩ | ((first | refine ⟨trivial, ?_⟩ | refine ⟨le_of_ble rfl, ?_⟩) <;> conv => whnf) | fail
  refine go_loop (α := Nat) (fun i => i ≤ xs.length) (fun i => xs.length - i)
    (fun i => st Try.f56.ntmps [(0, .tv 1000 (.list (xs.map Line.enc))), (1, .imm (.int .i64 (k + (cntLineS (xs.take i) : Nat)))), (5, .imm (.int .i64 (i : Nat)))] [(1000, .reg false)] [1000]) 0 (Nat.zero_le _) ?_ ?_
  · refine ref_st (fun _ => 0) rfl ⟨⟨rfl, rfl⟩, ?_, rfl, trivial⟩ ⟨rfl, trivial⟩ (by simp) rfl (by simp [lookM])
    show AV.imm (D.int _ _) = _
    simp [cntLineS]
  · intro i hi
    cases hx : xs[i]? with
    | none =>
      have hge := le_of_at hx
      rw [cntLineS_end hge]
      repeat' first | refine go_seq ?_ | refine go_region ?_ | ((first | refine go_op rfl ?_ | refine go_nil ?_ | refine go_storeBox rfl rfl rfl rfl rfl rfl ?_) <;> conv => whnf) | ((first | refine go_loadB ?_ | refine ⟨by kernel_rfl, ?_⟩ | refine go_ret ?_) <;> conv => whnf) | refine go_block ?_ | ((first | refine go_skip ?_ | refine go_exit ?_) <;> conv => whnf) | refine go_true rfl ?_ | refine go_false rfl ?_ | refine go_cond rfl (fun h => ?_) (fun h => ?_) | refine ⟨rfl, ?_⟩ | ((first | refine ⟨trivial, ?_⟩ | refine ⟨le_of_ble rfl, ?_⟩) <;> conv => whnf) | fail
      · exfalso; simp at *; omega
      · exact ret_regI rfl rfl rfl rfl rfl (fun _ => rfl) rfl
    | some v =>
      have hlt := lt_of_at hx
      have hr := row_at Line.enc hx
      have htk := cntLineS_take hx
      have hmo := cntLineS_mono (xs := xs) (i + 1)
      have hfv := hall v (List.mem_of_getElem? hx)
      obtain ⟨_, k_stops, k_runs⟩ := hfv
      have ht0 : CallOk Try.prog 82 [.imm (.int .i64 (k + (cntLineS (xs.take i) : Nat)))] { res := [.imm (.str (mText (k + (cntLineS (xs.take i) : Nat))))] } := c82 _ (by omega)
      have hw0 : IntKind.i64.wrap ((k + (cntLineS (xs.take i) : Nat)) + 1) = (k + (cntLineS (xs.take i) : Nat)) + 1 := wrap_small (by omega) (by omega)
      have hm1 := k83 v.stops k_stops (IntKind.i64.wrap ((k + (cntLineS (xs.take i) : Nat)) + 1)) (by rw [hw0]; omega) (by rw [hw0]; omega)
      have hm2 := k83 v.runs k_runs ((IntKind.i64.wrap ((k + (cntLineS (xs.take i) : Nat)) + 1)) + (cntIntS v.stops : Nat)) (by rw [hw0]; omega) (by rw [hw0]; omega)
      repeat' first | refine go_seq ?_ | refine go_region ?_ | ((first | refine go_op rfl ?_ | refine go_nil ?_ | refine go_storeBox rfl rfl rfl rfl rfl rfl ?_ | refine go_call [] (ht0) rfl rfl rfl rfl ?_ | refine go_call [2] (hm1) rfl rfl rfl rfl ?_ | refine go_call [2] (hm2) rfl rfl rfl rfl ?_ | refine go_tvIdx rfl rfl rfl rfl rfl (by omega) hr rfl ?_ | refine go_tvStore rfl rfl rfl rfl rfl rfl rfl ?_) <;> conv => whnf) | ((first | refine go_loadB ?_ | refine ⟨by kernel_rfl, ?_⟩ | refine go_ret ?_) <;> conv => whnf) | refine go_block ?_ | ((first | refine go_skip ?_ | refine go_exit ?_) <;> conv => whnf) | refine go_true rfl ?_ | refine go_false rfl ?_ | refine go_cond rfl (fun h => ?_) (fun h => ?_) | refine ⟨rfl, ?_⟩ | ((first | refine ⟨trivial, ?_⟩ | refine ⟨le_of_ble rfl, ?_⟩) <;> conv => whnf) | fail
      · refine go_next (i + 1) (by omega) (by omega) (ref_st id rfl ⟨⟨rfl, rfl⟩, ?_, next_i (by omega), trivial⟩ ⟨rfl, trivial⟩ (by simp) rfl (by simp [lookM]))
        show AV.imm (D.int _ _) = AV.imm (D.int _ _)
        congr 2
        rw [hw0]
        rw [htk]
        omega
      · exfalso; simp at *; omega

theorem r19 (v : Network) (hf : v.fit) : CallOk Try.prog 19 [.reg true (.agg v.enc)] { res := [.imm (.agg v.enc)], muts := [.reg true], sep := false } := by
  refine callOk_of tyOk Try.func19 rfl rfl (le_of_ble rfl) (le_of_ble rfl) (mutOk_reg0 rfl) ?_
  obtain ⟨k_stops, q_stops, k_lines, q_lines⟩ := hf
  repeat' first | refine go_seq ?_ | refine go_region ?_ | ((first | refine go_op rfl ?_ | refine go_nil ?_ | refine go_storeBox rfl rfl rfl rfl rfl rfl ?_ | refine go_call [2] (r41 v.stops k_stops) rfl rfl rfl rfl ?_ | refine go_call [2] (r42 v.lines q_lines k_lines) rfl rfl rfl rfl ?_) <;> conv => whnf) | ((first | refine go_loadB ?_ | refine ⟨by kernel_rfl, ?_⟩ | refine go_ret ?_) <;> conv => whnf) | ((first | refine go_skip ?_) <;> conv => whnf) | refine ⟨rfl, ?_⟩ | ((first | refine ⟨trivial, ?_⟩ | refine ⟨le_of_ble rfl, ?_⟩) <;> conv => whnf) | fail
  all_goals exact ret_regI rfl rfl rfl rfl rfl (fun e => by cases e) rfl

def cntNetwork (v : Network) : Nat := cntStringS v.stops + cntLineS v.lines

theorem k27 (v : Network) (hf : v.fit) (k : Int) (hk0 : 0 ≤ k) (hk1 : k + (cntNetwork v : Nat) ≤ 1152921504606846976) : CallOk Try.prog 27 [.reg false (.agg v.enc), .imm (.int .i64 k)] { res := [.imm (.int .i64 (k + (cntNetwork v : Nat)))], muts := [.reg false] } := by
  refine callOk_of tyOk Try.func27 rfl rfl (le_of_ble rfl) (le_of_ble rfl) (mutOk_reg0 rfl) ?_
  obtain ⟨k_stops, q_stops, k_lines, q_lines⟩ := hf
  have hm0 := k55 v.stops k_stops k (by omega) (by simp only [cntNetwork] at hk1; omega)
  have hm1 := k56 v.lines q_lines k_lines (k + (cntStringS v.stops : Nat)) (by omega) (by simp only [cntNetwork] at hk1; omega)
  repeat' first | refine go_seq ?_ | refine go_region ?_ | ((first | refine go_op rfl ?_ | refine go_nil ?_ | refine go_call [2] (hm0) rfl rfl rfl rfl ?_ | refine go_call [2] (hm1) rfl rfl rfl rfl ?_) <;> conv => whnf) | ((first | refine go_loadB ?_ | refine ⟨by kernel_rfl, ?_⟩ | refine go_ret ?_) <;> conv => whnf) | ((first | refine go_skip ?_) <;> conv => whnf) | refine ⟨rfl, ?_⟩ | ((first | refine ⟨trivial, ?_⟩ | refine ⟨le_of_ble rfl, ?_⟩) <;> conv => whnf) | fail
  all_goals
    refine ret_regI rfl rfl rfl rfl ?_ (fun _ => rfl) rfl
    congr 1
    simp only [cntNetwork]
    omega

theorem cntNetwork_le {v : Network} (hf : v.fit) : cntNetwork v ≤ 2199025352704 := by
  obtain ⟨k_stops, q_stops, k_lines, q_lines⟩ := hf
  have := cntStringS_le k_stops
  have := cntLineS_le q_lines k_lines
  simp only [cntNetwork]
  omega

theorem r43 (v : Trip) : CallOk Try.prog 43 [.reg true (.agg v.enc)] { res := [.imm (.agg v.enc)], muts := [.reg true], sep := false } := by
  refine callOk_of tyOk Try.func43 rfl rfl (le_of_ble rfl) (le_of_ble rfl) (mutOk_reg0 rfl) ?_
  repeat' first | refine go_seq ?_ | refine go_region ?_ | ((first | refine go_op rfl ?_ | refine go_nil ?_ | refine go_storeBox rfl rfl rfl rfl rfl rfl ?_) <;> conv => whnf) | ((first | refine go_loadB ?_ | refine ⟨by kernel_rfl, ?_⟩ | refine go_ret ?_) <;> conv => whnf) | ((first | refine go_skip ?_) <;> conv => whnf) | refine ⟨rfl, ?_⟩ | ((first | refine ⟨trivial, ?_⟩ | refine ⟨le_of_ble rfl, ?_⟩) <;> conv => whnf) | fail
  all_goals exact ret_regI rfl rfl rfl rfl rfl (fun e => by cases e) rfl

theorem r20 (xs : List Trip) (hl : xs.length ≤ 1048576) : CallOk Try.prog 20 [.reg true (.list (xs.map Trip.enc))] { res := [.imm (.list (xs.map Trip.enc))], muts := [.reg true], sep := false } := by
  refine callOk_of tyOk Try.func20 rfl rfl (le_of_ble rfl) (le_of_ble rfl) (mutOk_reg0 rfl) ?_
  repeat' first | refine go_seq ?_ | refine go_region ?_ | ((first | refine go_op rfl ?_ | refine go_nil ?_ | refine go_storeBox rfl rfl rfl rfl rfl rfl ?_ | refine go_makeN rfl rfl rfl rfl rfl rfl rfl rfl rfl (by omega) (by simp; omega) ?_) <;> conv => whnf) | ((first | refine go_loadB ?_ | refine ⟨by kernel_rfl, ?_⟩ | refine go_ret ?_) <;> conv => whnf) | refine go_block ?_ | ((first | refine go_skip ?_ | refine go_exit ?_) <;> conv => whnf) | refine go_true rfl ?_ | refine go_false rfl ?_ | refine go_cond rfl (fun h => ?_) (fun h => ?_) | refine ⟨rfl, ?_⟩ | ((first | refine ⟨trivial, ?_⟩ | refine ⟨le_of_ble rfl, ?_⟩) <;> conv => whnf) | fail
  refine go_loop (α := Nat) (fun i => i ≤ xs.length) (fun i => xs.length - i)
    (fun i => st Try.f20.ntmps [(0, .tv 1001 (.list (xs.map Trip.enc))), (3, .own 1000 0 (xs.map Trip.enc).length), (4, .imm (.int .i64 (i : Nat)))] [(1000, .arr 54 3 (fill Trip.enc ty54.zero xs i)), (1001, .reg true)] [1001]) 0 (Nat.zero_le _) ?_ ?_
  · refine ref_st (fun x => if x = 1000 then nid 2 7 else 0) rfl ⟨⟨rfl, rfl⟩, ⟨rfl, rfl⟩, rfl, trivial⟩ ⟨?_, rfl, trivial⟩ (by simp [nid]) rfl (by simp [lookM])
    show some _ = some _
    rw [← fill_0, List.length_map]
    rfl
  · intro i hi
    cases hx : xs[i]? with
    | none =>
      have hge := le_of_at hx
      repeat' first | refine go_seq ?_ | refine go_region ?_ | ((first | refine go_op rfl ?_ | refine go_nil ?_ | refine go_storeBox rfl rfl rfl rfl rfl rfl ?_) <;> conv => whnf) | ((first | refine go_loadB ?_ | refine ⟨by kernel_rfl, ?_⟩ | refine go_ret ?_) <;> conv => whnf) | refine go_block ?_ | ((first | refine go_skip ?_ | refine go_exit ?_) <;> conv => whnf) | refine go_true rfl ?_ | refine go_false rfl ?_ | refine go_cond rfl (fun h => ?_) (fun h => ?_) | refine ⟨rfl, ?_⟩ | ((first | refine ⟨trivial, ?_⟩ | refine ⟨le_of_ble rfl, ?_⟩) <;> conv => whnf) | fail
      · exfalso; simp at *; omega
      · exact ret_regO rfl rfl rfl rfl rfl rfl (by rw [fill_end _ _ _ hge]; simp [List.take_of_length_le]) rfl
    | some v =>
      have hlt := lt_of_at hx
      have hr := row_at Trip.enc hx
      repeat' first | refine go_seq ?_ | refine go_region ?_ | ((first | refine go_op rfl ?_ | refine go_nil ?_ | refine go_storeBox rfl rfl rfl rfl rfl rfl ?_ | refine go_call [2] (r43 v) rfl rfl rfl rfl ?_ | refine go_tvIdx rfl rfl rfl rfl rfl (by omega) hr rfl ?_ | refine go_idxOwn rfl rfl rfl rfl rfl rfl (by simp; omega) ?_ | refine go_storeRow rfl rfl rfl rfl (fill_at _ _ hx) rfl rfl (fill_set _ _ hx) ?_) <;> conv => whnf) | ((first | refine go_loadB ?_ | refine ⟨by kernel_rfl, ?_⟩ | refine go_ret ?_) <;> conv => whnf) | refine go_block ?_ | ((first | refine go_skip ?_ | refine go_exit ?_) <;> conv => whnf) | refine go_true rfl ?_ | refine go_false rfl ?_ | refine go_cond rfl (fun h => ?_) (fun h => ?_) | refine ⟨rfl, ?_⟩ | ((first | refine ⟨trivial, ?_⟩ | refine ⟨le_of_ble rfl, ?_⟩) <;> conv => whnf) | fail
      · exact go_next (i + 1) (by omega) (by omega) (ref_st id rfl ⟨⟨rfl, rfl⟩, ⟨rfl, rfl⟩, next_i (by omega), trivial⟩ ⟨rfl, rfl, trivial⟩ (by simp) rfl (by simp [lookM]))
      · exfalso; simp at *; omega

def cntTripS (xs : List Trip) : Nat := 3 * xs.length
theorem cntTripS_take {xs : List Trip} {i : Nat} {v : Trip} (h : xs[i]? = some v) : cntTripS (xs.take (i + 1)) = cntTripS (xs.take i) + 3 := by
  have := lt_of_at h
  simp only [cntTripS, List.length_take]
  omega

theorem cntTripS_le {xs : List Trip} (hl : xs.length ≤ 1048576) : cntTripS xs ≤ 3145728 := by unfold cntTripS; omega

theorem cntTripS_end {xs : List Trip} {i : Nat} (h : xs.length ≤ i) : cntTripS (xs.take i) = cntTripS xs := by rw [List.take_of_length_le h]
theorem cntTripS_mono {xs : List Trip} (i : Nat) : cntTripS (xs.take i) ≤ cntTripS xs := by
  simp only [cntTripS, List.length_take]; omega

theorem k28 (xs : List Trip) (hl : xs.length ≤ 1048576) (k : Int) (hk0 : 0 ≤ k) (hk1 : k + (cntTripS xs : Nat) ≤ 1152921504606846976) : CallOk Try.prog 28 [.reg false (.list (xs.map Trip.enc)), .imm (.int .i64 k)]
    { res := [.imm (.int .i64 (k + (cntTripS xs : Nat)))], muts := [.reg false] } := by
  refine callOk_of tyOk Try.func28 rfl rfl (le_of_ble rfl) (le_of_ble rfl) (mutOk_reg0 rfl) ?_
  repeat' first | refine go_seq ?_ | refine go_region ?_ | ((first | refine go_op rfl ?_ | refine go_nil ?_ | refine go_storeBox rfl rfl rfl rfl rfl rfl ?_) <;> conv => whnf) | ((first | refine ⟨by kernel_rfl, ?_⟩ | refine go_ret ?_) <;> conv => whnf) | refine go_block ?_ | ((first | refine go_skip ?_ | refine go_exit ?_) <;> conv => whnf) | refine go_true rfl ?_ | refine go_false rfl ?_ | refine go_cond rfl (fun h => ?_) (fun h => ?_) | refine ⟨rfl, ?_⟩ | ((first | refine ⟨trivial, ?_⟩ | refine ⟨le_of_ble rfl, ?_⟩) <;> conv => whnf) | fail
  refine go_loop (α := Nat) (fun i => i ≤ xs.length) (fun i => xs.length - i)
    (fun i => st Try.f28.ntmps [(0, .tv 1000 (.list (xs.map Trip.enc))), (1, .imm (.int .i64 (k + (cntTripS (xs.take i) : Nat)))), (5, .imm (.int .i64 (i : Nat)))] [(1000, .reg false)] [1000]) 0 (Nat.zero_le _) ?_ ?_
  · refine ref_st (fun _ => 0) rfl ⟨⟨rfl, rfl⟩, ?_, rfl, trivial⟩ ⟨rfl, trivial⟩ (by simp) rfl (by simp [lookM])
    show AV.imm (D.int _ _) = _
    simp [cntTripS]
  · intro i hi
    cases hx : xs[i]? with
    | none =>
      have hge := le_of_at hx
      rw [cntTripS_end hge]
      repeat' first | refine go_seq ?_ | refine go_region ?_ | ((first | refine go_op rfl ?_ | refine go_nil ?_ | refine go_storeBox rfl rfl rfl rfl rfl rfl ?_) <;> conv => whnf) | ((first | refine ⟨by kernel_rfl, ?_⟩ | refine go_ret ?_) <;> conv => whnf) | refine go_block ?_ | ((first | refine go_skip ?_ | refine go_exit ?_) <;> conv => whnf) | refine go_true rfl ?_ | refine go_false rfl ?_ | refine go_cond rfl (fun h => ?_) (fun h => ?_) | refine ⟨rfl, ?_⟩ | ((first | refine ⟨trivial, ?_⟩ | refine ⟨le_of_ble rfl, ?_⟩) <;> conv => whnf) | fail
      · exfalso; simp at *; omega
      · exact ret_regI rfl rfl rfl rfl rfl (fun _ => rfl) rfl
    | some v =>
      have hlt := lt_of_at hx
      have hr := row_at Trip.enc hx
      have htk := cntTripS_take hx
      have hmo := cntTripS_mono (xs := xs) (i + 1)
      have hw0 : IntKind.i64.wrap ((k + (cntTripS (xs.take i) : Nat)) + 1) = (k + (cntTripS (xs.take i) : Nat)) + 1 := wrap_small (by omega) (by omega)
      have hw1 : IntKind.i64.wrap (((k + (cntTripS (xs.take i) : Nat)) + 1) + 1) = ((k + (cntTripS (xs.take i) : Nat)) + 1) + 1 := wrap_small (by omega) (by omega)
      have hw2 : IntKind.i64.wrap ((((k + (cntTripS (xs.take i) : Nat)) + 1) + 1) + 1) = (((k + (cntTripS (xs.take i) : Nat)) + 1) + 1) + 1 := wrap_small (by omega) (by omega)
      repeat' first | refine go_seq ?_ | refine go_region ?_ | ((first | refine go_op rfl ?_ | refine go_nil ?_ | refine go_storeBox rfl rfl rfl rfl rfl rfl ?_ | refine go_tvIdx rfl rfl rfl rfl rfl (by omega) hr rfl ?_ | refine go_tvStore rfl rfl rfl rfl rfl rfl rfl ?_) <;> conv => whnf) | ((first | refine ⟨by kernel_rfl, ?_⟩ | refine go_ret ?_) <;> conv => whnf) | refine go_block ?_ | ((first | refine go_skip ?_ | refine go_exit ?_) <;> conv => whnf) | refine go_true rfl ?_ | refine go_false rfl ?_ | refine go_cond rfl (fun h => ?_) (fun h => ?_) | refine ⟨rfl, ?_⟩ | ((first | refine ⟨trivial, ?_⟩ | refine ⟨le_of_ble rfl, ?_⟩) <;> conv => whnf) | fail
      · refine go_next (i + 1) (by omega) (by omega) (ref_st id rfl ⟨⟨rfl, rfl⟩, ?_, next_i (by omega), trivial⟩ ⟨rfl, trivial⟩ (by simp) rfl (by simp [lookM]))
        show AV.imm (D.int _ _) = AV.imm (D.int _ _)
        congr 2
        rw [hw0, hw1, hw2]
        rw [htk]
        omega
      · exfalso; simp at *; omega

theorem r7 (v : Timetable) (hf : v.fit) : CallOk Try.prog 7 [.reg true (.agg v.enc)] { res := [.imm (.agg v.enc)], muts := [.reg true], sep := false } := by
  refine callOk_of tyOk Try.func7 rfl rfl (le_of_ble rfl) (le_of_ble rfl) (mutOk_reg0 rfl) ?_
  obtain ⟨k_net, k_trips, q_trips⟩ := hf
  repeat' first | refine go_seq ?_ | refine go_region ?_ | ((first | refine go_op rfl ?_ | refine go_nil ?_ | refine go_storeBox rfl rfl rfl rfl rfl rfl ?_ | refine go_call [2] (r19 v.net k_net) rfl rfl rfl rfl ?_ | refine go_call [2] (r20 v.trips k_trips) rfl rfl rfl rfl ?_) <;> conv => whnf) | ((first | refine go_loadB ?_ | refine ⟨by kernel_rfl, ?_⟩ | refine go_ret ?_) <;> conv => whnf) | ((first | refine go_skip ?_) <;> conv => whnf) | refine ⟨rfl, ?_⟩ | ((first | refine ⟨trivial, ?_⟩ | refine ⟨le_of_ble rfl, ?_⟩) <;> conv => whnf) | fail
  all_goals exact ret_regI rfl rfl rfl rfl rfl (fun e => by cases e) rfl

def cntTimetable (v : Timetable) : Nat := cntNetwork v.net + cntTripS v.trips

theorem k12 (v : Timetable) (hf : v.fit) (k : Int) (hk0 : 0 ≤ k) (hk1 : k + (cntTimetable v : Nat) ≤ 1152921504606846976) : CallOk Try.prog 12 [.reg false (.agg v.enc), .imm (.int .i64 k)] { res := [.imm (.int .i64 (k + (cntTimetable v : Nat)))], muts := [.reg false] } := by
  refine callOk_of tyOk Try.func12 rfl rfl (le_of_ble rfl) (le_of_ble rfl) (mutOk_reg0 rfl) ?_
  obtain ⟨k_net, k_trips, q_trips⟩ := hf
  have hm0 := k27 v.net k_net k (by omega) (by simp only [cntTimetable] at hk1; omega)
  have hm1 := k28 v.trips k_trips (k + (cntNetwork v.net : Nat)) (by omega) (by simp only [cntTimetable] at hk1; omega)
  repeat' first | refine go_seq ?_ | refine go_region ?_ | ((first | refine go_op rfl ?_ | refine go_nil ?_ | refine go_call [2] (hm0) rfl rfl rfl rfl ?_ | refine go_call [2] (hm1) rfl rfl rfl rfl ?_) <;> conv => whnf) | ((first | refine go_loadB ?_ | refine ⟨by kernel_rfl, ?_⟩ | refine go_ret ?_) <;> conv => whnf) | ((first | refine go_skip ?_) <;> conv => whnf) | refine ⟨rfl, ?_⟩ | ((first | refine ⟨trivial, ?_⟩ | refine ⟨le_of_ble rfl, ?_⟩) <;> conv => whnf) | fail
  all_goals
    refine ret_regI rfl rfl rfl rfl ?_ (fun _ => rfl) rfl
    congr 1
    simp only [cntTimetable]
    omega

theorem cntTimetable_le {v : Timetable} (hf : v.fit) : cntTimetable v ≤ 2199028498432 := by
  obtain ⟨k_net, k_trips, q_trips⟩ := hf
  have := cntNetwork_le k_net
  have := cntTripS_le k_trips
  simp only [cntTimetable]
  omega

theorem g7 (v : Timetable) (hf : v.fit) : CallOk Try.prog 7 [.imm (.agg v.enc)] { res := [.reg (.agg v.enc)] } := callOk_copy rfl (r7 v hf)

end Go.Proofs.Ytfjphbjbobojbaa

