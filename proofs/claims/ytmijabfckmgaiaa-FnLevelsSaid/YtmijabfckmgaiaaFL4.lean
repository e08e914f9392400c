/- Charging: the levels before and behind every leg: both sides. -/
import Derived.Test.YtmijabfckmgaiaaFL3
namespace Go.Proofs.Ytmijabfckmgaiaa
open Go Go.Am
set_option maxRecDepth 100000
set_option maxHeartbeats 8000000
attribute [local irreducible] amOps amC opCall opIndexAddr opPick retQ opMake opStore amDraw opAppend opLoad opNilCmp opIndex opSlice

/-- The level at the head of round i. -/
def lvAt (xs : List Leg) (b : Bat) (lv : Int) (p : List Int) : Nat → Int
  | 0 => lv
  | k + 1 => afN xs b lv p k
theorem af_in {xs : List Leg} {b : Bat} {lv : Int} {p : List Int} (hc : chgOk xs b lv = true) (hp : plOk xs p = true) {i : Nat} (hi : i < xs.length) : -130000 ≤ afN xs b lv p i ∧ afN xs b lv p i ≤ b.cap := by
  have h1 := bf_in hc hp i hi
  have h2 := (legs_at (chg_at hc).1).2 i hi
  have h3 := (legs_at (chg_at hc).1).1
  unfold afN
  omega

theorem c25 (xs : List Leg) (b : Bat) (lv : Int) (p : List Int) (hc : chgOk xs b lv = true) (hp : plOk xs p = true) :
    CallOk Try.prog 25 [.imm (.list (xs.map Leg.enc)), .imm (.agg (batE b)), .imm (.int .i64 lv), .imm (.list (p.map intRow))] { res := [.imm (.list ((afL xs b lv p).map intRow)), .imm (.list ((bfL xs b lv p).map intRow))] } := by
  refine callOk_of tyOk Try.func25 rfl rfl (le_of_ble rfl) (le_of_ble rfl) (mutOk_imm rfl _) ?_
  obtain ⟨hv, hbo, hlv⟩ := chg_at hc
  have hn := (legs_at hv).1
  have hbt := bat_at hbo
  obtain ⟨q1, q2⟩ := pl_iff.1 hp
  have hlm : ((xs.map Leg.enc).length : Int) = xs.length := by rw [List.length_map]
  have hlN : (xs.map Leg.enc).length = xs.length := List.length_map _
  repeat' first | refine go_seq ?_ | refine go_region ?_ | refine go_draw drawsOk ?_ | ((first | refine go_op rfl ?_ | refine go_nil ?_ | refine go_storeBox rfl rfl rfl rfl rfl rfl ?_ | refine go_dop rfl ?_ | refine go_dend (by kernel_rfl) ?_ | refine go_makeN rfl rfl rfl rfl rfl rfl rfl rfl rfl (by omega) (by omega) ?_) <;> conv => whnf) | ((first | refine go_loadB ?_ | refine ⟨by kernel_rfl, ?_⟩ | refine go_ret ?_) <;> conv => whnf) | refine go_block ?_ | ((first | refine go_skip ?_ | refine go_exit ?_) <;> conv => whnf) | refine go_true rfl ?_ | refine go_false rfl ?_ | refine go_cond rfl (fun h => ?_) (fun h => ?_) | refine ⟨rfl, ?_⟩ | ((first | refine ⟨trivial, ?_⟩ | refine ⟨le_of_ble rfl, ?_⟩) <;> conv => whnf) | fail
  refine go_loop (α := Nat) (fun i => i ≤ xs.length) (fun i => xs.length - i)
    (fun i => st Try.f25.ntmps [(2, .imm (.int .i64 (lvAt xs b lv p i))), (3, .imm (.list (p.map intRow))), (5, .box 1002 0), (10, .own 1000 0 (xs.map Leg.enc).length), (11, .own 1001 0 (xs.map Leg.enc).length), (20, .imm (.list (xs.map Leg.enc))), (21, .imm (.int .i64 (xs.map Leg.enc).length)), (22, .imm (.int .i64 (i : Nat)))]
      [(1000, .arr 3 1 (fill (fun k => intRow (afN xs b lv p k)) ty3.zero (List.range xs.length) i)), (1001, .arr 3 1 (fill (fun k => intRow (bfN xs b lv p k)) ty3.zero (List.range xs.length) i)), (1002, .box 26 ((batE b).map .imm))] []) 0 (Nat.zero_le _) ?_ ?_
  · refine ref_st (fun i => if i = 1000 then nid 2 16 else if i = 1001 then nid 2 19 else nid 1 5) rfl ⟨rfl, rfl, ⟨rfl, rfl⟩, ⟨rfl, rfl⟩, ⟨rfl, rfl⟩, rfl, rfl, rfl, trivial⟩ ⟨?_, ?_, ⟨rfl, wavs_imm _⟩, trivial⟩ (by simp [nid]) rfl (by simp)
    · show some _ = some _
      rw [← fill_0, List.length_range, ← hlN]; rfl
    · show some _ = some _
      rw [← fill_0, List.length_range, ← hlN]; rfl
  intro i hi
  cases hx : xs[i]? with
  | none =>
    have hge := le_of_at hx
    repeat' first | refine go_seq ?_ | refine go_region ?_ | refine go_draw drawsOk ?_ | ((first | refine go_op rfl ?_ | refine go_nil ?_ | refine go_storeBox rfl rfl rfl rfl rfl rfl ?_ | refine go_dop rfl ?_ | refine go_dend (by kernel_rfl) ?_) <;> conv => whnf) | ((first | refine go_loadB ?_ | refine ⟨by kernel_rfl, ?_⟩ | refine go_ret ?_) <;> conv => whnf) | refine go_block ?_ | ((first | refine go_skip ?_ | refine go_exit ?_) <;> conv => whnf) | refine go_true rfl ?_ | refine go_false rfl ?_ | refine go_cond rfl (fun h => ?_) (fun h => ?_) | refine ⟨rfl, ?_⟩ | ((first | refine ⟨trivial, ?_⟩ | refine ⟨le_of_ble rfl, ?_⟩) <;> conv => whnf) | fail
    all_goals first
      | (exfalso; simp only [decide_eq_true_eq, decide_eq_false_iff_not, hlm] at *; omega)
      | (refine ret_all rfl ⟨⟨?_, (fun _ => ?_), by show _ ∉ ([] : List Nat); simp⟩, ⟨?_, (fun _ => ?_), by show _ ∉ ([] : List Nat); simp⟩, trivial⟩ (by show [1000, 1001].Nodup; simp) List.nodup_nil trivial
         · show D.list _ = D.list _
           rw [fill_end _ _ _ (by rw [List.length_range]; exact hge), List.drop_zero, List.take_of_length_le (by simp)]
           unfold afL; rw [List.map_map]; rfl
         · rw [fill_end _ _ _ (by rw [List.length_range]; exact hge), List.drop_zero, List.take_of_length_le (by simp)]
           intro x hx; obtain ⟨v, _, rfl⟩ := List.mem_map.1 hx; rfl
         · show D.list _ = D.list _
           rw [fill_end _ _ _ (by rw [List.length_range]; exact hge), List.drop_zero, List.take_of_length_le (by simp)]
           unfold bfL; rw [List.map_map]; rfl
         · rw [fill_end _ _ _ (by rw [List.length_range]; exact hge), List.drop_zero, List.take_of_length_le (by simp)]
           intro x hx; obtain ⟨v, _, rfl⟩ := List.mem_map.1 hx; rfl)
      | trace_state
  | some l =>
    have hlt := lt_of_at hx
    have hr := row_at Leg.enc hx
    have hxr : (List.range xs.length)[i]? = some i := List.getElem?_range hlt
    have haf := af_in hc hp hlt
    have hlu := legAt_of hx
    have hwa : IntKind.i64.wrap (bfN xs b lv p i - l.use) = afN xs b lv p i := by
      unfold afN at haf ⊢
      rw [hlu] at haf ⊢
      exact wrap_small (by omega) (by omega)
    have hb1 := bf_in hc hp i hlt
    have hsA : (fill (fun k => intRow (afN xs b lv p k)) ty3.zero (List.range xs.length) i).set i [D.int .i64 (IntKind.i64.wrap (bfN xs b lv p i - l.use))] = fill (fun k => intRow (afN xs b lv p k)) ty3.zero (List.range xs.length) (i + 1) := by
      rw [hwa]; exact fill_set _ _ hxr
    have hsB : (fill (fun k => intRow (bfN xs b lv p k)) ty3.zero (List.range xs.length) i).set i [D.int .i64 (bfN xs b lv p i)] = fill (fun k => intRow (bfN xs b lv p k)) ty3.zero (List.range xs.length) (i + 1) := fill_set _ _ hxr
    have hil : i < (xs.map Leg.enc).length := by omega
    cases i with
    | zero =>
      repeat' first | refine go_seq ?_ | refine go_region ?_ | refine go_draw drawsOk ?_ | ((first | refine go_op rfl ?_ | refine go_nil ?_ | refine go_storeBox rfl rfl rfl rfl rfl rfl ?_ | refine go_dop rfl ?_ | refine go_dend (by kernel_rfl) ?_ | refine go_idx rfl rfl rfl rfl (by omega) hr rfl ?_ | refine go_idxOwn rfl rfl rfl rfl rfl rfl hil ?_ | refine go_storeRow rfl rfl rfl rfl (fill_at _ _ hxr) rfl rfl hsA ?_ | refine go_storeRow rfl rfl rfl rfl (fill_at _ _ hxr) rfl rfl hsB ?_) <;> conv => whnf) | ((first | refine go_loadB ?_ | refine ⟨by kernel_rfl, ?_⟩ | refine go_ret ?_) <;> conv => whnf) | refine go_block ?_ | ((first | refine go_skip ?_ | refine go_exit ?_) <;> conv => whnf) | refine go_true rfl ?_ | refine go_false rfl ?_ | refine go_cond rfl (fun h => ?_) (fun h => ?_) | refine ⟨rfl, ?_⟩ | ((first | refine ⟨trivial, ?_⟩ | refine ⟨le_of_ble rfl, ?_⟩) <;> conv => whnf) | fail
      all_goals first
        | (exfalso; simp only [decide_eq_true_eq, decide_eq_false_iff_not, hlm] at *; omega)
        | (refine go_next 1 (by omega) (by omega) (ref_st id rfl ⟨?_, rfl, ⟨rfl, rfl⟩, ⟨rfl, rfl⟩, ⟨rfl, rfl⟩, rfl, rfl, next_i (by omega), trivial⟩ ⟨rfl, rfl, ⟨rfl, wavs_imm _⟩, trivial⟩ (by simp) rfl (by simp))
           exact congrArg (fun z => AV.imm (.int .i64 z)) hwa)
        | trace_state
    | succ k =>
      have hkx : k < xs.length := by omega
      have hpk : p[k]? = some p[k] := List.getElem?_eq_getElem (by omega)
      have hrp := row_at intRow hpk
      have hpl := plAt_of hpk
      have hrm := rate_pl hc hp (i := k) hlt
      have hak := af_in hc hp hkx
      have hw : IntKind.i64.wrap (((k + 1 : Nat) : Int) - 1) = (k : Int) := by rw [wrap_small (by omega) (by omega)]; omega
      have hC : CallOk Try.prog 32 [.imm (.agg (batE b)), .imm (.int .i64 (afN xs b lv p k)), .imm (.int .i64 p[k])] { res := [.imm (.int .i64 (bfN xs b lv p (k + 1)))] } := by
        rw [← hpl]
        exact c32 b (afN xs b lv p k) (plAt p k) (by omega) (by omega) (by omega)
      repeat' first | refine go_seq ?_ | refine go_region ?_ | refine go_draw drawsOk ?_ | ((first | refine go_op rfl ?_ | refine go_nil ?_ | refine go_storeBox rfl rfl rfl rfl rfl rfl ?_ | refine go_dop rfl ?_ | refine go_dend (by kernel_rfl) ?_ | refine go_call [] (hC) rfl rfl rfl rfl ?_ | refine go_idx rfl rfl rfl rfl (by omega) hr rfl ?_ | refine go_idx (i := IntKind.i64.wrap (((k + 1 : Nat) : Int) - 1)) rfl rfl rfl rfl (by rw [hw]; omega) (by rw [hw]; exact hrp) rfl ?_ | refine go_idxOwn rfl rfl rfl rfl rfl rfl hil ?_ | refine go_storeRow rfl rfl rfl rfl (fill_at _ _ hxr) rfl rfl hsA ?_ | refine go_storeRow rfl rfl rfl rfl (fill_at _ _ hxr) rfl rfl hsB ?_) <;> conv => whnf) | ((first | refine go_loadB ?_ | refine ⟨by kernel_rfl, ?_⟩ | refine go_ret ?_) <;> conv => whnf) | refine go_block ?_ | ((first | refine go_skip ?_ | refine go_exit ?_) <;> conv => whnf) | refine go_true rfl ?_ | refine go_false rfl ?_ | refine go_cond rfl (fun h => ?_) (fun h => ?_) | refine ⟨rfl, ?_⟩ | ((first | refine ⟨trivial, ?_⟩ | refine ⟨le_of_ble rfl, ?_⟩) <;> conv => whnf) | fail
      all_goals first
        | (exfalso; simp only [decide_eq_true_eq, decide_eq_false_iff_not, hlm] at *; omega)
        | (refine go_next (k + 2) (by omega) (by omega) (ref_st id rfl ⟨?_, rfl, ⟨rfl, rfl⟩, ⟨rfl, rfl⟩, ⟨rfl, rfl⟩, rfl, rfl, next_i (by omega), trivial⟩ ⟨rfl, rfl, ⟨rfl, wavs_imm _⟩, trivial⟩ (by simp) rfl (by simp))
           exact congrArg (fun z => AV.imm (.int .i64 z)) hwa)
        | trace_state

def bfJ (xs : List Leg) (b : Bat) (lv : Int) (p : List Int) (j : Nat) : List Int := (List.range j).map (bfN xs b lv p)
theorem bfJ_next (xs : List Leg) (b : Bat) (lv : Int) (p : List Int) (j : Nat) : bfJ xs b lv p (j + 1) = bfJ xs b lv p j ++ [bfN xs b lv p j] := by
  unfold bfJ; rw [List.range_succ, List.map_append]; rfl
theorem bfJ_len (xs : List Leg) (b : Bat) (lv : Int) (p : List Int) (j : Nat) : (bfJ xs b lv p j).length = j := by unfold bfJ; simp

theorem c29 (xs : List Leg) (b : Bat) (lv : Int) (p : List Int) (hc : chgOk xs b lv = true) (hp : plOk xs p = true) :
    CallOk Try.prog 29 [.imm (.list (xs.map Leg.enc)), .imm (.agg (batE b)), .imm (.int .i64 lv), .imm (.list (p.map intRow))] { res := [.imm (.list ((bfL xs b lv p).map intRow))] } := by
  refine callOk_of tyOk Try.func29 rfl rfl (le_of_ble rfl) (le_of_ble rfl) (mutOk_imm rfl _) ?_
  obtain ⟨hv, hbo, hlv⟩ := chg_at hc
  have hn := (legs_at hv).1
  have hbt := bat_at hbo
  obtain ⟨q1, q2⟩ := pl_iff.1 hp
  have hlm : ((xs.map Leg.enc).length : Int) = xs.length := by rw [List.length_map]
  repeat' first | refine go_seq ?_ | refine go_region ?_ | refine go_draw drawsOk ?_ | ((first | refine go_op rfl ?_ | refine go_nil ?_ | refine go_dop rfl ?_ | refine go_dend (by kernel_rfl) ?_) <;> conv => whnf) | ((first | refine go_loadB ?_ | refine ⟨by kernel_rfl, ?_⟩ | refine go_ret ?_) <;> conv => whnf) | refine go_block ?_ | ((first | refine go_skip ?_ | refine go_exit ?_) <;> conv => whnf) | refine go_true rfl ?_ | refine go_false rfl ?_ | refine go_cond rfl (fun h => ?_) (fun h => ?_) | refine ⟨rfl, ?_⟩ | ((first | refine ⟨trivial, ?_⟩ | refine ⟨le_of_ble rfl, ?_⟩) <;> conv => whnf) | fail
  refine go_loop (α := Nat) (fun j => j + 1 ≤ xs.length) (fun j => xs.length - j)
    (fun j => st Try.f29.ntmps [(0, .imm (.list (xs.map Leg.enc))), (2, .imm (.int .i64 (bfN xs b lv p j))), (3, .imm (.list (p.map intRow))), (5, .box 1002 0), (9, .own 1000 0 ((bfJ xs b lv p (j + 1)).map intRow).length), (10, .imm (.int .i64 ((j + 1 : Nat) : Int)))]
      [(1000, .arr 3 1 ((bfJ xs b lv p (j + 1)).map intRow)), (1002, .box 26 ((batE b).map .imm))] []) 0 (by omega) ?_ ?_
  · exact ref_st (fun i => if i = 1000 then nid 2 12 else nid 1 5) rfl ⟨rfl, rfl, rfl, ⟨rfl, rfl⟩, ⟨rfl, rfl⟩, rfl, trivial⟩ ⟨rfl, ⟨rfl, wavs_imm _⟩, trivial⟩ (by simp [nid]) rfl (by simp)
  intro j hj
  by_cases hlast : j + 1 = xs.length
  · skip
    repeat' first | refine go_seq ?_ | refine go_region ?_ | refine go_draw drawsOk ?_ | ((first | refine go_op rfl ?_ | refine go_nil ?_ | refine go_dop rfl ?_ | refine go_dend (by kernel_rfl) ?_) <;> conv => whnf) | ((first | refine go_loadB ?_ | refine ⟨by kernel_rfl, ?_⟩ | refine go_ret ?_) <;> conv => whnf) | refine go_block ?_ | ((first | refine go_skip ?_ | refine go_exit ?_) <;> conv => whnf) | refine go_true rfl ?_ | refine go_false rfl ?_ | refine go_cond rfl (fun h => ?_) (fun h => ?_) | refine ⟨rfl, ?_⟩ | ((first | refine ⟨trivial, ?_⟩ | refine ⟨le_of_ble rfl, ?_⟩) <;> conv => whnf) | fail
    all_goals first
      | (exfalso; simp only [decide_eq_true_eq, decide_eq_false_iff_not, hlm] at *; omega)
      | (refine ret_own rfl rfl rfl rfl rfl ?_ (int_gr _)
         rw [List.drop_zero, List.take_length, hlast]; rfl)
      | trace_state
  · have hjl : j + 1 < xs.length := by omega
    have hx : xs[j]? = some xs[j] := List.getElem?_eq_getElem (by omega)
    have hpk : p[j]? = some p[j] := List.getElem?_eq_getElem (by omega)
    have hr := row_at Leg.enc hx
    have hrp := row_at intRow hpk
    have hpl := plAt_of hpk
    have hlu := legAt_of hx
    have hrm := rate_pl hc hp (i := j) hjl
    have haf := af_in hc hp (i := j) (by omega)
    have hw : IntKind.i64.wrap (((j + 1 : Nat) : Int) - 1) = (j : Int) := by rw [wrap_small (by omega) (by omega)]; omega
    have hw1 : IntKind.i64.wrap (bfN xs b lv p j - xs[j].use) = afN xs b lv p j := by
      unfold afN at haf ⊢
      rw [hlu] at haf ⊢
      exact wrap_small (by omega) (by omega)
    have hw2 : IntKind.i64.wrap (b.rate * p[j]) = b.rate * plAt p j := by rw [hpl]; rw [hpl] at hrm; exact wrap_small (by omega) (by omega)
    have hw3 : IntKind.i64.wrap (afN xs b lv p j + b.rate * plAt p j) = afN xs b lv p j + b.rate * plAt p j := wrap_small (by omega) (by omega)
    have hL : CallOk Try.prog 41 [.imm (.int .i64 (IntKind.i64.wrap (IntKind.i64.wrap (bfN xs b lv p j - xs[j].use) + IntKind.i64.wrap (b.rate * p[j])))), .imm (.int .i64 b.cap)] { res := [.imm (.int .i64 (bfN xs b lv p (j + 1)))] } := by
      rw [hw1, hw2, hw3]
      exact c41 _ _
    have hone := int_one [bfN xs b lv p (j + 1)]
    have hbd : ((bfJ xs b lv p (j + 1)).map intRow).length + 1 ≤ 1073741824 := by rw [List.length_map, bfJ_len]; omega
    have hnx := bfJ_next xs b lv p (j + 1)
    repeat' first | refine go_seq ?_ | refine go_region ?_ | refine go_draw drawsOk ?_ | ((first | refine go_op rfl ?_ | refine go_nil ?_ | refine go_dop rfl ?_ | refine go_dend (by kernel_rfl) ?_ | refine go_call [] (hL) rfl rfl rfl rfl ?_ | refine go_idx (i := IntKind.i64.wrap (((j + 1 : Nat) : Int) - 1)) rfl rfl rfl rfl (by rw [hw]; omega) (by rw [hw]; exact hrp) rfl ?_ | refine go_idx (i := IntKind.i64.wrap (((j + 1 : Nat) : Int) - 1)) rfl rfl rfl rfl (by rw [hw]; omega) (by rw [hw]; exact hr) rfl ?_ | refine go_append (rows2 := [bfN xs b lv p (j + 1)].map intRow) rfl rfl rfl rfl rfl rfl rfl rfl rfl rfl rfl rfl hone rfl rfl rfl hbd ?_) <;> conv => whnf) | ((first | refine go_loadB ?_ | refine ⟨by kernel_rfl, ?_⟩ | refine go_ret ?_) <;> conv => whnf) | refine go_block ?_ | ((first | refine go_skip ?_ | refine go_exit ?_) <;> conv => whnf) | refine go_true rfl ?_ | refine go_false rfl ?_ | refine go_cond rfl (fun h => ?_) (fun h => ?_) | refine ⟨rfl, ?_⟩ | ((first | refine ⟨trivial, ?_⟩ | refine ⟨le_of_ble rfl, ?_⟩) <;> conv => whnf) | fail
    all_goals first
      | (exfalso; simp only [decide_eq_true_eq, decide_eq_false_iff_not, hlm] at *; omega)
      | (refine go_next (j + 1) (by omega) (by omega) (ref_st (fun i => if i = 1000 then nid 4 42 else i) rfl ⟨rfl, rfl, rfl, ⟨rfl, rfl⟩, ⟨?_, rfl⟩, next_i (by omega), trivial⟩ ⟨?_, ⟨rfl, wavs_imm _⟩, trivial⟩ (by simp [nid]) rfl (by simp))
         · show AV.own _ _ _ = AV.own _ _ _
           rw [hnx, List.map_append, List.length_append]; try rfl
         · show some _ = some _
           rw [hnx, List.map_append]; try rfl)
      | trace_state
end Go.Proofs.Ytmijabfckmgaiaa

