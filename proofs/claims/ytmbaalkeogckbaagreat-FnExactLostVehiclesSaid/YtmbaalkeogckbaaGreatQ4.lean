/- The matches of all vehicles: the reference. MADE BY PROGRAM (q4.py). -/
import Derived.Test.YtmbaalkeogckbaaGreatQL
namespace Go.Proofs.YtmbaalkeogckbaaGreat
open Go Go.Am Go.Proofs
set_option maxRecDepth 100000
set_option maxHeartbeats 4000000
attribute [local irreducible] amOps amC opCall opIndexAddr opPick retQ opMake opStore amDraw opAppend opLoad opNilCmp opIndex opSlice

theorem c86 (xs : List Int) (x : Int) (hl : xs.length ≤ 1048576) : CallOk Tryz.prog 86 [.imm (.list (xs.map intRow)), .imm (.int .i64 x)] { res := [.imm (.bool (xs.any (hasI x)))] } := by
  refine callOk_of tyOk Tryz.func86 rfl rfl (le_of_ble rfl) (le_of_ble rfl) (mutOk_imm rfl _) ?_
  repeat' first | refine go_seq ?_ | refine go_region ?_ | ((first | refine go_op rfl ?_ | refine go_nil ?_) <;> conv => whnf) | ((first | refine go_loadB ?_ | refine ⟨by kernel_rfl, ?_⟩ | refine go_ret ?_) <;> conv => whnf) | refine go_block ?_ | ((first | refine go_skip ?_ | refine go_exit ?_) <;> conv => whnf) | refine go_true rfl ?_ | refine go_false rfl ?_ | refine go_cond rfl (fun h => ?_) (fun h => ?_) | refine ⟨rfl, ?_⟩ | ((first | refine ⟨trivial, ?_⟩ | refine ⟨le_of_ble rfl, ?_⟩) <;> conv => whnf) | fail
  refine go_loop (α := Nat) (fun i => i ≤ xs.length ∧ (xs.take i).any (hasI x) = false) (fun i => xs.length - i) (fun i => st Tryz.f86.ntmps [(0, .imm (.list (xs.map intRow))), (1, .imm (.int .i64 x)), (5, .imm (.int .i64 (i : Nat)))] [] []) 0
    ⟨Nat.zero_le _, rfl⟩ (ref_st0 rfl ⟨rfl, rfl, rfl, trivial⟩ rfl) ?_
  rintro i ⟨hi, ha⟩
  cases hx : xs[i]? with
  | none =>
    have hge := le_of_at hx
    rw [List.take_of_length_le hge] at ha
    repeat' first | refine go_seq ?_ | refine go_region ?_ | ((first | refine go_op rfl ?_ | refine go_nil ?_) <;> conv => whnf) | ((first | refine go_loadB ?_ | refine ⟨by kernel_rfl, ?_⟩ | refine go_ret ?_) <;> conv => whnf) | refine go_block ?_ | ((first | refine go_skip ?_ | refine go_exit ?_) <;> conv => whnf) | refine go_true rfl ?_ | refine go_false rfl ?_ | refine go_cond rfl (fun h => ?_) (fun h => ?_) | refine ⟨rfl, ?_⟩ | ((first | refine ⟨trivial, ?_⟩ | refine ⟨le_of_ble rfl, ?_⟩) <;> conv => whnf) | fail
    all_goals first
      | (exfalso; simp at h; omega)
      | exact ret_imm rfl rfl rfl rfl (by rw [ha]) rfl
  | some v =>
    have hlt := lt_of_at hx
    have hr := row_at intRow hx
    repeat' first | refine go_seq ?_ | refine go_region ?_ | ((first | refine go_op rfl ?_ | refine go_nil ?_ | refine go_idx rfl rfl rfl rfl (by omega) hr rfl ?_) <;> conv => whnf) | ((first | refine go_loadB ?_ | refine ⟨by kernel_rfl, ?_⟩ | refine go_ret ?_) <;> conv => whnf) | refine go_block ?_ | ((first | refine go_skip ?_ | refine go_exit ?_) <;> conv => whnf) | refine go_true rfl ?_ | refine go_false rfl ?_ | refine go_cond rfl (fun h => ?_) (fun h => ?_) | refine ⟨rfl, ?_⟩ | ((first | refine ⟨trivial, ?_⟩ | refine ⟨le_of_ble rfl, ?_⟩) <;> conv => whnf) | fail
    all_goals first
      | (have hv : hasI x v = true := h
         have ht : xs.any (hasI x) = true := List.any_eq_true.2 ⟨v, List.mem_of_getElem? hx, hv⟩
         exact ret_imm rfl rfl rfl rfl (by rw [ht]) rfl)
      | exact go_next (i + 1) ⟨by omega, any_next hx ha h⟩ (by omega) (ref_st0 rfl ⟨rfl, rfl, next_i (by omega), trivial⟩ rfl)
      | (exfalso; simp at h; omega)

theorem c87 (x y : Match) : CallOk Tryz.prog 87 [.imm (.agg x.enc), .imm (.agg y.enc)] { res := [.imm (.bool (mLt x y))] } := by
  refine callOk_of tyOk Tryz.func87 rfl rfl (le_of_ble rfl) (le_of_ble rfl) (mutOk_imm rfl _) ?_
  have h0 := c85 x.delay
  have h00 := c85 y.delay
  repeat' first | refine go_seq ?_ | refine go_region ?_ | refine go_miss rfl rfl rfl ?_ | refine go_undef rfl rfl rfl ?_ | refine go_draw drawsOk ?_ | ((first | refine go_op rfl ?_ | refine go_nil ?_ | refine go_hit rfl rfl rfl ?_ | refine go_splitT rfl rfl rfl (fun h => ?_) (fun h => ?_) | refine go_splitF rfl rfl rfl (fun h => ?_) (fun h => ?_) | refine go_dop rfl ?_ | refine go_dhit rfl rfl ?_ | refine go_dmiss rfl rfl ?_ | refine go_dundef rfl rfl ?_ | refine go_dend (by kernel_rfl) ?_ | refine go_pickT rfl ?_ | refine go_pickF rfl ?_ | refine go_pick rfl (fun h => ?_) (fun h => ?_) | refine go_call [] (h0) rfl rfl rfl rfl ?_ | refine go_call [] (h00) rfl rfl rfl rfl ?_) <;> conv => whnf) | ((first | refine go_dsplit2 rfl (fun h => ?_) (fun h => ?_) | refine go_loadB ?_ | refine ⟨by kernel_rfl, ?_⟩ | refine go_ret ?_) <;> conv => whnf) | ((first | refine go_skip ?_) <;> conv => whnf) | refine ⟨rfl, ?_⟩ | ((first | refine ⟨trivial, ?_⟩ | refine ⟨le_of_ble rfl, ?_⟩) <;> conv => whnf) | fail
  all_goals
    refine ret_imm rfl rfl rfl rfl ?_ rfl
    unfold mLt
    simp_all

def bestN (t : Timetable) (L : List Report) (limit : Int) (C : List Match) (i : Nat) : Match := ((L.take i).flatMap (fits t)).foldl (stepB limit C) zeroM
def bestK (t : Timetable) (L : List Report) (limit : Int) (C : List Match) (i : Nat) (f : List Match) (k : Nat) : Match := (f.take k).foldl (stepB limit C) (bestN t L limit C i)
theorem bestK_end {t : Timetable} {L : List Report} (limit : Int) (C : List Match) {i : Nat} {r : Report} (h : L[i]? = some r) {k : Nat} (hk : (fits t r).length ≤ k) : bestK t L limit C i (fits t r) k = bestN t L limit C (i + 1) := by
  unfold bestK bestN
  rw [List.take_of_length_le hk, flat_take (fits t) h, List.foldl_append]
theorem bestK_next (t : Timetable) (L : List Report) (limit : Int) (C : List Match) (i : Nat) {f : List Match} {k : Nat} {m : Match} (h : f[k]? = some m) : bestK t L limit C i f (k + 1) = stepB limit C (bestK t L limit C i f k) m := by
  unfold bestK
  rw [List.take_add_one, h, List.foldl_append]
  rfl
theorem bestN_all (t : Timetable) (rs : List Report) (hv : vehOk rs) (limit : Int) (C : List Match) : bestN t (lasts 100 rs) limit C (lasts 100 rs).length = ((sortL mLt (nearL t rs limit)).find? (fun m => !hits C m)).getD zeroM := by
  unfold bestN
  rw [List.take_length]
  exact fold_best limit C (allM t rs) (allM_veh hv)
theorem near_veh {t : Timetable} {rs : List Report} (hv : vehOk rs) (limit : Int) : ∀ m ∈ sortL mLt (nearL t rs limit), m.vehicle ≠ 0 := fun m hm => allM_veh hv m (List.mem_filter.1 (mem_sortL hm)).1


theorem c48 (t : Timetable) (hok : ttOk t = true) (rs : List Report) (hv : vehOk rs) (hl : rs.length ≤ 1048576) (limit : Int) : CallOk Tryz.prog 48 [.imm (.agg t.enc), .imm (.list (rs.map Report.enc)), .imm (.int .i64 limit)] { res := [.imm (.list ((matched t rs limit).map Match.enc))] } := by
  refine callOk_of tyOk Tryz.func48 rfl rfl (le_of_ble rfl) (le_of_ble rfl) (mutOk_imm rfl _) ?_
  have h12 := tt_12 hok
  have hc0 := c83 rs hv hl
  have hLn := lasts_len 100 rs
  have hball := bestN_all t rs hv limit
  have hpv := near_veh (t := t) hv limit
  have hnl := chosen_len t rs limit
  unfold matched
  unfold chosen at hnl ⊢
  generalize sortL mLt (nearL t rs limit) = P at *
  generalize lasts 100 rs = L at *
  have hLl : (L.map Report.enc).length = L.length := List.length_map _
  repeat' first | refine go_seq ?_ | refine go_region ?_ | refine go_miss rfl rfl rfl ?_ | refine go_undef rfl rfl rfl ?_ | refine go_draw drawsOk ?_ | ((first | refine go_op rfl ?_ | refine go_nil ?_ | refine go_hit rfl rfl rfl ?_ | refine go_splitT rfl rfl rfl (fun h => ?_) (fun h => ?_) | refine go_splitF rfl rfl rfl (fun h => ?_) (fun h => ?_) | refine go_storeBox rfl rfl rfl rfl rfl rfl ?_ | refine go_dop rfl ?_ | refine go_dhit rfl rfl ?_ | refine go_dmiss rfl rfl ?_ | refine go_dundef rfl rfl ?_ | refine go_dend (by kernel_rfl) ?_ | refine go_pickT rfl ?_ | refine go_pickF rfl ?_ | refine go_pick rfl (fun h => ?_) (fun h => ?_) | refine go_call [] (hc0) rfl rfl rfl rfl ?_) <;> conv => whnf) | ((first | refine go_dsplit2 rfl (fun h => ?_) (fun h => ?_) | refine go_loadB ?_ | refine ⟨by kernel_rfl, ?_⟩ | refine go_ret ?_) <;> conv => whnf) | refine go_block ?_ | ((first | refine go_skip ?_ | refine go_exit ?_) <;> conv => whnf) | refine go_true rfl ?_ | refine go_false rfl ?_ | refine go_cond rfl (fun h => ?_) (fun h => ?_) | refine ⟨rfl, ?_⟩ | ((first | refine ⟨trivial, ?_⟩ | refine ⟨le_of_ble rfl, ?_⟩) <;> conv => whnf) | fail
  refine go_loop (α := List Match) (fun C => greedy P C = greedy P []) (fun C => (greedy P []).length - C.length)
    (fun C => st Tryz.f48.ntmps [(2, .imm (.int .i64 limit)), (3, .box 1000 0), (7, .own 1001 0 (sortL vLt C).length), (8, .imm (.list (L.map Report.enc))), (9, .own 1002 0 ((C.map Match.vehicle).map intRow).length), (10, .own 1003 0 ((C.map Match.id).map intRow).length)]
      [(1000, .box 40 (t.enc.map .imm)), (1001, .arr 93 3 ((sortL vLt C).map Match.enc)), (1002, .arr 3 1 ((C.map Match.vehicle).map intRow)), (1003, .arr 3 1 ((C.map Match.id).map intRow))] []) [] rfl ?_ ?_
  · exact ref_st (fun y => if y = 1000 then nid 1 3 else if y = 1001 then nid 2 17 else if y = 1002 then nid 4 20 else nid 4 21) rfl ⟨rfl, ⟨rfl, rfl⟩, ⟨rfl, rfl⟩, rfl, ⟨rfl, rfl⟩, ⟨rfl, rfl⟩, trivial⟩ ⟨⟨rfl, wavs_imm _⟩, rfl, rfl, rfl, trivial⟩ (by simp [nid]) rfl (by simp)
  intro C hinv
  have hgl := (greedy_len P C).1
  rw [hinv] at hgl
  have hCv : ((C.map Match.vehicle).map intRow).length = C.length := by simp
  have hCi : ((C.map Match.id).map intRow).length = C.length := by simp
  repeat' first | refine go_seq ?_ | refine go_region ?_ | refine go_miss rfl rfl rfl ?_ | refine go_undef rfl rfl rfl ?_ | refine go_draw drawsOk ?_ | ((first | refine go_op rfl ?_ | refine go_nil ?_ | refine go_hit rfl rfl rfl ?_ | refine go_splitT rfl rfl rfl (fun h => ?_) (fun h => ?_) | refine go_splitF rfl rfl rfl (fun h => ?_) (fun h => ?_) | refine go_storeBox rfl rfl rfl rfl rfl rfl ?_ | refine go_dop rfl ?_ | refine go_dhit rfl rfl ?_ | refine go_dmiss rfl rfl ?_ | refine go_dundef rfl rfl ?_ | refine go_dend (by kernel_rfl) ?_ | refine go_pickT rfl ?_ | refine go_pickF rfl ?_ | refine go_pick rfl (fun h => ?_) (fun h => ?_)) <;> conv => whnf) | ((first | refine go_dsplit2 rfl (fun h => ?_) (fun h => ?_) | refine go_loadB ?_ | refine ⟨by kernel_rfl, ?_⟩ | refine go_ret ?_) <;> conv => whnf) | refine go_block ?_ | ((first | refine go_skip ?_ | refine go_exit ?_) <;> conv => whnf) | refine go_true rfl ?_ | refine go_false rfl ?_ | refine go_cond rfl (fun h => ?_) (fun h => ?_) | refine ⟨rfl, ?_⟩ | ((first | refine ⟨trivial, ?_⟩ | refine ⟨le_of_ble rfl, ?_⟩) <;> conv => whnf) | fail
  refine go_loop (α := Nat) (fun i => i ≤ L.length) (fun i => L.length - i)
    (fun i => st Tryz.f48.ntmps [(2, .imm (.int .i64 limit)), (3, .box 1000 0), (7, .own 1001 0 (sortL vLt C).length), (8, .imm (.list (L.map Report.enc))), (9, .own 1002 0 ((C.map Match.vehicle).map intRow).length), (10, .own 1003 0 ((C.map Match.id).map intRow).length), (11, .box 1004 0), (12, .imm (.int .i64 (i : Nat)))]
      [(1000, .box 40 (t.enc.map .imm)), (1001, .arr 93 3 ((sortL vLt C).map Match.enc)), (1002, .arr 3 1 ((C.map Match.vehicle).map intRow)), (1003, .arr 3 1 ((C.map Match.id).map intRow)), (1004, .box 93 ((bestN t L limit C i).enc.map .imm))] []) 0 (Nat.zero_le _) ?_ ?_
  · exact ref_st (fun y => if y = 1004 then nid 2 11 else y) rfl ⟨rfl, ⟨rfl, rfl⟩, ⟨rfl, rfl⟩, rfl, ⟨rfl, rfl⟩, ⟨rfl, rfl⟩, ⟨rfl, rfl⟩, rfl, trivial⟩ ⟨⟨rfl, wavs_imm _⟩, rfl, rfl, rfl, ⟨rfl, wavs_imm _⟩, trivial⟩ (by simp [nid]) rfl (by simp)
  intro i hi
  cases hx : L[i]? with
  | some r =>
    have hlt := lt_of_at hx
    have hr := row_at Report.enc hx
    have hc1 := c84 t h12 r
    have hfm : ((fits t r).map Match.enc).length = (fits t r).length := List.length_map _
    have hfl := fits_len t r
    repeat' first | refine go_seq ?_ | refine go_region ?_ | refine go_miss rfl rfl rfl ?_ | refine go_undef rfl rfl rfl ?_ | refine go_draw drawsOk ?_ | ((first | refine go_op rfl ?_ | refine go_nil ?_ | refine go_hit rfl rfl rfl ?_ | refine go_splitT rfl rfl rfl (fun h => ?_) (fun h => ?_) | refine go_splitF rfl rfl rfl (fun h => ?_) (fun h => ?_) | refine go_storeBox rfl rfl rfl rfl rfl rfl ?_ | refine go_dop rfl ?_ | refine go_dhit rfl rfl ?_ | refine go_dmiss rfl rfl ?_ | refine go_dundef rfl rfl ?_ | refine go_dend (by kernel_rfl) ?_ | refine go_pickT rfl ?_ | refine go_pickF rfl ?_ | refine go_pick rfl (fun h => ?_) (fun h => ?_) | refine go_call [] (hc1) rfl rfl rfl rfl ?_ | refine go_idx rfl rfl rfl rfl (by omega) hr rfl ?_) <;> conv => whnf) | ((first | refine go_dsplit2 rfl (fun h => ?_) (fun h => ?_) | refine go_loadB ?_ | refine ⟨by kernel_rfl, ?_⟩ | refine go_ret ?_) <;> conv => whnf) | refine go_block ?_ | ((first | refine go_skip ?_ | refine go_exit ?_) <;> conv => whnf) | refine go_true rfl ?_ | refine go_false rfl ?_ | refine go_cond rfl (fun h => ?_) (fun h => ?_) | refine ⟨rfl, ?_⟩ | ((first | refine ⟨trivial, ?_⟩ | refine ⟨le_of_ble rfl, ?_⟩) <;> conv => whnf) | fail
    all_goals try first
      | (exfalso; have h' := of_decide_eq_false h; omega)
      | (exfalso; have h' := of_decide_eq_true h; omega)
      | (exfalso; rename_i hq; have h' := of_decide_eq_true hq; omega)
      | (exfalso; rename_i hq; have h' := of_decide_eq_false hq; omega)
      | (exfalso; rename_i hq _; have h' := of_decide_eq_true hq; omega)
      | (exfalso; rename_i hq _; have h' := of_decide_eq_false hq; omega)
    refine go_loop (α := Nat) (fun k => k ≤ (fits t r).length) (fun k => (fits t r).length - k)
      (fun k => st Tryz.f48.ntmps [(2, .imm (.int .i64 limit)), (3, .box 1000 0), (7, .own 1001 0 (sortL vLt C).length), (8, .imm (.list (L.map Report.enc))), (9, .own 1002 0 ((C.map Match.vehicle).map intRow).length), (10, .own 1003 0 ((C.map Match.id).map intRow).length), (11, .box 1004 0), (12, .imm (.int .i64 (i : Nat))), (13, .imm (.list ((fits t r).map Match.enc))), (14, .imm (.int .i64 (k : Nat)))]
        [(1000, .box 40 (t.enc.map .imm)), (1001, .arr 93 3 ((sortL vLt C).map Match.enc)), (1002, .arr 3 1 ((C.map Match.vehicle).map intRow)), (1003, .arr 3 1 ((C.map Match.id).map intRow)), (1004, .box 93 ((bestK t L limit C i (fits t r) k).enc.map .imm))] []) 0 (Nat.zero_le _) ?_ ?_
    · exact ref_st id rfl ⟨rfl, ⟨rfl, rfl⟩, ⟨rfl, rfl⟩, rfl, ⟨rfl, rfl⟩, ⟨rfl, rfl⟩, ⟨rfl, rfl⟩, rfl, rfl, rfl, trivial⟩ ⟨⟨rfl, wavs_imm _⟩, rfl, rfl, rfl, ⟨rfl, wavs_imm _⟩, trivial⟩ (by simp) rfl (by simp)
    intro k hk
    cases hy : (fits t r)[k]? with
    | none =>
      have hge2 := le_of_at hy
      have hbe := bestK_end limit C hx hge2
      rw [hbe]
      repeat' first | refine go_seq ?_ | refine go_region ?_ | refine go_miss rfl rfl rfl ?_ | refine go_undef rfl rfl rfl ?_ | refine go_draw drawsOk ?_ | ((first | refine go_op rfl ?_ | refine go_nil ?_ | refine go_hit rfl rfl rfl ?_ | refine go_splitT rfl rfl rfl (fun h => ?_) (fun h => ?_) | refine go_splitF rfl rfl rfl (fun h => ?_) (fun h => ?_) | refine go_storeBox rfl rfl rfl rfl rfl rfl ?_ | refine go_dop rfl ?_ | refine go_dhit rfl rfl ?_ | refine go_dmiss rfl rfl ?_ | refine go_dundef rfl rfl ?_ | refine go_dend (by kernel_rfl) ?_ | refine go_pickT rfl ?_ | refine go_pickF rfl ?_ | refine go_pick rfl (fun h => ?_) (fun h => ?_)) <;> conv => whnf) | ((first | refine go_dsplit2 rfl (fun h => ?_) (fun h => ?_) | refine go_loadB ?_ | refine ⟨by kernel_rfl, ?_⟩ | refine go_ret ?_) <;> conv => whnf) | refine go_block ?_ | ((first | refine go_skip ?_ | refine go_exit ?_) <;> conv => whnf) | refine go_true rfl ?_ | refine go_false rfl ?_ | refine go_cond rfl (fun h => ?_) (fun h => ?_) | refine ⟨rfl, ?_⟩ | ((first | refine ⟨trivial, ?_⟩ | refine ⟨le_of_ble rfl, ?_⟩) <;> conv => whnf) | fail
      all_goals first
        | exact go_next (i + 1) (by omega) (by omega) (ref_st id rfl ⟨rfl, ⟨rfl, rfl⟩, ⟨rfl, rfl⟩, rfl, ⟨rfl, rfl⟩, ⟨rfl, rfl⟩, ⟨rfl, rfl⟩, next_i (by omega), trivial⟩ ⟨⟨rfl, wavs_imm _⟩, rfl, rfl, rfl, ⟨rfl, wavs_imm _⟩, trivial⟩ (by simp) rfl (by simp))
        | (exfalso; have h' := of_decide_eq_false h; omega)
        | (exfalso; have h' := of_decide_eq_true h; omega)
        | (exfalso; rename_i hq; have h' := of_decide_eq_true hq; omega)
        | (exfalso; rename_i hq; have h' := of_decide_eq_false hq; omega)
        | (exfalso; rename_i hq _; have h' := of_decide_eq_true hq; omega)
        | (exfalso; rename_i hq _; have h' := of_decide_eq_false hq; omega)
        | trace_state
    | some m =>
      have hlt2 := lt_of_at hy
      have hr2 := row_at Match.enc hy
      have hnx := bestK_next t L limit C i hy
      generalize bestK t L limit C i (fits t r) k = b at *
      have hca := c85 m.delay
      have hcv : CallOk Tryz.prog 86 [.imm (.list ((((C.map Match.vehicle).map intRow).drop 0).take ((C.map Match.vehicle).map intRow).length)), .imm (.int .i64 m.vehicle)] { res := [.imm (.bool ((C.map Match.vehicle).any (hasI m.vehicle)))] } := by rw [int_view]; exact c86 (C.map Match.vehicle) m.vehicle (by rw [List.length_map]; omega)
      have hci : CallOk Tryz.prog 86 [.imm (.list ((((C.map Match.id).map intRow).drop 0).take ((C.map Match.id).map intRow).length)), .imm (.int .i64 m.id)] { res := [.imm (.bool ((C.map Match.id).any (hasI m.id)))] } := by rw [int_view]; exact c86 (C.map Match.id) m.id (by rw [List.length_map]; omega)
      have hcb := c87 m b
      have h2 := hits_two C m
      generalize (C.map Match.vehicle).any (hasI m.vehicle) = bv at *
      generalize (C.map Match.id).any (hasI m.id) = bi at *
      unfold stepB minB at hnx
      cases hn : nearM limit m with
      | false =>
        rw [hn] at hnx
        rw [if_neg (by simp)] at hnx
        unfold nearM at hn
        repeat' first | refine go_seq ?_ | refine go_region ?_ | refine go_miss rfl rfl rfl ?_ | refine go_undef rfl rfl rfl ?_ | refine go_draw drawsOk ?_ | ((first | refine go_op rfl ?_ | refine go_nil ?_ | refine go_hit rfl rfl rfl ?_ | refine go_splitT rfl rfl rfl (fun h => ?_) (fun h => ?_) | refine go_splitF rfl rfl rfl (fun h => ?_) (fun h => ?_) | refine go_storeBox rfl rfl rfl rfl rfl rfl ?_ | refine go_dop rfl ?_ | refine go_dhit rfl rfl ?_ | refine go_dmiss rfl rfl ?_ | refine go_dundef rfl rfl ?_ | refine go_dend (by kernel_rfl) ?_ | refine go_pickT rfl ?_ | refine go_pickF rfl ?_ | refine go_pick rfl (fun h => ?_) (fun h => ?_) | refine go_call [] (hca) rfl rfl rfl rfl ?_ | refine go_call [] (hcv) rfl rfl rfl rfl ?_ | refine go_call [] (hci) rfl rfl rfl rfl ?_ | refine go_idx rfl rfl rfl rfl (by omega) hr2 rfl ?_) <;> conv => whnf) | ((first | refine go_dsplit2 rfl (fun h => ?_) (fun h => ?_) | refine go_loadB ?_ | refine ⟨by kernel_rfl, ?_⟩ | refine go_ret ?_) <;> conv => whnf) | refine go_block ?_ | ((first | refine go_skip ?_ | refine go_exit ?_) <;> conv => whnf) | refine go_true rfl ?_ | refine go_false rfl ?_ | refine go_cond rfl (fun h => ?_) (fun h => ?_) | refine ⟨rfl, ?_⟩ | ((first | refine ⟨trivial, ?_⟩ | refine ⟨le_of_ble rfl, ?_⟩) <;> conv => whnf) | fail
        all_goals first
          | (refine go_next (k + 1) (by omega) (by omega) (ref_st id rfl ⟨rfl, ⟨rfl, rfl⟩, ⟨rfl, rfl⟩, rfl, ⟨rfl, rfl⟩, ⟨rfl, rfl⟩, ⟨rfl, rfl⟩, rfl, rfl, next_i (by omega), trivial⟩ ⟨⟨rfl, wavs_imm _⟩, rfl, rfl, rfl, ?_, trivial⟩ (by simp) rfl (by simp))
             rw [hnx]
             exact ⟨rfl, wavs_imm _⟩)
          | (exfalso; have h' := of_decide_eq_false h; omega)
          | (exfalso; have h' := of_decide_eq_true h; omega)
          | (exfalso; rename_i hq; have h' := of_decide_eq_true hq; omega)
          | (exfalso; rename_i hq; have h' := of_decide_eq_false hq; omega)
          | (exfalso; rename_i hq _; have h' := of_decide_eq_true hq; omega)
          | (exfalso; rename_i hq _; have h' := of_decide_eq_false hq; omega)
          | (exfalso; simp only [decide_eq_true_eq, decide_eq_false_iff_not] at *; omega)
          | trace_state
      | true =>
        rw [hn, h2] at hnx
        unfold nearM at hn
        cases bv with
        | true =>
          rw [if_neg (by simp)] at hnx
          repeat' first | refine go_seq ?_ | refine go_region ?_ | refine go_miss rfl rfl rfl ?_ | refine go_undef rfl rfl rfl ?_ | refine go_draw drawsOk ?_ | ((first | refine go_op rfl ?_ | refine go_nil ?_ | refine go_hit rfl rfl rfl ?_ | refine go_splitT rfl rfl rfl (fun h => ?_) (fun h => ?_) | refine go_splitF rfl rfl rfl (fun h => ?_) (fun h => ?_) | refine go_storeBox rfl rfl rfl rfl rfl rfl ?_ | refine go_dop rfl ?_ | refine go_dhit rfl rfl ?_ | refine go_dmiss rfl rfl ?_ | refine go_dundef rfl rfl ?_ | refine go_dend (by kernel_rfl) ?_ | refine go_pickT rfl ?_ | refine go_pickF rfl ?_ | refine go_pick rfl (fun h => ?_) (fun h => ?_) | refine go_call [] (hca) rfl rfl rfl rfl ?_ | refine go_call [] (hcv) rfl rfl rfl rfl ?_ | refine go_call [] (hci) rfl rfl rfl rfl ?_ | refine go_idx rfl rfl rfl rfl (by omega) hr2 rfl ?_) <;> conv => whnf) | ((first | refine go_dsplit2 rfl (fun h => ?_) (fun h => ?_) | refine go_loadB ?_ | refine ⟨by kernel_rfl, ?_⟩ | refine go_ret ?_) <;> conv => whnf) | refine go_block ?_ | ((first | refine go_skip ?_ | refine go_exit ?_) <;> conv => whnf) | refine go_true rfl ?_ | refine go_false rfl ?_ | refine go_cond rfl (fun h => ?_) (fun h => ?_) | refine ⟨rfl, ?_⟩ | ((first | refine ⟨trivial, ?_⟩ | refine ⟨le_of_ble rfl, ?_⟩) <;> conv => whnf) | fail
          all_goals first
            | (refine go_next (k + 1) (by omega) (by omega) (ref_st id rfl ⟨rfl, ⟨rfl, rfl⟩, ⟨rfl, rfl⟩, rfl, ⟨rfl, rfl⟩, ⟨rfl, rfl⟩, ⟨rfl, rfl⟩, rfl, rfl, next_i (by omega), trivial⟩ ⟨⟨rfl, wavs_imm _⟩, rfl, rfl, rfl, ?_, trivial⟩ (by simp) rfl (by simp))
               rw [hnx]
               exact ⟨rfl, wavs_imm _⟩)
            | (exfalso; have h' := of_decide_eq_false h; omega)
            | (exfalso; have h' := of_decide_eq_true h; omega)
            | (exfalso; rename_i hq; have h' := of_decide_eq_true hq; omega)
            | (exfalso; rename_i hq; have h' := of_decide_eq_false hq; omega)
            | (exfalso; rename_i hq _; have h' := of_decide_eq_true hq; omega)
            | (exfalso; rename_i hq _; have h' := of_decide_eq_false hq; omega)
            | (exfalso; simp only [decide_eq_true_eq, decide_eq_false_iff_not] at *; omega)
            | trace_state
        | false =>
        cases bi with
        | true =>
          rw [if_neg (by simp)] at hnx
          repeat' first | refine go_seq ?_ | refine go_region ?_ | refine go_miss rfl rfl rfl ?_ | refine go_undef rfl rfl rfl ?_ | refine go_draw drawsOk ?_ | ((first | refine go_op rfl ?_ | refine go_nil ?_ | refine go_hit rfl rfl rfl ?_ | refine go_splitT rfl rfl rfl (fun h => ?_) (fun h => ?_) | refine go_splitF rfl rfl rfl (fun h => ?_) (fun h => ?_) | refine go_storeBox rfl rfl rfl rfl rfl rfl ?_ | refine go_dop rfl ?_ | refine go_dhit rfl rfl ?_ | refine go_dmiss rfl rfl ?_ | refine go_dundef rfl rfl ?_ | refine go_dend (by kernel_rfl) ?_ | refine go_pickT rfl ?_ | refine go_pickF rfl ?_ | refine go_pick rfl (fun h => ?_) (fun h => ?_) | refine go_call [] (hca) rfl rfl rfl rfl ?_ | refine go_call [] (hcv) rfl rfl rfl rfl ?_ | refine go_call [] (hci) rfl rfl rfl rfl ?_ | refine go_idx rfl rfl rfl rfl (by omega) hr2 rfl ?_) <;> conv => whnf) | ((first | refine go_dsplit2 rfl (fun h => ?_) (fun h => ?_) | refine go_loadB ?_ | refine ⟨by kernel_rfl, ?_⟩ | refine go_ret ?_) <;> conv => whnf) | refine go_block ?_ | ((first | refine go_skip ?_ | refine go_exit ?_) <;> conv => whnf) | refine go_true rfl ?_ | refine go_false rfl ?_ | refine go_cond rfl (fun h => ?_) (fun h => ?_) | refine ⟨rfl, ?_⟩ | ((first | refine ⟨trivial, ?_⟩ | refine ⟨le_of_ble rfl, ?_⟩) <;> conv => whnf) | fail
          all_goals first
            | (refine go_next (k + 1) (by omega) (by omega) (ref_st id rfl ⟨rfl, ⟨rfl, rfl⟩, ⟨rfl, rfl⟩, rfl, ⟨rfl, rfl⟩, ⟨rfl, rfl⟩, ⟨rfl, rfl⟩, rfl, rfl, next_i (by omega), trivial⟩ ⟨⟨rfl, wavs_imm _⟩, rfl, rfl, rfl, ?_, trivial⟩ (by simp) rfl (by simp))
               rw [hnx]
               exact ⟨rfl, wavs_imm _⟩)
            | (exfalso; have h' := of_decide_eq_false h; omega)
            | (exfalso; have h' := of_decide_eq_true h; omega)
            | (exfalso; rename_i hq; have h' := of_decide_eq_true hq; omega)
            | (exfalso; rename_i hq; have h' := of_decide_eq_false hq; omega)
            | (exfalso; rename_i hq _; have h' := of_decide_eq_true hq; omega)
            | (exfalso; rename_i hq _; have h' := of_decide_eq_false hq; omega)
            | (exfalso; simp only [decide_eq_true_eq, decide_eq_false_iff_not] at *; omega)
            | trace_state
        | false =>
          rw [if_pos (by rfl)] at hnx
          generalize hmb : mLt m b = mb at *
          by_cases hb0 : b.vehicle = 0
          · rw [if_pos (.inl hb0)] at hnx
            repeat' first | refine go_seq ?_ | refine go_region ?_ | refine go_miss rfl rfl rfl ?_ | refine go_undef rfl rfl rfl ?_ | refine go_draw drawsOk ?_ | ((first | refine go_op rfl ?_ | refine go_nil ?_ | refine go_hit rfl rfl rfl ?_ | refine go_splitT rfl rfl rfl (fun h => ?_) (fun h => ?_) | refine go_splitF rfl rfl rfl (fun h => ?_) (fun h => ?_) | refine go_storeBox rfl rfl rfl rfl rfl rfl ?_ | refine go_dop rfl ?_ | refine go_dhit rfl rfl ?_ | refine go_dmiss rfl rfl ?_ | refine go_dundef rfl rfl ?_ | refine go_dend (by kernel_rfl) ?_ | refine go_pickT rfl ?_ | refine go_pickF rfl ?_ | refine go_pick rfl (fun h => ?_) (fun h => ?_) | refine go_call [] (hca) rfl rfl rfl rfl ?_ | refine go_call [] (hcv) rfl rfl rfl rfl ?_ | refine go_call [] (hci) rfl rfl rfl rfl ?_ | refine go_call [] (hcb) rfl rfl rfl rfl ?_ | refine go_idx rfl rfl rfl rfl (by omega) hr2 rfl ?_) <;> conv => whnf) | ((first | refine go_dsplit2 rfl (fun h => ?_) (fun h => ?_) | refine go_loadB ?_ | refine ⟨by kernel_rfl, ?_⟩ | refine go_ret ?_) <;> conv => whnf) | refine go_block ?_ | ((first | refine go_skip ?_ | refine go_exit ?_) <;> conv => whnf) | refine go_true rfl ?_ | refine go_false rfl ?_ | refine go_cond rfl (fun h => ?_) (fun h => ?_) | refine ⟨rfl, ?_⟩ | ((first | refine ⟨trivial, ?_⟩ | refine ⟨le_of_ble rfl, ?_⟩) <;> conv => whnf) | fail
            all_goals first
              | (refine go_next (k + 1) (by omega) (by omega) (ref_st id rfl ⟨rfl, ⟨rfl, rfl⟩, ⟨rfl, rfl⟩, rfl, ⟨rfl, rfl⟩, ⟨rfl, rfl⟩, ⟨rfl, rfl⟩, rfl, rfl, next_i (by omega), trivial⟩ ⟨⟨rfl, wavs_imm _⟩, rfl, rfl, rfl, ?_, trivial⟩ (by simp) rfl (by simp))
                 rw [hnx]
                 exact ⟨rfl, wavs_imm _⟩)
              | (exfalso; have h' := of_decide_eq_false h; omega)
              | (exfalso; have h' := of_decide_eq_true h; omega)
              | (exfalso; rename_i hq; have h' := of_decide_eq_true hq; omega)
              | (exfalso; rename_i hq; have h' := of_decide_eq_false hq; omega)
              | (exfalso; rename_i hq _; have h' := of_decide_eq_true hq; omega)
              | (exfalso; rename_i hq _; have h' := of_decide_eq_false hq; omega)
              | (exfalso; simp only [decide_eq_true_eq, decide_eq_false_iff_not] at *; omega)
              | trace_state
          · cases mb with
            | true =>
              rw [if_pos (.inr rfl)] at hnx
              repeat' first | refine go_seq ?_ | refine go_region ?_ | refine go_miss rfl rfl rfl ?_ | refine go_undef rfl rfl rfl ?_ | refine go_draw drawsOk ?_ | ((first | refine go_op rfl ?_ | refine go_nil ?_ | refine go_hit rfl rfl rfl ?_ | refine go_splitT rfl rfl rfl (fun h => ?_) (fun h => ?_) | refine go_splitF rfl rfl rfl (fun h => ?_) (fun h => ?_) | refine go_storeBox rfl rfl rfl rfl rfl rfl ?_ | refine go_dop rfl ?_ | refine go_dhit rfl rfl ?_ | refine go_dmiss rfl rfl ?_ | refine go_dundef rfl rfl ?_ | refine go_dend (by kernel_rfl) ?_ | refine go_pickT rfl ?_ | refine go_pickF rfl ?_ | refine go_pick rfl (fun h => ?_) (fun h => ?_) | refine go_call [] (hca) rfl rfl rfl rfl ?_ | refine go_call [] (hcv) rfl rfl rfl rfl ?_ | refine go_call [] (hci) rfl rfl rfl rfl ?_ | refine go_call [] (hcb) rfl rfl rfl rfl ?_ | refine go_idx rfl rfl rfl rfl (by omega) hr2 rfl ?_) <;> conv => whnf) | ((first | refine go_dsplit2 rfl (fun h => ?_) (fun h => ?_) | refine go_loadB ?_ | refine ⟨by kernel_rfl, ?_⟩ | refine go_ret ?_) <;> conv => whnf) | refine go_block ?_ | ((first | refine go_skip ?_ | refine go_exit ?_) <;> conv => whnf) | refine go_true rfl ?_ | refine go_false rfl ?_ | refine go_cond rfl (fun h => ?_) (fun h => ?_) | refine ⟨rfl, ?_⟩ | ((first | refine ⟨trivial, ?_⟩ | refine ⟨le_of_ble rfl, ?_⟩) <;> conv => whnf) | fail
              all_goals first
                | (refine go_next (k + 1) (by omega) (by omega) (ref_st id rfl ⟨rfl, ⟨rfl, rfl⟩, ⟨rfl, rfl⟩, rfl, ⟨rfl, rfl⟩, ⟨rfl, rfl⟩, ⟨rfl, rfl⟩, rfl, rfl, next_i (by omega), trivial⟩ ⟨⟨rfl, wavs_imm _⟩, rfl, rfl, rfl, ?_, trivial⟩ (by simp) rfl (by simp))
                   rw [hnx]
                   exact ⟨rfl, wavs_imm _⟩)
                | (exfalso; have h' := of_decide_eq_false h; omega)
                | (exfalso; have h' := of_decide_eq_true h; omega)
                | (exfalso; rename_i hq; have h' := of_decide_eq_true hq; omega)
                | (exfalso; rename_i hq; have h' := of_decide_eq_false hq; omega)
                | (exfalso; rename_i hq _; have h' := of_decide_eq_true hq; omega)
                | (exfalso; rename_i hq _; have h' := of_decide_eq_false hq; omega)
                | (exfalso; simp only [decide_eq_true_eq, decide_eq_false_iff_not] at *; omega)
                | trace_state
            | false =>
              rw [if_neg (by simp [hb0])] at hnx
              repeat' first | refine go_seq ?_ | refine go_region ?_ | refine go_miss rfl rfl rfl ?_ | refine go_undef rfl rfl rfl ?_ | refine go_draw drawsOk ?_ | ((first | refine go_op rfl ?_ | refine go_nil ?_ | refine go_hit rfl rfl rfl ?_ | refine go_splitT rfl rfl rfl (fun h => ?_) (fun h => ?_) | refine go_splitF rfl rfl rfl (fun h => ?_) (fun h => ?_) | refine go_storeBox rfl rfl rfl rfl rfl rfl ?_ | refine go_dop rfl ?_ | refine go_dhit rfl rfl ?_ | refine go_dmiss rfl rfl ?_ | refine go_dundef rfl rfl ?_ | refine go_dend (by kernel_rfl) ?_ | refine go_pickT rfl ?_ | refine go_pickF rfl ?_ | refine go_pick rfl (fun h => ?_) (fun h => ?_) | refine go_call [] (hca) rfl rfl rfl rfl ?_ | refine go_call [] (hcv) rfl rfl rfl rfl ?_ | refine go_call [] (hci) rfl rfl rfl rfl ?_ | refine go_call [] (hcb) rfl rfl rfl rfl ?_ | refine go_idx rfl rfl rfl rfl (by omega) hr2 rfl ?_) <;> conv => whnf) | ((first | refine go_dsplit2 rfl (fun h => ?_) (fun h => ?_) | refine go_loadB ?_ | refine ⟨by kernel_rfl, ?_⟩ | refine go_ret ?_) <;> conv => whnf) | refine go_block ?_ | ((first | refine go_skip ?_ | refine go_exit ?_) <;> conv => whnf) | refine go_true rfl ?_ | refine go_false rfl ?_ | refine go_cond rfl (fun h => ?_) (fun h => ?_) | refine ⟨rfl, ?_⟩ | ((first | refine ⟨trivial, ?_⟩ | refine ⟨le_of_ble rfl, ?_⟩) <;> conv => whnf) | fail
              all_goals first
                | (refine go_next (k + 1) (by omega) (by omega) (ref_st id rfl ⟨rfl, ⟨rfl, rfl⟩, ⟨rfl, rfl⟩, rfl, ⟨rfl, rfl⟩, ⟨rfl, rfl⟩, ⟨rfl, rfl⟩, rfl, rfl, next_i (by omega), trivial⟩ ⟨⟨rfl, wavs_imm _⟩, rfl, rfl, rfl, ?_, trivial⟩ (by simp) rfl (by simp))
                   rw [hnx]
                   exact ⟨rfl, wavs_imm _⟩)
                | (exfalso; have h' := of_decide_eq_false h; omega)
                | (exfalso; have h' := of_decide_eq_true h; omega)
                | (exfalso; rename_i hq; have h' := of_decide_eq_true hq; omega)
                | (exfalso; rename_i hq; have h' := of_decide_eq_false hq; omega)
                | (exfalso; rename_i hq _; have h' := of_decide_eq_true hq; omega)
                | (exfalso; rename_i hq _; have h' := of_decide_eq_false hq; omega)
                | (exfalso; simp only [decide_eq_true_eq, decide_eq_false_iff_not] at *; omega)
                | trace_state
  | none =>
    have hge := le_of_at hx
    have hie : i = L.length := by omega
    subst hie
    have hb := hball C
    rw [hb]
    have hgf := greedy_find P C
    rw [hinv] at hgf
    cases hf : P.find? (fun m => !hits C m) with
    | none =>
      rw [hf] at hgf
      rw [show (greedy P []) = C from hgf]
      generalize sortL vLt C = s at *
      have hsl : (s.map Match.enc).length = s.length := List.length_map _
      repeat' first | refine go_seq ?_ | refine go_region ?_ | refine go_miss rfl rfl rfl ?_ | refine go_undef rfl rfl rfl ?_ | refine go_draw drawsOk ?_ | ((first | refine go_op rfl ?_ | refine go_nil ?_ | refine go_hit rfl rfl rfl ?_ | refine go_splitT rfl rfl rfl (fun h => ?_) (fun h => ?_) | refine go_splitF rfl rfl rfl (fun h => ?_) (fun h => ?_) | refine go_storeBox rfl rfl rfl rfl rfl rfl ?_ | refine go_dop rfl ?_ | refine go_dhit rfl rfl ?_ | refine go_dmiss rfl rfl ?_ | refine go_dundef rfl rfl ?_ | refine go_dend (by kernel_rfl) ?_ | refine go_pickT rfl ?_ | refine go_pickF rfl ?_ | refine go_pick rfl (fun h => ?_) (fun h => ?_)) <;> conv => whnf) | ((first | refine go_dsplit2 rfl (fun h => ?_) (fun h => ?_) | refine go_loadB ?_ | refine ⟨by kernel_rfl, ?_⟩ | refine go_ret ?_) <;> conv => whnf) | refine go_block ?_ | ((first | refine go_skip ?_ | refine go_exit ?_) <;> conv => whnf) | refine go_true rfl ?_ | refine go_false rfl ?_ | refine go_cond rfl (fun h => ?_) (fun h => ?_) | refine ⟨rfl, ?_⟩ | ((first | refine ⟨trivial, ?_⟩ | refine ⟨le_of_ble rfl, ?_⟩) <;> conv => whnf) | fail
      all_goals first
        | exact ret_own rfl rfl rfl rfl rfl (by rw [List.drop_zero, ← hsl, List.take_length]) (match_gr _)
        | (exfalso; have h' := of_decide_eq_false h; omega)
        | (exfalso; have h' := of_decide_eq_true h; omega)
        | (exfalso; rename_i hq; have h' := of_decide_eq_true hq; omega)
        | (exfalso; rename_i hq; have h' := of_decide_eq_false hq; omega)
        | (exfalso; rename_i hq _; have h' := of_decide_eq_true hq; omega)
        | (exfalso; rename_i hq _; have h' := of_decide_eq_false hq; omega)
        | trace_state
    | some m =>
      rw [hf] at hgf
      have hinv' : greedy P (C ++ [m]) = greedy P [] := hgf.symm
      have hgl' := (greedy_len P (C ++ [m])).1
      rw [hinv', List.length_append, List.length_singleton] at hgl'
      have hmu : (greedy P []).length - (C ++ [m]).length < (greedy P []).length - C.length := by rw [List.length_append, List.length_singleton]; omega
      have hm0 := hpv m (List.mem_of_find?_eq_some hf)
      have hnx := sortL_next vLt C m
      have hsr := sortL_srt vWeak C
      have hsn := sortL_len vWeak C
      have ov := int_one [m.vehicle]
      have oi := int_one [m.id]
      have hbv : ((C.map Match.vehicle).map intRow).length + 1 ≤ 1073741824 := by omega
      have hbi : ((C.map Match.id).map intRow).length + 1 ≤ 1073741824 := by omega
      have ev : ((C ++ [m]).map Match.vehicle).map intRow = (C.map Match.vehicle).map intRow ++ [m.vehicle].map intRow := by simp
      have ei : ((C ++ [m]).map Match.id).map intRow = (C.map Match.id).map intRow ++ [m.id].map intRow := by simp
      generalize hsd : sortL vLt C = s at *
      have hsm : (s.map Match.enc).length = s.length := List.length_map _
      repeat' first | refine go_seq ?_ | refine go_region ?_ | refine go_miss rfl rfl rfl ?_ | refine go_undef rfl rfl rfl ?_ | refine go_draw drawsOk ?_ | ((first | refine go_op rfl ?_ | refine go_nil ?_ | refine go_hit rfl rfl rfl ?_ | refine go_splitT rfl rfl rfl (fun h => ?_) (fun h => ?_) | refine go_splitF rfl rfl rfl (fun h => ?_) (fun h => ?_) | refine go_storeBox rfl rfl rfl rfl rfl rfl ?_ | refine go_dop rfl ?_ | refine go_dhit rfl rfl ?_ | refine go_dmiss rfl rfl ?_ | refine go_dundef rfl rfl ?_ | refine go_dend (by kernel_rfl) ?_ | refine go_pickT rfl ?_ | refine go_pickF rfl ?_ | refine go_pick rfl (fun h => ?_) (fun h => ?_) | refine go_append (rows2 := [m.vehicle].map intRow) rfl rfl rfl rfl rfl rfl rfl rfl rfl rfl rfl rfl ov rfl rfl rfl hbv ?_ | refine go_append (rows2 := [m.id].map intRow) rfl rfl rfl rfl rfl rfl rfl rfl rfl rfl rfl rfl oi rfl rfl rfl hbi ?_) <;> conv => whnf) | ((first | refine go_dsplit2 rfl (fun h => ?_) (fun h => ?_) | refine go_loadB ?_ | refine ⟨by kernel_rfl, ?_⟩ | refine go_ret ?_) <;> conv => whnf) | refine go_block ?_ | ((first | refine go_skip ?_ | refine go_exit ?_) <;> conv => whnf) | refine go_true rfl ?_ | refine go_false rfl ?_ | refine go_cond rfl (fun h => ?_) (fun h => ?_) | refine ⟨rfl, ?_⟩ | ((first | refine ⟨trivial, ?_⟩ | refine ⟨le_of_ble rfl, ?_⟩) <;> conv => whnf) | fail
      all_goals try first
        | (exfalso; have h' := of_decide_eq_false h; omega)
        | (exfalso; have h' := of_decide_eq_true h; omega)
        | (exfalso; rename_i hq; have h' := of_decide_eq_true hq; omega)
        | (exfalso; rename_i hq; have h' := of_decide_eq_false hq; omega)
        | (exfalso; rename_i hq _; have h' := of_decide_eq_true hq; omega)
        | (exfalso; rename_i hq _; have h' := of_decide_eq_false hq; omega)
        | (exfalso; exact hm0 (of_decide_eq_true h))
      refine go_loop (α := Nat) (fun k => k ≤ s.length ∧ ∀ y ∈ s.drop k, vLt m y = true) (fun k => k)
        (fun k => st Tryz.f48.ntmps [(2, .imm (.int .i64 limit)), (3, .box 1000 0), (7, .own 1001 0 s.length), (8, .imm (.list (L.map Report.enc))), (9, .own 1002 0 (((C ++ [m]).map Match.vehicle).map intRow).length), (10, .own 1003 0 (((C ++ [m]).map Match.id).map intRow).length), (11, .box 1004 0), (16, .imm (.int .i64 (k : Nat)))]
          [(1000, .box 40 (t.enc.map .imm)), (1001, .arr 93 3 (s.map Match.enc)), (1002, .arr 3 1 (((C ++ [m]).map Match.vehicle).map intRow)), (1003, .arr 3 1 (((C ++ [m]).map Match.id).map intRow)), (1004, .box 93 (m.enc.map .imm))] []) s.length ⟨Nat.le_refl _, by simp⟩ ?_ ?_
      · refine ref_st (fun y => if y = 1002 then nid 4 79 else if y = 1003 then nid 5 84 else y) rfl ⟨rfl, ⟨rfl, rfl⟩, ⟨rfl, rfl⟩, rfl, ⟨?_, rfl⟩, ⟨?_, rfl⟩, ⟨rfl, rfl⟩, rfl, trivial⟩ ⟨⟨rfl, wavs_imm _⟩, rfl, ?_, ?_, ⟨rfl, wavs_imm _⟩, trivial⟩ (by simp [nid]) rfl (by simp)
        · show AV.own _ _ _ = AV.own _ _ _
          rw [ev, List.length_append]; try rfl
        · show AV.own _ _ _ = AV.own _ _ _
          rw [ei, List.length_append]; try rfl
        · show some _ = some _
          rw [ev]; try rfl
        · show some _ = some _
          rw [ei]; try rfl
      rintro k ⟨hk, hdr⟩
      have hgo : (k = 0 ∨ ∃ y, s[k - 1]? = some y ∧ vLt m y = false) → s.take k ++ [m] ++ s.drop k = sortL vLt (C ++ [m]) := fun h => by rw [hnx]; exact insL_at vWeak hsr hdr h
      have hlen' : (s.take k ++ [m] ++ s.drop k).length = s.length + 1 := by simp; omega
      have q1 : ((s.map Match.enc).drop 0).take k = (s.take k).map Match.enc := by rw [List.drop_zero, List.map_take]
      have q2 : ((s.map Match.enc).drop k).take (s.length - k) = (s.drop k).map Match.enc := by rw [← List.map_drop, List.take_of_length_le (by simp)]
      have o1 := match_oneR (s.take k)
      have o2 := match_oneR (s.drop k)
      have o5 := match_one [m]
      have hF1 : 0 + k ≤ (s.map Match.enc).length := by omega
      have hF2 : k + (s.length - k) ≤ (s.map Match.enc).length := by omega
      have hB1 : 0 + k ≤ 1073741824 := by omega
      have hB2 : 0 + k + 1 ≤ 1073741824 := by omega
      have hB3 : 0 + k + 1 + (s.length - k) ≤ 1073741824 := by omega
      have hL1 : 0 + k = (List.replicate 0 ty93.zero ++ (s.take k).map Match.enc).length := by simp; omega
      have hL2 : 0 + k + 1 = (List.replicate 0 ty93.zero ++ (s.take k).map Match.enc ++ [m].map Match.enc).length := by simp; omega
      by_cases hk0 : k = 0
      · subst hk0
        repeat' first | refine go_seq ?_ | refine go_region ?_ | refine go_miss rfl rfl rfl ?_ | refine go_undef rfl rfl rfl ?_ | refine go_draw drawsOk ?_ | ((first | refine go_op rfl ?_ | refine go_nil ?_ | refine go_hit rfl rfl rfl ?_ | refine go_splitT rfl rfl rfl (fun h => ?_) (fun h => ?_) | refine go_splitF rfl rfl rfl (fun h => ?_) (fun h => ?_) | refine go_storeBox rfl rfl rfl rfl rfl rfl ?_ | refine go_dop rfl ?_ | refine go_dhit rfl rfl ?_ | refine go_dmiss rfl rfl ?_ | refine go_dundef rfl rfl ?_ | refine go_dend (by kernel_rfl) ?_ | refine go_pickT rfl ?_ | refine go_pickF rfl ?_ | refine go_pick rfl (fun h => ?_) (fun h => ?_) | refine go_sliceTo (k := 0) (id := 1001) rfl rfl rfl rfl rfl rfl hk ?_ | refine go_sliceFrom (k := 0) (id := 1001) rfl rfl rfl rfl rfl rfl hk ?_ | refine go_appSl (off2 := 0) (rr := (s.take (0)).map Match.enc) rfl rfl rfl rfl rfl rfl rfl rfl rfl rfl rfl rfl hF1 q1 o1 rfl rfl hB1 ?_ | refine go_append (rows2 := [m].map Match.enc) rfl rfl rfl rfl rfl rfl rfl rfl rfl rfl rfl rfl o5 rfl hL1 rfl hB2 ?_ | refine go_appSl (off2 := 0) (rr := (s.drop (0)).map Match.enc) rfl rfl rfl rfl rfl rfl rfl rfl rfl rfl rfl rfl hF2 q2 o2 rfl hL2 hB3 ?_) <;> conv => whnf) | ((first | refine go_dsplit2 rfl (fun h => ?_) (fun h => ?_) | refine go_loadB ?_ | refine ⟨by kernel_rfl, ?_⟩ | refine go_ret ?_) <;> conv => whnf) | refine go_block ?_ | ((first | refine go_skip ?_ | refine go_exit ?_) <;> conv => whnf) | refine go_true rfl ?_ | refine go_false rfl ?_ | refine go_cond rfl (fun h => ?_) (fun h => ?_) | refine ⟨rfl, ?_⟩ | ((first | refine ⟨trivial, ?_⟩ | refine ⟨le_of_ble rfl, ?_⟩) <;> conv => whnf) | fail
        all_goals first
          | (refine go_next (C ++ [m]) hinv' hmu (ref_st (fun y => if y = 1001 then nid 3 113 else y) rfl ⟨rfl, ⟨rfl, rfl⟩, ⟨?_, rfl⟩, rfl, ⟨rfl, rfl⟩, ⟨rfl, rfl⟩, trivial⟩ ⟨⟨rfl, wavs_imm _⟩, ?_, rfl, rfl, trivial⟩ (by simp [nid]) rfl (by simp))
             · show AV.own _ _ _ = AV.own _ _ _
               congr 1
               rw [← hgo (.inl rfl), hlen']
               omega
             · show some _ = some _
               rw [← hgo (.inl rfl), List.map_append, List.map_append]
               rfl
             done)
          | (exfalso; have h' := of_decide_eq_false h; omega)
          | (exfalso; have h' := of_decide_eq_true h; omega)
          | (exfalso; rename_i hq; have h' := of_decide_eq_true hq; omega)
          | (exfalso; rename_i hq; have h' := of_decide_eq_false hq; omega)
          | (exfalso; rename_i hq _; have h' := of_decide_eq_true hq; omega)
          | (exfalso; rename_i hq _; have h' := of_decide_eq_false hq; omega)
          | trace_state
      · obtain ⟨j, rfl⟩ : ∃ j, k = j + 1 := ⟨k - 1, by omega⟩
        obtain ⟨y, hy⟩ : ∃ y, s[j]? = some y := ⟨_, List.getElem?_eq_getElem (by omega)⟩
        have r0 : (s.map Match.enc)[j]? = some [.int .i64 y.vehicle, .int .i64 y.id, .int .i64 y.delay] := by rw [List.getElem?_map, hy]; rfl
        have ej : IntKind.i64.wrap (((j + 1 : Nat) : Int) - 1) = (j : Nat) := by rw [wrap_small (by omega) (by omega)]; omega
        have hdj : s.drop j = y :: s.drop (j + 1) := by
          rw [List.drop_eq_getElem_cons (show j < s.length by omega)]
          congr 1
          exact (List.getElem?_eq_some_iff.1 hy).2
        repeat' first | refine go_seq ?_ | refine go_region ?_ | refine go_miss rfl rfl rfl ?_ | refine go_undef rfl rfl rfl ?_ | refine go_draw drawsOk ?_ | ((first | refine go_op rfl ?_ | refine go_nil ?_ | refine go_hit rfl rfl rfl ?_ | refine go_splitT rfl rfl rfl (fun h => ?_) (fun h => ?_) | refine go_splitF rfl rfl rfl (fun h => ?_) (fun h => ?_) | refine go_storeBox rfl rfl rfl rfl rfl rfl ?_ | refine go_dop rfl ?_ | refine go_dhit rfl rfl ?_ | refine go_dmiss rfl rfl ?_ | refine go_dundef rfl rfl ?_ | refine go_dend (by kernel_rfl) ?_ | refine go_pickT rfl ?_ | refine go_pickF rfl ?_ | refine go_pick rfl (fun h => ?_) (fun h => ?_) | refine go_sliceTo (k := j + 1) (id := 1001) rfl rfl rfl rfl rfl rfl hk ?_ | refine go_sliceFrom (k := j + 1) (id := 1001) rfl rfl rfl rfl rfl rfl hk ?_ | refine go_appSl (off2 := 0) (rr := (s.take (j + 1)).map Match.enc) rfl rfl rfl rfl rfl rfl rfl rfl rfl rfl rfl rfl hF1 q1 o1 rfl rfl hB1 ?_ | refine go_append (rows2 := [m].map Match.enc) rfl rfl rfl rfl rfl rfl rfl rfl rfl rfl rfl rfl o5 rfl hL1 rfl hB2 ?_ | refine go_appSl (off2 := j + 1) (rr := (s.drop (j + 1)).map Match.enc) rfl rfl rfl rfl rfl rfl rfl rfl rfl rfl rfl rfl hF2 q2 o2 rfl hL2 hB3 ?_ | refine go_idxOwnI (j := j) rfl rfl ej rfl rfl rfl rfl (show j < _ by omega) ?_ | refine go_loadEl (i := j) rfl rfl rfl r0 ?_) <;> conv => whnf) | ((first | refine go_dsplit2 rfl (fun h => ?_) (fun h => ?_) | refine go_loadB ?_ | refine ⟨by kernel_rfl, ?_⟩ | refine go_ret ?_) <;> conv => whnf) | refine go_block ?_ | ((first | refine go_skip ?_ | refine go_exit ?_) <;> conv => whnf) | refine go_true rfl ?_ | refine go_false rfl ?_ | refine go_cond rfl (fun h => ?_) (fun h => ?_) | refine ⟨rfl, ?_⟩ | ((first | refine ⟨trivial, ?_⟩ | refine ⟨le_of_ble rfl, ?_⟩) <;> conv => whnf) | fail
        all_goals first
          | (refine go_next j ⟨by omega, ?_⟩ (by omega) (ref_st id rfl ⟨rfl, ⟨rfl, rfl⟩, ⟨rfl, rfl⟩, rfl, ⟨rfl, rfl⟩, ⟨rfl, rfl⟩, ⟨rfl, rfl⟩, ?_, trivial⟩ ⟨⟨rfl, wavs_imm _⟩, rfl, rfl, rfl, ⟨rfl, wavs_imm _⟩, trivial⟩ (by simp) rfl (by simp))
             · intro z hz
               rw [hdj] at hz
               rcases List.mem_cons.1 hz with rfl | hz
               · unfold vLt
                 simp only [decide_eq_true_eq, decide_eq_false_iff_not] at *
                 omega
               · exact hdr z hz
             · show AV.imm (.int .i64 _) = AV.imm (.int .i64 _)
               rw [ej]
             done)
          | (have hno : vLt m y = false := by
               unfold vLt
               simp only [decide_eq_true_eq, decide_eq_false_iff_not] at *
               omega
             refine go_next (C ++ [m]) hinv' hmu (ref_st (fun y => if y = 1001 then nid 3 113 else y) rfl ⟨rfl, ⟨rfl, rfl⟩, ⟨?_, rfl⟩, rfl, ⟨rfl, rfl⟩, ⟨rfl, rfl⟩, trivial⟩ ⟨⟨rfl, wavs_imm _⟩, ?_, rfl, rfl, trivial⟩ (by simp [nid]) rfl (by simp))
             · show AV.own _ _ _ = AV.own _ _ _
               congr 1
               rw [← hgo (.inr ⟨y, hy, hno⟩), hlen']
               omega
             · show some _ = some _
               rw [← hgo (.inr ⟨y, hy, hno⟩), List.map_append, List.map_append]
               rfl
             done)
          | (exfalso; have h' := of_decide_eq_false h; omega)
          | (exfalso; have h' := of_decide_eq_true h; omega)
          | (exfalso; rename_i hq; have h' := of_decide_eq_true hq; omega)
          | (exfalso; rename_i hq; have h' := of_decide_eq_false hq; omega)
          | (exfalso; rename_i hq _; have h' := of_decide_eq_true hq; omega)
          | (exfalso; rename_i hq _; have h' := of_decide_eq_false hq; omega)
          | trace_state

theorem c48a (t : Timetable) (hok : ttOk t = true) (rs : List Report) (hv : vehOk rs) (hl : rs.length ≤ 1048576) (limit : Int) : CallOk Tryz.prog 48 [.imm (.agg t.enc), .imm (.list (rs.map Report.enc)), .imm (.int .i64 limit)] { res := [.arr 93 3 ((matched t rs limit).map Match.enc)] } := by
  refine callOk_of tyOk Tryz.func48 rfl rfl (le_of_ble rfl) (le_of_ble rfl) (mutOk_imm rfl _) ?_
  have h12 := tt_12 hok
  have hc0 := c83 rs hv hl
  have hLn := lasts_len 100 rs
  have hball := bestN_all t rs hv limit
  have hpv := near_veh (t := t) hv limit
  have hnl := chosen_len t rs limit
  unfold matched
  unfold chosen at hnl ⊢
  generalize sortL mLt (nearL t rs limit) = P at *
  generalize lasts 100 rs = L at *
  have hLl : (L.map Report.enc).length = L.length := List.length_map _
  repeat' first | refine go_seq ?_ | refine go_region ?_ | refine go_miss rfl rfl rfl ?_ | refine go_undef rfl rfl rfl ?_ | refine go_draw drawsOk ?_ | ((first | refine go_op rfl ?_ | refine go_nil ?_ | refine go_hit rfl rfl rfl ?_ | refine go_splitT rfl rfl rfl (fun h => ?_) (fun h => ?_) | refine go_splitF rfl rfl rfl (fun h => ?_) (fun h => ?_) | refine go_storeBox rfl rfl rfl rfl rfl rfl ?_ | refine go_dop rfl ?_ | refine go_dhit rfl rfl ?_ | refine go_dmiss rfl rfl ?_ | refine go_dundef rfl rfl ?_ | refine go_dend (by kernel_rfl) ?_ | refine go_pickT rfl ?_ | refine go_pickF rfl ?_ | refine go_pick rfl (fun h => ?_) (fun h => ?_) | refine go_call [] (hc0) rfl rfl rfl rfl ?_) <;> conv => whnf) | ((first | refine go_dsplit2 rfl (fun h => ?_) (fun h => ?_) | refine go_loadB ?_ | refine ⟨by kernel_rfl, ?_⟩ | refine go_ret ?_) <;> conv => whnf) | refine go_block ?_ | ((first | refine go_skip ?_ | refine go_exit ?_) <;> conv => whnf) | refine go_true rfl ?_ | refine go_false rfl ?_ | refine go_cond rfl (fun h => ?_) (fun h => ?_) | refine ⟨rfl, ?_⟩ | ((first | refine ⟨trivial, ?_⟩ | refine ⟨le_of_ble rfl, ?_⟩) <;> conv => whnf) | fail
  refine go_loop (α := List Match) (fun C => greedy P C = greedy P []) (fun C => (greedy P []).length - C.length)
    (fun C => st Tryz.f48.ntmps [(2, .imm (.int .i64 limit)), (3, .box 1000 0), (7, .own 1001 0 (sortL vLt C).length), (8, .imm (.list (L.map Report.enc))), (9, .own 1002 0 ((C.map Match.vehicle).map intRow).length), (10, .own 1003 0 ((C.map Match.id).map intRow).length)]
      [(1000, .box 40 (t.enc.map .imm)), (1001, .arr 93 3 ((sortL vLt C).map Match.enc)), (1002, .arr 3 1 ((C.map Match.vehicle).map intRow)), (1003, .arr 3 1 ((C.map Match.id).map intRow))] []) [] rfl ?_ ?_
  · exact ref_st (fun y => if y = 1000 then nid 1 3 else if y = 1001 then nid 2 17 else if y = 1002 then nid 4 20 else nid 4 21) rfl ⟨rfl, ⟨rfl, rfl⟩, ⟨rfl, rfl⟩, rfl, ⟨rfl, rfl⟩, ⟨rfl, rfl⟩, trivial⟩ ⟨⟨rfl, wavs_imm _⟩, rfl, rfl, rfl, trivial⟩ (by simp [nid]) rfl (by simp)
  intro C hinv
  have hgl := (greedy_len P C).1
  rw [hinv] at hgl
  have hCv : ((C.map Match.vehicle).map intRow).length = C.length := by simp
  have hCi : ((C.map Match.id).map intRow).length = C.length := by simp
  repeat' first | refine go_seq ?_ | refine go_region ?_ | refine go_miss rfl rfl rfl ?_ | refine go_undef rfl rfl rfl ?_ | refine go_draw drawsOk ?_ | ((first | refine go_op rfl ?_ | refine go_nil ?_ | refine go_hit rfl rfl rfl ?_ | refine go_splitT rfl rfl rfl (fun h => ?_) (fun h => ?_) | refine go_splitF rfl rfl rfl (fun h => ?_) (fun h => ?_) | refine go_storeBox rfl rfl rfl rfl rfl rfl ?_ | refine go_dop rfl ?_ | refine go_dhit rfl rfl ?_ | refine go_dmiss rfl rfl ?_ | refine go_dundef rfl rfl ?_ | refine go_dend (by kernel_rfl) ?_ | refine go_pickT rfl ?_ | refine go_pickF rfl ?_ | refine go_pick rfl (fun h => ?_) (fun h => ?_)) <;> conv => whnf) | ((first | refine go_dsplit2 rfl (fun h => ?_) (fun h => ?_) | refine go_loadB ?_ | refine ⟨by kernel_rfl, ?_⟩ | refine go_ret ?_) <;> conv => whnf) | refine go_block ?_ | ((first | refine go_skip ?_ | refine go_exit ?_) <;> conv => whnf) | refine go_true rfl ?_ | refine go_false rfl ?_ | refine go_cond rfl (fun h => ?_) (fun h => ?_) | refine ⟨rfl, ?_⟩ | ((first | refine ⟨trivial, ?_⟩ | refine ⟨le_of_ble rfl, ?_⟩) <;> conv => whnf) | fail
  refine go_loop (α := Nat) (fun i => i ≤ L.length) (fun i => L.length - i)
    (fun i => st Tryz.f48.ntmps [(2, .imm (.int .i64 limit)), (3, .box 1000 0), (7, .own 1001 0 (sortL vLt C).length), (8, .imm (.list (L.map Report.enc))), (9, .own 1002 0 ((C.map Match.vehicle).map intRow).length), (10, .own 1003 0 ((C.map Match.id).map intRow).length), (11, .box 1004 0), (12, .imm (.int .i64 (i : Nat)))]
      [(1000, .box 40 (t.enc.map .imm)), (1001, .arr 93 3 ((sortL vLt C).map Match.enc)), (1002, .arr 3 1 ((C.map Match.vehicle).map intRow)), (1003, .arr 3 1 ((C.map Match.id).map intRow)), (1004, .box 93 ((bestN t L limit C i).enc.map .imm))] []) 0 (Nat.zero_le _) ?_ ?_
  · exact ref_st (fun y => if y = 1004 then nid 2 11 else y) rfl ⟨rfl, ⟨rfl, rfl⟩, ⟨rfl, rfl⟩, rfl, ⟨rfl, rfl⟩, ⟨rfl, rfl⟩, ⟨rfl, rfl⟩, rfl, trivial⟩ ⟨⟨rfl, wavs_imm _⟩, rfl, rfl, rfl, ⟨rfl, wavs_imm _⟩, trivial⟩ (by simp [nid]) rfl (by simp)
  intro i hi
  cases hx : L[i]? with
  | some r =>
    have hlt := lt_of_at hx
    have hr := row_at Report.enc hx
    have hc1 := c84 t h12 r
    have hfm : ((fits t r).map Match.enc).length = (fits t r).length := List.length_map _
    have hfl := fits_len t r
    repeat' first | refine go_seq ?_ | refine go_region ?_ | refine go_miss rfl rfl rfl ?_ | refine go_undef rfl rfl rfl ?_ | refine go_draw drawsOk ?_ | ((first | refine go_op rfl ?_ | refine go_nil ?_ | refine go_hit rfl rfl rfl ?_ | refine go_splitT rfl rfl rfl (fun h => ?_) (fun h => ?_) | refine go_splitF rfl rfl rfl (fun h => ?_) (fun h => ?_) | refine go_storeBox rfl rfl rfl rfl rfl rfl ?_ | refine go_dop rfl ?_ | refine go_dhit rfl rfl ?_ | refine go_dmiss rfl rfl ?_ | refine go_dundef rfl rfl ?_ | refine go_dend (by kernel_rfl) ?_ | refine go_pickT rfl ?_ | refine go_pickF rfl ?_ | refine go_pick rfl (fun h => ?_) (fun h => ?_) | refine go_call [] (hc1) rfl rfl rfl rfl ?_ | refine go_idx rfl rfl rfl rfl (by omega) hr rfl ?_) <;> conv => whnf) | ((first | refine go_dsplit2 rfl (fun h => ?_) (fun h => ?_) | refine go_loadB ?_ | refine ⟨by kernel_rfl, ?_⟩ | refine go_ret ?_) <;> conv => whnf) | refine go_block ?_ | ((first | refine go_skip ?_ | refine go_exit ?_) <;> conv => whnf) | refine go_true rfl ?_ | refine go_false rfl ?_ | refine go_cond rfl (fun h => ?_) (fun h => ?_) | refine ⟨rfl, ?_⟩ | ((first | refine ⟨trivial, ?_⟩ | refine ⟨le_of_ble rfl, ?_⟩) <;> conv => whnf) | fail
    all_goals try first
      | (exfalso; have h' := of_decide_eq_false h; omega)
      | (exfalso; have h' := of_decide_eq_true h; omega)
      | (exfalso; rename_i hq; have h' := of_decide_eq_true hq; omega)
      | (exfalso; rename_i hq; have h' := of_decide_eq_false hq; omega)
      | (exfalso; rename_i hq _; have h' := of_decide_eq_true hq; omega)
      | (exfalso; rename_i hq _; have h' := of_decide_eq_false hq; omega)
    refine go_loop (α := Nat) (fun k => k ≤ (fits t r).length) (fun k => (fits t r).length - k)
      (fun k => st Tryz.f48.ntmps [(2, .imm (.int .i64 limit)), (3, .box 1000 0), (7, .own 1001 0 (sortL vLt C).length), (8, .imm (.list (L.map Report.enc))), (9, .own 1002 0 ((C.map Match.vehicle).map intRow).length), (10, .own 1003 0 ((C.map Match.id).map intRow).length), (11, .box 1004 0), (12, .imm (.int .i64 (i : Nat))), (13, .imm (.list ((fits t r).map Match.enc))), (14, .imm (.int .i64 (k : Nat)))]
        [(1000, .box 40 (t.enc.map .imm)), (1001, .arr 93 3 ((sortL vLt C).map Match.enc)), (1002, .arr 3 1 ((C.map Match.vehicle).map intRow)), (1003, .arr 3 1 ((C.map Match.id).map intRow)), (1004, .box 93 ((bestK t L limit C i (fits t r) k).enc.map .imm))] []) 0 (Nat.zero_le _) ?_ ?_
    · exact ref_st id rfl ⟨rfl, ⟨rfl, rfl⟩, ⟨rfl, rfl⟩, rfl, ⟨rfl, rfl⟩, ⟨rfl, rfl⟩, ⟨rfl, rfl⟩, rfl, rfl, rfl, trivial⟩ ⟨⟨rfl, wavs_imm _⟩, rfl, rfl, rfl, ⟨rfl, wavs_imm _⟩, trivial⟩ (by simp) rfl (by simp)
    intro k hk
    cases hy : (fits t r)[k]? with
    | none =>
      have hge2 := le_of_at hy
      have hbe := bestK_end limit C hx hge2
      rw [hbe]
      repeat' first | refine go_seq ?_ | refine go_region ?_ | refine go_miss rfl rfl rfl ?_ | refine go_undef rfl rfl rfl ?_ | refine go_draw drawsOk ?_ | ((first | refine go_op rfl ?_ | refine go_nil ?_ | refine go_hit rfl rfl rfl ?_ | refine go_splitT rfl rfl rfl (fun h => ?_) (fun h => ?_) | refine go_splitF rfl rfl rfl (fun h => ?_) (fun h => ?_) | refine go_storeBox rfl rfl rfl rfl rfl rfl ?_ | refine go_dop rfl ?_ | refine go_dhit rfl rfl ?_ | refine go_dmiss rfl rfl ?_ | refine go_dundef rfl rfl ?_ | refine go_dend (by kernel_rfl) ?_ | refine go_pickT rfl ?_ | refine go_pickF rfl ?_ | refine go_pick rfl (fun h => ?_) (fun h => ?_)) <;> conv => whnf) | ((first | refine go_dsplit2 rfl (fun h => ?_) (fun h => ?_) | refine go_loadB ?_ | refine ⟨by kernel_rfl, ?_⟩ | refine go_ret ?_) <;> conv => whnf) | refine go_block ?_ | ((first | refine go_skip ?_ | refine go_exit ?_) <;> conv => whnf) | refine go_true rfl ?_ | refine go_false rfl ?_ | refine go_cond rfl (fun h => ?_) (fun h => ?_) | refine ⟨rfl, ?_⟩ | ((first | refine ⟨trivial, ?_⟩ | refine ⟨le_of_ble rfl, ?_⟩) <;> conv => whnf) | fail
      all_goals first
        | exact go_next (i + 1) (by omega) (by omega) (ref_st id rfl ⟨rfl, ⟨rfl, rfl⟩, ⟨rfl, rfl⟩, rfl, ⟨rfl, rfl⟩, ⟨rfl, rfl⟩, ⟨rfl, rfl⟩, next_i (by omega), trivial⟩ ⟨⟨rfl, wavs_imm _⟩, rfl, rfl, rfl, ⟨rfl, wavs_imm _⟩, trivial⟩ (by simp) rfl (by simp))
        | (exfalso; have h' := of_decide_eq_false h; omega)
        | (exfalso; have h' := of_decide_eq_true h; omega)
        | (exfalso; rename_i hq; have h' := of_decide_eq_true hq; omega)
        | (exfalso; rename_i hq; have h' := of_decide_eq_false hq; omega)
        | (exfalso; rename_i hq _; have h' := of_decide_eq_true hq; omega)
        | (exfalso; rename_i hq _; have h' := of_decide_eq_false hq; omega)
        | trace_state
    | some m =>
      have hlt2 := lt_of_at hy
      have hr2 := row_at Match.enc hy
      have hnx := bestK_next t L limit C i hy
      generalize bestK t L limit C i (fits t r) k = b at *
      have hca := c85 m.delay
      have hcv : CallOk Tryz.prog 86 [.imm (.list ((((C.map Match.vehicle).map intRow).drop 0).take ((C.map Match.vehicle).map intRow).length)), .imm (.int .i64 m.vehicle)] { res := [.imm (.bool ((C.map Match.vehicle).any (hasI m.vehicle)))] } := by rw [int_view]; exact c86 (C.map Match.vehicle) m.vehicle (by rw [List.length_map]; omega)
      have hci : CallOk Tryz.prog 86 [.imm (.list ((((C.map Match.id).map intRow).drop 0).take ((C.map Match.id).map intRow).length)), .imm (.int .i64 m.id)] { res := [.imm (.bool ((C.map Match.id).any (hasI m.id)))] } := by rw [int_view]; exact c86 (C.map Match.id) m.id (by rw [List.length_map]; omega)
      have hcb := c87 m b
      have h2 := hits_two C m
      generalize (C.map Match.vehicle).any (hasI m.vehicle) = bv at *
      generalize (C.map Match.id).any (hasI m.id) = bi at *
      unfold stepB minB at hnx
      cases hn : nearM limit m with
      | false =>
        rw [hn] at hnx
        rw [if_neg (by simp)] at hnx
        unfold nearM at hn
        repeat' first | refine go_seq ?_ | refine go_region ?_ | refine go_miss rfl rfl rfl ?_ | refine go_undef rfl rfl rfl ?_ | refine go_draw drawsOk ?_ | ((first | refine go_op rfl ?_ | refine go_nil ?_ | refine go_hit rfl rfl rfl ?_ | refine go_splitT rfl rfl rfl (fun h => ?_) (fun h => ?_) | refine go_splitF rfl rfl rfl (fun h => ?_) (fun h => ?_) | refine go_storeBox rfl rfl rfl rfl rfl rfl ?_ | refine go_dop rfl ?_ | refine go_dhit rfl rfl ?_ | refine go_dmiss rfl rfl ?_ | refine go_dundef rfl rfl ?_ | refine go_dend (by kernel_rfl) ?_ | refine go_pickT rfl ?_ | refine go_pickF rfl ?_ | refine go_pick rfl (fun h => ?_) (fun h => ?_) | refine go_call [] (hca) rfl rfl rfl rfl ?_ | refine go_call [] (hcv) rfl rfl rfl rfl ?_ | refine go_call [] (hci) rfl rfl rfl rfl ?_ | refine go_idx rfl rfl rfl rfl (by omega) hr2 rfl ?_) <;> conv => whnf) | ((first | refine go_dsplit2 rfl (fun h => ?_) (fun h => ?_) | refine go_loadB ?_ | refine ⟨by kernel_rfl, ?_⟩ | refine go_ret ?_) <;> conv => whnf) | refine go_block ?_ | ((first | refine go_skip ?_ | refine go_exit ?_) <;> conv => whnf) | refine go_true rfl ?_ | refine go_false rfl ?_ | refine go_cond rfl (fun h => ?_) (fun h => ?_) | refine ⟨rfl, ?_⟩ | ((first | refine ⟨trivial, ?_⟩ | refine ⟨le_of_ble rfl, ?_⟩) <;> conv => whnf) | fail
        all_goals first
          | (refine go_next (k + 1) (by omega) (by omega) (ref_st id rfl ⟨rfl, ⟨rfl, rfl⟩, ⟨rfl, rfl⟩, rfl, ⟨rfl, rfl⟩, ⟨rfl, rfl⟩, ⟨rfl, rfl⟩, rfl, rfl, next_i (by omega), trivial⟩ ⟨⟨rfl, wavs_imm _⟩, rfl, rfl, rfl, ?_, trivial⟩ (by simp) rfl (by simp))
             rw [hnx]
             exact ⟨rfl, wavs_imm _⟩)
          | (exfalso; have h' := of_decide_eq_false h; omega)
          | (exfalso; have h' := of_decide_eq_true h; omega)
          | (exfalso; rename_i hq; have h' := of_decide_eq_true hq; omega)
          | (exfalso; rename_i hq; have h' := of_decide_eq_false hq; omega)
          | (exfalso; rename_i hq _; have h' := of_decide_eq_true hq; omega)
          | (exfalso; rename_i hq _; have h' := of_decide_eq_false hq; omega)
          | (exfalso; simp only [decide_eq_true_eq, decide_eq_false_iff_not] at *; omega)
          | trace_state
      | true =>
        rw [hn, h2] at hnx
        unfold nearM at hn
        cases bv with
        | true =>
          rw [if_neg (by simp)] at hnx
          repeat' first | refine go_seq ?_ | refine go_region ?_ | refine go_miss rfl rfl rfl ?_ | refine go_undef rfl rfl rfl ?_ | refine go_draw drawsOk ?_ | ((first | refine go_op rfl ?_ | refine go_nil ?_ | refine go_hit rfl rfl rfl ?_ | refine go_splitT rfl rfl rfl (fun h => ?_) (fun h => ?_) | refine go_splitF rfl rfl rfl (fun h => ?_) (fun h => ?_) | refine go_storeBox rfl rfl rfl rfl rfl rfl ?_ | refine go_dop rfl ?_ | refine go_dhit rfl rfl ?_ | refine go_dmiss rfl rfl ?_ | refine go_dundef rfl rfl ?_ | refine go_dend (by kernel_rfl) ?_ | refine go_pickT rfl ?_ | refine go_pickF rfl ?_ | refine go_pick rfl (fun h => ?_) (fun h => ?_) | refine go_call [] (hca) rfl rfl rfl rfl ?_ | refine go_call [] (hcv) rfl rfl rfl rfl ?_ | refine go_call [] (hci) rfl rfl rfl rfl ?_ | refine go_idx rfl rfl rfl rfl (by omega) hr2 rfl ?_) <;> conv => whnf) | ((first | refine go_dsplit2 rfl (fun h => ?_) (fun h => ?_) | refine go_loadB ?_ | refine ⟨by kernel_rfl, ?_⟩ | refine go_ret ?_) <;> conv => whnf) | refine go_block ?_ | ((first | refine go_skip ?_ | refine go_exit ?_) <;> conv => whnf) | refine go_true rfl ?_ | refine go_false rfl ?_ | refine go_cond rfl (fun h => ?_) (fun h => ?_) | refine ⟨rfl, ?_⟩ | ((first | refine ⟨trivial, ?_⟩ | refine ⟨le_of_ble rfl, ?_⟩) <;> conv => whnf) | fail
          all_goals first
            | (refine go_next (k + 1) (by omega) (by omega) (ref_st id rfl ⟨rfl, ⟨rfl, rfl⟩, ⟨rfl, rfl⟩, rfl, ⟨rfl, rfl⟩, ⟨rfl, rfl⟩, ⟨rfl, rfl⟩, rfl, rfl, next_i (by omega), trivial⟩ ⟨⟨rfl, wavs_imm _⟩, rfl, rfl, rfl, ?_, trivial⟩ (by simp) rfl (by simp))
               rw [hnx]
               exact ⟨rfl, wavs_imm _⟩)
            | (exfalso; have h' := of_decide_eq_false h; omega)
            | (exfalso; have h' := of_decide_eq_true h; omega)
            | (exfalso; rename_i hq; have h' := of_decide_eq_true hq; omega)
            | (exfalso; rename_i hq; have h' := of_decide_eq_false hq; omega)
            | (exfalso; rename_i hq _; have h' := of_decide_eq_true hq; omega)
            | (exfalso; rename_i hq _; have h' := of_decide_eq_false hq; omega)
            | (exfalso; simp only [decide_eq_true_eq, decide_eq_false_iff_not] at *; omega)
            | trace_state
        | false =>
        cases bi with
        | true =>
          rw [if_neg (by simp)] at hnx
          repeat' first | refine go_seq ?_ | refine go_region ?_ | refine go_miss rfl rfl rfl ?_ | refine go_undef rfl rfl rfl ?_ | refine go_draw drawsOk ?_ | ((first | refine go_op rfl ?_ | refine go_nil ?_ | refine go_hit rfl rfl rfl ?_ | refine go_splitT rfl rfl rfl (fun h => ?_) (fun h => ?_) | refine go_splitF rfl rfl rfl (fun h => ?_) (fun h => ?_) | refine go_storeBox rfl rfl rfl rfl rfl rfl ?_ | refine go_dop rfl ?_ | refine go_dhit rfl rfl ?_ | refine go_dmiss rfl rfl ?_ | refine go_dundef rfl rfl ?_ | refine go_dend (by kernel_rfl) ?_ | refine go_pickT rfl ?_ | refine go_pickF rfl ?_ | refine go_pick rfl (fun h => ?_) (fun h => ?_) | refine go_call [] (hca) rfl rfl rfl rfl ?_ | refine go_call [] (hcv) rfl rfl rfl rfl ?_ | refine go_call [] (hci) rfl rfl rfl rfl ?_ | refine go_idx rfl rfl rfl rfl (by omega) hr2 rfl ?_) <;> conv => whnf) | ((first | refine go_dsplit2 rfl (fun h => ?_) (fun h => ?_) | refine go_loadB ?_ | refine ⟨by kernel_rfl, ?_⟩ | refine go_ret ?_) <;> conv => whnf) | refine go_block ?_ | ((first | refine go_skip ?_ | refine go_exit ?_) <;> conv => whnf) | refine go_true rfl ?_ | refine go_false rfl ?_ | refine go_cond rfl (fun h => ?_) (fun h => ?_) | refine ⟨rfl, ?_⟩ | ((first | refine ⟨trivial, ?_⟩ | refine ⟨le_of_ble rfl, ?_⟩) <;> conv => whnf) | fail
          all_goals first
            | (refine go_next (k + 1) (by omega) (by omega) (ref_st id rfl ⟨rfl, ⟨rfl, rfl⟩, ⟨rfl, rfl⟩, rfl, ⟨rfl, rfl⟩, ⟨rfl, rfl⟩, ⟨rfl, rfl⟩, rfl, rfl, next_i (by omega), trivial⟩ ⟨⟨rfl, wavs_imm _⟩, rfl, rfl, rfl, ?_, trivial⟩ (by simp) rfl (by simp))
               rw [hnx]
               exact ⟨rfl, wavs_imm _⟩)
            | (exfalso; have h' := of_decide_eq_false h; omega)
            | (exfalso; have h' := of_decide_eq_true h; omega)
            | (exfalso; rename_i hq; have h' := of_decide_eq_true hq; omega)
            | (exfalso; rename_i hq; have h' := of_decide_eq_false hq; omega)
            | (exfalso; rename_i hq _; have h' := of_decide_eq_true hq; omega)
            | (exfalso; rename_i hq _; have h' := of_decide_eq_false hq; omega)
            | (exfalso; simp only [decide_eq_true_eq, decide_eq_false_iff_not] at *; omega)
            | trace_state
        | false =>
          rw [if_pos (by rfl)] at hnx
          generalize hmb : mLt m b = mb at *
          by_cases hb0 : b.vehicle = 0
          · rw [if_pos (.inl hb0)] at hnx
            repeat' first | refine go_seq ?_ | refine go_region ?_ | refine go_miss rfl rfl rfl ?_ | refine go_undef rfl rfl rfl ?_ | refine go_draw drawsOk ?_ | ((first | refine go_op rfl ?_ | refine go_nil ?_ | refine go_hit rfl rfl rfl ?_ | refine go_splitT rfl rfl rfl (fun h => ?_) (fun h => ?_) | refine go_splitF rfl rfl rfl (fun h => ?_) (fun h => ?_) | refine go_storeBox rfl rfl rfl rfl rfl rfl ?_ | refine go_dop rfl ?_ | refine go_dhit rfl rfl ?_ | refine go_dmiss rfl rfl ?_ | refine go_dundef rfl rfl ?_ | refine go_dend (by kernel_rfl) ?_ | refine go_pickT rfl ?_ | refine go_pickF rfl ?_ | refine go_pick rfl (fun h => ?_) (fun h => ?_) | refine go_call [] (hca) rfl rfl rfl rfl ?_ | refine go_call [] (hcv) rfl rfl rfl rfl ?_ | refine go_call [] (hci) rfl rfl rfl rfl ?_ | refine go_call [] (hcb) rfl rfl rfl rfl ?_ | refine go_idx rfl rfl rfl rfl (by omega) hr2 rfl ?_) <;> conv => whnf) | ((first | refine go_dsplit2 rfl (fun h => ?_) (fun h => ?_) | refine go_loadB ?_ | refine ⟨by kernel_rfl, ?_⟩ | refine go_ret ?_) <;> conv => whnf) | refine go_block ?_ | ((first | refine go_skip ?_ | refine go_exit ?_) <;> conv => whnf) | refine go_true rfl ?_ | refine go_false rfl ?_ | refine go_cond rfl (fun h => ?_) (fun h => ?_) | refine ⟨rfl, ?_⟩ | ((first | refine ⟨trivial, ?_⟩ | refine ⟨le_of_ble rfl, ?_⟩) <;> conv => whnf) | fail
            all_goals first
              | (refine go_next (k + 1) (by omega) (by omega) (ref_st id rfl ⟨rfl, ⟨rfl, rfl⟩, ⟨rfl, rfl⟩, rfl, ⟨rfl, rfl⟩, ⟨rfl, rfl⟩, ⟨rfl, rfl⟩, rfl, rfl, next_i (by omega), trivial⟩ ⟨⟨rfl, wavs_imm _⟩, rfl, rfl, rfl, ?_, trivial⟩ (by simp) rfl (by simp))
                 rw [hnx]
                 exact ⟨rfl, wavs_imm _⟩)
              | (exfalso; have h' := of_decide_eq_false h; omega)
              | (exfalso; have h' := of_decide_eq_true h; omega)
              | (exfalso; rename_i hq; have h' := of_decide_eq_true hq; omega)
              | (exfalso; rename_i hq; have h' := of_decide_eq_false hq; omega)
              | (exfalso; rename_i hq _; have h' := of_decide_eq_true hq; omega)
              | (exfalso; rename_i hq _; have h' := of_decide_eq_false hq; omega)
              | (exfalso; simp only [decide_eq_true_eq, decide_eq_false_iff_not] at *; omega)
              | trace_state
          · cases mb with
            | true =>
              rw [if_pos (.inr rfl)] at hnx
              repeat' first | refine go_seq ?_ | refine go_region ?_ | refine go_miss rfl rfl rfl ?_ | refine go_undef rfl rfl rfl ?_ | refine go_draw drawsOk ?_ | ((first | refine go_op rfl ?_ | refine go_nil ?_ | refine go_hit rfl rfl rfl ?_ | refine go_splitT rfl rfl rfl (fun h => ?_) (fun h => ?_) | refine go_splitF rfl rfl rfl (fun h => ?_) (fun h => ?_) | refine go_storeBox rfl rfl rfl rfl rfl rfl ?_ | refine go_dop rfl ?_ | refine go_dhit rfl rfl ?_ | refine go_dmiss rfl rfl ?_ | refine go_dundef rfl rfl ?_ | refine go_dend (by kernel_rfl) ?_ | refine go_pickT rfl ?_ | refine go_pickF rfl ?_ | refine go_pick rfl (fun h => ?_) (fun h => ?_) | refine go_call [] (hca) rfl rfl rfl rfl ?_ | refine go_call [] (hcv) rfl rfl rfl rfl ?_ | refine go_call [] (hci) rfl rfl rfl rfl ?_ | refine go_call [] (hcb) rfl rfl rfl rfl ?_ | refine go_idx rfl rfl rfl rfl (by omega) hr2 rfl ?_) <;> conv => whnf) | ((first | refine go_dsplit2 rfl (fun h => ?_) (fun h => ?_) | refine go_loadB ?_ | refine ⟨by kernel_rfl, ?_⟩ | refine go_ret ?_) <;> conv => whnf) | refine go_block ?_ | ((first | refine go_skip ?_ | refine go_exit ?_) <;> conv => whnf) | refine go_true rfl ?_ | refine go_false rfl ?_ | refine go_cond rfl (fun h => ?_) (fun h => ?_) | refine ⟨rfl, ?_⟩ | ((first | refine ⟨trivial, ?_⟩ | refine ⟨le_of_ble rfl, ?_⟩) <;> conv => whnf) | fail
              all_goals first
                | (refine go_next (k + 1) (by omega) (by omega) (ref_st id rfl ⟨rfl, ⟨rfl, rfl⟩, ⟨rfl, rfl⟩, rfl, ⟨rfl, rfl⟩, ⟨rfl, rfl⟩, ⟨rfl, rfl⟩, rfl, rfl, next_i (by omega), trivial⟩ ⟨⟨rfl, wavs_imm _⟩, rfl, rfl, rfl, ?_, trivial⟩ (by simp) rfl (by simp))
                   rw [hnx]
                   exact ⟨rfl, wavs_imm _⟩)
                | (exfalso; have h' := of_decide_eq_false h; omega)
                | (exfalso; have h' := of_decide_eq_true h; omega)
                | (exfalso; rename_i hq; have h' := of_decide_eq_true hq; omega)
                | (exfalso; rename_i hq; have h' := of_decide_eq_false hq; omega)
                | (exfalso; rename_i hq _; have h' := of_decide_eq_true hq; omega)
                | (exfalso; rename_i hq _; have h' := of_decide_eq_false hq; omega)
                | (exfalso; simp only [decide_eq_true_eq, decide_eq_false_iff_not] at *; omega)
                | trace_state
            | false =>
              rw [if_neg (by simp [hb0])] at hnx
              repeat' first | refine go_seq ?_ | refine go_region ?_ | refine go_miss rfl rfl rfl ?_ | refine go_undef rfl rfl rfl ?_ | refine go_draw drawsOk ?_ | ((first | refine go_op rfl ?_ | refine go_nil ?_ | refine go_hit rfl rfl rfl ?_ | refine go_splitT rfl rfl rfl (fun h => ?_) (fun h => ?_) | refine go_splitF rfl rfl rfl (fun h => ?_) (fun h => ?_) | refine go_storeBox rfl rfl rfl rfl rfl rfl ?_ | refine go_dop rfl ?_ | refine go_dhit rfl rfl ?_ | refine go_dmiss rfl rfl ?_ | refine go_dundef rfl rfl ?_ | refine go_dend (by kernel_rfl) ?_ | refine go_pickT rfl ?_ | refine go_pickF rfl ?_ | refine go_pick rfl (fun h => ?_) (fun h => ?_) | refine go_call [] (hca) rfl rfl rfl rfl ?_ | refine go_call [] (hcv) rfl rfl rfl rfl ?_ | refine go_call [] (hci) rfl rfl rfl rfl ?_ | refine go_call [] (hcb) rfl rfl rfl rfl ?_ | refine go_idx rfl rfl rfl rfl (by omega) hr2 rfl ?_) <;> conv => whnf) | ((first | refine go_dsplit2 rfl (fun h => ?_) (fun h => ?_) | refine go_loadB ?_ | refine ⟨by kernel_rfl, ?_⟩ | refine go_ret ?_) <;> conv => whnf) | refine go_block ?_ | ((first | refine go_skip ?_ | refine go_exit ?_) <;> conv => whnf) | refine go_true rfl ?_ | refine go_false rfl ?_ | refine go_cond rfl (fun h => ?_) (fun h => ?_) | refine ⟨rfl, ?_⟩ | ((first | refine ⟨trivial, ?_⟩ | refine ⟨le_of_ble rfl, ?_⟩) <;> conv => whnf) | fail
              all_goals first
                | (refine go_next (k + 1) (by omega) (by omega) (ref_st id rfl ⟨rfl, ⟨rfl, rfl⟩, ⟨rfl, rfl⟩, rfl, ⟨rfl, rfl⟩, ⟨rfl, rfl⟩, ⟨rfl, rfl⟩, rfl, rfl, next_i (by omega), trivial⟩ ⟨⟨rfl, wavs_imm _⟩, rfl, rfl, rfl, ?_, trivial⟩ (by simp) rfl (by simp))
                   rw [hnx]
                   exact ⟨rfl, wavs_imm _⟩)
                | (exfalso; have h' := of_decide_eq_false h; omega)
                | (exfalso; have h' := of_decide_eq_true h; omega)
                | (exfalso; rename_i hq; have h' := of_decide_eq_true hq; omega)
                | (exfalso; rename_i hq; have h' := of_decide_eq_false hq; omega)
                | (exfalso; rename_i hq _; have h' := of_decide_eq_true hq; omega)
                | (exfalso; rename_i hq _; have h' := of_decide_eq_false hq; omega)
                | (exfalso; simp only [decide_eq_true_eq, decide_eq_false_iff_not] at *; omega)
                | trace_state
  | none =>
    have hge := le_of_at hx
    have hie : i = L.length := by omega
    subst hie
    have hb := hball C
    rw [hb]
    have hgf := greedy_find P C
    rw [hinv] at hgf
    cases hf : P.find? (fun m => !hits C m) with
    | none =>
      rw [hf] at hgf
      rw [show (greedy P []) = C from hgf]
      generalize sortL vLt C = s at *
      have hsl : (s.map Match.enc).length = s.length := List.length_map _
      repeat' first | refine go_seq ?_ | refine go_region ?_ | refine go_miss rfl rfl rfl ?_ | refine go_undef rfl rfl rfl ?_ | refine go_draw drawsOk ?_ | ((first | refine go_op rfl ?_ | refine go_nil ?_ | refine go_hit rfl rfl rfl ?_ | refine go_splitT rfl rfl rfl (fun h => ?_) (fun h => ?_) | refine go_splitF rfl rfl rfl (fun h => ?_) (fun h => ?_) | refine go_storeBox rfl rfl rfl rfl rfl rfl ?_ | refine go_dop rfl ?_ | refine go_dhit rfl rfl ?_ | refine go_dmiss rfl rfl ?_ | refine go_dundef rfl rfl ?_ | refine go_dend (by kernel_rfl) ?_ | refine go_pickT rfl ?_ | refine go_pickF rfl ?_ | refine go_pick rfl (fun h => ?_) (fun h => ?_)) <;> conv => whnf) | ((first | refine go_dsplit2 rfl (fun h => ?_) (fun h => ?_) | refine go_loadB ?_ | refine ⟨by kernel_rfl, ?_⟩ | refine go_ret ?_) <;> conv => whnf) | refine go_block ?_ | ((first | refine go_skip ?_ | refine go_exit ?_) <;> conv => whnf) | refine go_true rfl ?_ | refine go_false rfl ?_ | refine go_cond rfl (fun h => ?_) (fun h => ?_) | refine ⟨rfl, ?_⟩ | ((first | refine ⟨trivial, ?_⟩ | refine ⟨le_of_ble rfl, ?_⟩) <;> conv => whnf) | fail
      all_goals first
        | exact ret_arr rfl rfl rfl rfl rfl (by rw [List.drop_zero, ← hsl, List.take_length]) (match_gr _)
        | (exfalso; have h' := of_decide_eq_false h; omega)
        | (exfalso; have h' := of_decide_eq_true h; omega)
        | (exfalso; rename_i hq; have h' := of_decide_eq_true hq; omega)
        | (exfalso; rename_i hq; have h' := of_decide_eq_false hq; omega)
        | (exfalso; rename_i hq _; have h' := of_decide_eq_true hq; omega)
        | (exfalso; rename_i hq _; have h' := of_decide_eq_false hq; omega)
        | trace_state
    | some m =>
      rw [hf] at hgf
      have hinv' : greedy P (C ++ [m]) = greedy P [] := hgf.symm
      have hgl' := (greedy_len P (C ++ [m])).1
      rw [hinv', List.length_append, List.length_singleton] at hgl'
      have hmu : (greedy P []).length - (C ++ [m]).length < (greedy P []).length - C.length := by rw [List.length_append, List.length_singleton]; omega
      have hm0 := hpv m (List.mem_of_find?_eq_some hf)
      have hnx := sortL_next vLt C m
      have hsr := sortL_srt vWeak C
      have hsn := sortL_len vWeak C
      have ov := int_one [m.vehicle]
      have oi := int_one [m.id]
      have hbv : ((C.map Match.vehicle).map intRow).length + 1 ≤ 1073741824 := by omega
      have hbi : ((C.map Match.id).map intRow).length + 1 ≤ 1073741824 := by omega
      have ev : ((C ++ [m]).map Match.vehicle).map intRow = (C.map Match.vehicle).map intRow ++ [m.vehicle].map intRow := by simp
      have ei : ((C ++ [m]).map Match.id).map intRow = (C.map Match.id).map intRow ++ [m.id].map intRow := by simp
      generalize hsd : sortL vLt C = s at *
      have hsm : (s.map Match.enc).length = s.length := List.length_map _
      repeat' first | refine go_seq ?_ | refine go_region ?_ | refine go_miss rfl rfl rfl ?_ | refine go_undef rfl rfl rfl ?_ | refine go_draw drawsOk ?_ | ((first | refine go_op rfl ?_ | refine go_nil ?_ | refine go_hit rfl rfl rfl ?_ | refine go_splitT rfl rfl rfl (fun h => ?_) (fun h => ?_) | refine go_splitF rfl rfl rfl (fun h => ?_) (fun h => ?_) | refine go_storeBox rfl rfl rfl rfl rfl rfl ?_ | refine go_dop rfl ?_ | refine go_dhit rfl rfl ?_ | refine go_dmiss rfl rfl ?_ | refine go_dundef rfl rfl ?_ | refine go_dend (by kernel_rfl) ?_ | refine go_pickT rfl ?_ | refine go_pickF rfl ?_ | refine go_pick rfl (fun h => ?_) (fun h => ?_) | refine go_append (rows2 := [m.vehicle].map intRow) rfl rfl rfl rfl rfl rfl rfl rfl rfl rfl rfl rfl ov rfl rfl rfl hbv ?_ | refine go_append (rows2 := [m.id].map intRow) rfl rfl rfl rfl rfl rfl rfl rfl rfl rfl rfl rfl oi rfl rfl rfl hbi ?_) <;> conv => whnf) | ((first | refine go_dsplit2 rfl (fun h => ?_) (fun h => ?_) | refine go_loadB ?_ | refine ⟨by kernel_rfl, ?_⟩ | refine go_ret ?_) <;> conv => whnf) | refine go_block ?_ | ((first | refine go_skip ?_ | refine go_exit ?_) <;> conv => whnf) | refine go_true rfl ?_ | refine go_false rfl ?_ | refine go_cond rfl (fun h => ?_) (fun h => ?_) | refine ⟨rfl, ?_⟩ | ((first | refine ⟨trivial, ?_⟩ | refine ⟨le_of_ble rfl, ?_⟩) <;> conv => whnf) | fail
      all_goals try first
        | (exfalso; have h' := of_decide_eq_false h; omega)
        | (exfalso; have h' := of_decide_eq_true h; omega)
        | (exfalso; rename_i hq; have h' := of_decide_eq_true hq; omega)
        | (exfalso; rename_i hq; have h' := of_decide_eq_false hq; omega)
        | (exfalso; rename_i hq _; have h' := of_decide_eq_true hq; omega)
        | (exfalso; rename_i hq _; have h' := of_decide_eq_false hq; omega)
        | (exfalso; exact hm0 (of_decide_eq_true h))
      refine go_loop (α := Nat) (fun k => k ≤ s.length ∧ ∀ y ∈ s.drop k, vLt m y = true) (fun k => k)
        (fun k => st Tryz.f48.ntmps [(2, .imm (.int .i64 limit)), (3, .box 1000 0), (7, .own 1001 0 s.length), (8, .imm (.list (L.map Report.enc))), (9, .own 1002 0 (((C ++ [m]).map Match.vehicle).map intRow).length), (10, .own 1003 0 (((C ++ [m]).map Match.id).map intRow).length), (11, .box 1004 0), (16, .imm (.int .i64 (k : Nat)))]
          [(1000, .box 40 (t.enc.map .imm)), (1001, .arr 93 3 (s.map Match.enc)), (1002, .arr 3 1 (((C ++ [m]).map Match.vehicle).map intRow)), (1003, .arr 3 1 (((C ++ [m]).map Match.id).map intRow)), (1004, .box 93 (m.enc.map .imm))] []) s.length ⟨Nat.le_refl _, by simp⟩ ?_ ?_
      · refine ref_st (fun y => if y = 1002 then nid 4 79 else if y = 1003 then nid 5 84 else y) rfl ⟨rfl, ⟨rfl, rfl⟩, ⟨rfl, rfl⟩, rfl, ⟨?_, rfl⟩, ⟨?_, rfl⟩, ⟨rfl, rfl⟩, rfl, trivial⟩ ⟨⟨rfl, wavs_imm _⟩, rfl, ?_, ?_, ⟨rfl, wavs_imm _⟩, trivial⟩ (by simp [nid]) rfl (by simp)
        · show AV.own _ _ _ = AV.own _ _ _
          rw [ev, List.length_append]; try rfl
        · show AV.own _ _ _ = AV.own _ _ _
          rw [ei, List.length_append]; try rfl
        · show some _ = some _
          rw [ev]; try rfl
        · show some _ = some _
          rw [ei]; try rfl
      rintro k ⟨hk, hdr⟩
      have hgo : (k = 0 ∨ ∃ y, s[k - 1]? = some y ∧ vLt m y = false) → s.take k ++ [m] ++ s.drop k = sortL vLt (C ++ [m]) := fun h => by rw [hnx]; exact insL_at vWeak hsr hdr h
      have hlen' : (s.take k ++ [m] ++ s.drop k).length = s.length + 1 := by simp; omega
      have q1 : ((s.map Match.enc).drop 0).take k = (s.take k).map Match.enc := by rw [List.drop_zero, List.map_take]
      have q2 : ((s.map Match.enc).drop k).take (s.length - k) = (s.drop k).map Match.enc := by rw [← List.map_drop, List.take_of_length_le (by simp)]
      have o1 := match_oneR (s.take k)
      have o2 := match_oneR (s.drop k)
      have o5 := match_one [m]
      have hF1 : 0 + k ≤ (s.map Match.enc).length := by omega
      have hF2 : k + (s.length - k) ≤ (s.map Match.enc).length := by omega
      have hB1 : 0 + k ≤ 1073741824 := by omega
      have hB2 : 0 + k + 1 ≤ 1073741824 := by omega
      have hB3 : 0 + k + 1 + (s.length - k) ≤ 1073741824 := by omega
      have hL1 : 0 + k = (List.replicate 0 ty93.zero ++ (s.take k).map Match.enc).length := by simp; omega
      have hL2 : 0 + k + 1 = (List.replicate 0 ty93.zero ++ (s.take k).map Match.enc ++ [m].map Match.enc).length := by simp; omega
      by_cases hk0 : k = 0
      · subst hk0
        repeat' first | refine go_seq ?_ | refine go_region ?_ | refine go_miss rfl rfl rfl ?_ | refine go_undef rfl rfl rfl ?_ | refine go_draw drawsOk ?_ | ((first | refine go_op rfl ?_ | refine go_nil ?_ | refine go_hit rfl rfl rfl ?_ | refine go_splitT rfl rfl rfl (fun h => ?_) (fun h => ?_) | refine go_splitF rfl rfl rfl (fun h => ?_) (fun h => ?_) | refine go_storeBox rfl rfl rfl rfl rfl rfl ?_ | refine go_dop rfl ?_ | refine go_dhit rfl rfl ?_ | refine go_dmiss rfl rfl ?_ | refine go_dundef rfl rfl ?_ | refine go_dend (by kernel_rfl) ?_ | refine go_pickT rfl ?_ | refine go_pickF rfl ?_ | refine go_pick rfl (fun h => ?_) (fun h => ?_) | refine go_sliceTo (k := 0) (id := 1001) rfl rfl rfl rfl rfl rfl hk ?_ | refine go_sliceFrom (k := 0) (id := 1001) rfl rfl rfl rfl rfl rfl hk ?_ | refine go_appSl (off2 := 0) (rr := (s.take (0)).map Match.enc) rfl rfl rfl rfl rfl rfl rfl rfl rfl rfl rfl rfl hF1 q1 o1 rfl rfl hB1 ?_ | refine go_append (rows2 := [m].map Match.enc) rfl rfl rfl rfl rfl rfl rfl rfl rfl rfl rfl rfl o5 rfl hL1 rfl hB2 ?_ | refine go_appSl (off2 := 0) (rr := (s.drop (0)).map Match.enc) rfl rfl rfl rfl rfl rfl rfl rfl rfl rfl rfl rfl hF2 q2 o2 rfl hL2 hB3 ?_) <;> conv => whnf) | ((first | refine go_dsplit2 rfl (fun h => ?_) (fun h => ?_) | refine go_loadB ?_ | refine ⟨by kernel_rfl, ?_⟩ | refine go_ret ?_) <;> conv => whnf) | refine go_block ?_ | ((first | refine go_skip ?_ | refine go_exit ?_) <;> conv => whnf) | refine go_true rfl ?_ | refine go_false rfl ?_ | refine go_cond rfl (fun h => ?_) (fun h => ?_) | refine ⟨rfl, ?_⟩ | ((first | refine ⟨trivial, ?_⟩ | refine ⟨le_of_ble rfl, ?_⟩) <;> conv => whnf) | fail
        all_goals first
          | (refine go_next (C ++ [m]) hinv' hmu (ref_st (fun y => if y = 1001 then nid 3 113 else y) rfl ⟨rfl, ⟨rfl, rfl⟩, ⟨?_, rfl⟩, rfl, ⟨rfl, rfl⟩, ⟨rfl, rfl⟩, trivial⟩ ⟨⟨rfl, wavs_imm _⟩, ?_, rfl, rfl, trivial⟩ (by simp [nid]) rfl (by simp))
             · show AV.own _ _ _ = AV.own _ _ _
               congr 1
               rw [← hgo (.inl rfl), hlen']
               omega
             · show some _ = some _
               rw [← hgo (.inl rfl), List.map_append, List.map_append]
               rfl
             done)
          | (exfalso; have h' := of_decide_eq_false h; omega)
          | (exfalso; have h' := of_decide_eq_true h; omega)
          | (exfalso; rename_i hq; have h' := of_decide_eq_true hq; omega)
          | (exfalso; rename_i hq; have h' := of_decide_eq_false hq; omega)
          | (exfalso; rename_i hq _; have h' := of_decide_eq_true hq; omega)
          | (exfalso; rename_i hq _; have h' := of_decide_eq_false hq; omega)
          | trace_state
      · obtain ⟨j, rfl⟩ : ∃ j, k = j + 1 := ⟨k - 1, by omega⟩
        obtain ⟨y, hy⟩ : ∃ y, s[j]? = some y := ⟨_, List.getElem?_eq_getElem (by omega)⟩
        have r0 : (s.map Match.enc)[j]? = some [.int .i64 y.vehicle, .int .i64 y.id, .int .i64 y.delay] := by rw [List.getElem?_map, hy]; rfl
        have ej : IntKind.i64.wrap (((j + 1 : Nat) : Int) - 1) = (j : Nat) := by rw [wrap_small (by omega) (by omega)]; omega
        have hdj : s.drop j = y :: s.drop (j + 1) := by
          rw [List.drop_eq_getElem_cons (show j < s.length by omega)]
          congr 1
          exact (List.getElem?_eq_some_iff.1 hy).2
        repeat' first | refine go_seq ?_ | refine go_region ?_ | refine go_miss rfl rfl rfl ?_ | refine go_undef rfl rfl rfl ?_ | refine go_draw drawsOk ?_ | ((first | refine go_op rfl ?_ | refine go_nil ?_ | refine go_hit rfl rfl rfl ?_ | refine go_splitT rfl rfl rfl (fun h => ?_) (fun h => ?_) | refine go_splitF rfl rfl rfl (fun h => ?_) (fun h => ?_) | refine go_storeBox rfl rfl rfl rfl rfl rfl ?_ | refine go_dop rfl ?_ | refine go_dhit rfl rfl ?_ | refine go_dmiss rfl rfl ?_ | refine go_dundef rfl rfl ?_ | refine go_dend (by kernel_rfl) ?_ | refine go_pickT rfl ?_ | refine go_pickF rfl ?_ | refine go_pick rfl (fun h => ?_) (fun h => ?_) | refine go_sliceTo (k := j + 1) (id := 1001) rfl rfl rfl rfl rfl rfl hk ?_ | refine go_sliceFrom (k := j + 1) (id := 1001) rfl rfl rfl rfl rfl rfl hk ?_ | refine go_appSl (off2 := 0) (rr := (s.take (j + 1)).map Match.enc) rfl rfl rfl rfl rfl rfl rfl rfl rfl rfl rfl rfl hF1 q1 o1 rfl rfl hB1 ?_ | refine go_append (rows2 := [m].map Match.enc) rfl rfl rfl rfl rfl rfl rfl rfl rfl rfl rfl rfl o5 rfl hL1 rfl hB2 ?_ | refine go_appSl (off2 := j + 1) (rr := (s.drop (j + 1)).map Match.enc) rfl rfl rfl rfl rfl rfl rfl rfl rfl rfl rfl rfl hF2 q2 o2 rfl hL2 hB3 ?_ | refine go_idxOwnI (j := j) rfl rfl ej rfl rfl rfl rfl (show j < _ by omega) ?_ | refine go_loadEl (i := j) rfl rfl rfl r0 ?_) <;> conv => whnf) | ((first | refine go_dsplit2 rfl (fun h => ?_) (fun h => ?_) | refine go_loadB ?_ | refine ⟨by kernel_rfl, ?_⟩ | refine go_ret ?_) <;> conv => whnf) | refine go_block ?_ | ((first | refine go_skip ?_ | refine go_exit ?_) <;> conv => whnf) | refine go_true rfl ?_ | refine go_false rfl ?_ | refine go_cond rfl (fun h => ?_) (fun h => ?_) | refine ⟨rfl, ?_⟩ | ((first | refine ⟨trivial, ?_⟩ | refine ⟨le_of_ble rfl, ?_⟩) <;> conv => whnf) | fail
        all_goals first
          | (refine go_next j ⟨by omega, ?_⟩ (by omega) (ref_st id rfl ⟨rfl, ⟨rfl, rfl⟩, ⟨rfl, rfl⟩, rfl, ⟨rfl, rfl⟩, ⟨rfl, rfl⟩, ⟨rfl, rfl⟩, ?_, trivial⟩ ⟨⟨rfl, wavs_imm _⟩, rfl, rfl, rfl, ⟨rfl, wavs_imm _⟩, trivial⟩ (by simp) rfl (by simp))
             · intro z hz
               rw [hdj] at hz
               rcases List.mem_cons.1 hz with rfl | hz
               · unfold vLt
                 simp only [decide_eq_true_eq, decide_eq_false_iff_not] at *
                 omega
               · exact hdr z hz
             · show AV.imm (.int .i64 _) = AV.imm (.int .i64 _)
               rw [ej]
             done)
          | (have hno : vLt m y = false := by
               unfold vLt
               simp only [decide_eq_true_eq, decide_eq_false_iff_not] at *
               omega
             refine go_next (C ++ [m]) hinv' hmu (ref_st (fun y => if y = 1001 then nid 3 113 else y) rfl ⟨rfl, ⟨rfl, rfl⟩, ⟨?_, rfl⟩, rfl, ⟨rfl, rfl⟩, ⟨rfl, rfl⟩, trivial⟩ ⟨⟨rfl, wavs_imm _⟩, ?_, rfl, rfl, trivial⟩ (by simp [nid]) rfl (by simp))
             · show AV.own _ _ _ = AV.own _ _ _
               congr 1
               rw [← hgo (.inr ⟨y, hy, hno⟩), hlen']
               omega
             · show some _ = some _
               rw [← hgo (.inr ⟨y, hy, hno⟩), List.map_append, List.map_append]
               rfl
             done)
          | (exfalso; have h' := of_decide_eq_false h; omega)
          | (exfalso; have h' := of_decide_eq_true h; omega)
          | (exfalso; rename_i hq; have h' := of_decide_eq_true hq; omega)
          | (exfalso; rename_i hq; have h' := of_decide_eq_false hq; omega)
          | (exfalso; rename_i hq _; have h' := of_decide_eq_true hq; omega)
          | (exfalso; rename_i hq _; have h' := of_decide_eq_false hq; omega)
          | trace_state
end Go.Proofs.YtmbaalkeogckbaaGreat

