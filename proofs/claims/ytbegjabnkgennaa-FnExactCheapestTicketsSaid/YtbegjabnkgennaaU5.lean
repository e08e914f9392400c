/- The reference's days of rides. -/
import Derived.Test.YtbegjabnkgennaaU4
namespace Go.Proofs.Ytbegjabnkgennaa
open Go Go.Am
set_option maxRecDepth 100000
set_option maxHeartbeats 4000000
attribute [local irreducible] amOps amC opCall opIndexAddr opPick retQ opMake opStore amDraw opAppend opLoad opNilCmp opIndex opSlice

theorem c20 (p : Prices) (rs : List Ride) (hok : ridesOk rs = true) : CallOk Try.prog 20 [.imm (.agg p.enc), .imm (.list (rs.map Ride.enc))] { res := [.arr 3 1 (dRows (dayL rs)), .arr 3 1 ((capL p.day (dayL rs)).map intRow)] } := by
  refine callOk_of tyOk Try.func20 rfl rfl (le_of_ble rfl) (le_of_ble rfl) (mutOk_imm rfl _) ?_
  have hok' := hok
  unfold ridesOk at hok'
  simp only [Bool.and_eq_true, decide_eq_true_eq] at hok'
  obtain ⟨hall, hl20⟩ := hok'
  have hrl : ((rs.map Ride.enc).length : Int) = rs.length := by rw [List.length_map]
  repeat' first | refine go_seq ?_ | refine go_region ?_ | refine go_miss rfl rfl rfl ?_ | refine go_undef rfl rfl rfl ?_ | refine go_draw drawsOk ?_ | ((first | refine go_op rfl ?_ | refine go_nil ?_ | refine go_hit rfl rfl rfl ?_ | refine go_splitT rfl rfl rfl (fun h => ?_) (fun h => ?_) | refine go_splitF rfl rfl rfl (fun h => ?_) (fun h => ?_) | refine go_storeBox rfl rfl rfl rfl rfl rfl ?_ | refine go_dop rfl ?_ | refine go_dhit rfl rfl ?_ | refine go_dmiss rfl rfl ?_ | refine go_dundef rfl rfl ?_ | refine go_dend (by kernel_rfl) ?_ | refine go_pickT rfl ?_ | refine go_pickF rfl ?_ | refine go_pick rfl (fun h => ?_) (fun h => ?_)) <;> conv => whnf) | ((first | refine go_dsplit2 rfl (fun h => ?_) (fun h => ?_) | refine go_loadB ?_ | refine ⟨by kernel_rfl, ?_⟩ | refine go_ret ?_) <;> conv => whnf) | refine go_block ?_ | ((first | refine go_skip ?_ | refine go_exit ?_) <;> conv => whnf) | refine go_true rfl ?_ | refine go_false rfl ?_ | refine go_cond rfl (fun h => ?_) (fun h => ?_) | refine ⟨rfl, ?_⟩ | ((first | refine ⟨trivial, ?_⟩ | refine ⟨le_of_ble rfl, ?_⟩) <;> conv => whnf) | fail
  refine go_loop (α := Nat × List (Int × Int)) (fun q => q.1 ≤ rs.length ∧ q.2 = dayL (rs.take q.1)) (fun q => rs.length - q.1)
    (fun q => st Try.f20.ntmps [(1, .imm (.list (rs.map Ride.enc))), (2, .box 1002 0), (6, .own 1000 0 q.2.length), (7, .own 1001 0 q.2.length), (8, .imm (.int .i64 (q.1 : Nat)))]
      [(1000, .arr 3 1 (dRows q.2)), (1001, .arr 3 1 (cRows q.2)), (1002, .box 30 (p.enc.map .imm))] []) (0, []) ⟨Nat.zero_le _, rfl⟩
    (ref_st (fun y => if y = 1000 then nid 2 11 else if y = 1001 then nid 2 12 else nid 1 2) rfl ⟨rfl, ⟨rfl, rfl⟩, ⟨rfl, rfl⟩, ⟨rfl, rfl⟩, rfl, trivial⟩ ⟨rfl, rfl, ⟨rfl, wavs_imm _⟩, trivial⟩ (by simp [nid]) rfl (by simp [lookM])) ?_
  rintro ⟨i, g⟩ ⟨hi, hg⟩
  simp only at hi hg
  have hD := days_all hall i hi
  rw [← hg] at hD
  have hdl := dRows_len g
  have hcl := cRows_len g
  have hgl := hD.len
  cases hx : rs[i]? with
  | none =>
    have hge := le_of_at hx
    rw [List.take_of_length_le hge] at hg
    rw [← hg]
    repeat' first | refine go_seq ?_ | refine go_region ?_ | refine go_miss rfl rfl rfl ?_ | refine go_undef rfl rfl rfl ?_ | refine go_draw drawsOk ?_ | ((first | refine go_op rfl ?_ | refine go_nil ?_ | refine go_hit rfl rfl rfl ?_ | refine go_splitT rfl rfl rfl (fun h => ?_) (fun h => ?_) | refine go_splitF rfl rfl rfl (fun h => ?_) (fun h => ?_) | refine go_storeBox rfl rfl rfl rfl rfl rfl ?_ | refine go_dop rfl ?_ | refine go_dhit rfl rfl ?_ | refine go_dmiss rfl rfl ?_ | refine go_dundef rfl rfl ?_ | refine go_dend (by kernel_rfl) ?_ | refine go_pickT rfl ?_ | refine go_pickF rfl ?_ | refine go_pick rfl (fun h => ?_) (fun h => ?_)) <;> conv => whnf) | ((first | refine go_dsplit2 rfl (fun h => ?_) (fun h => ?_) | refine go_loadB ?_ | refine ⟨by kernel_rfl, ?_⟩ | refine go_ret ?_) <;> conv => whnf) | refine go_block ?_ | ((first | refine go_skip ?_ | refine go_exit ?_) <;> conv => whnf) | refine go_true rfl ?_ | refine go_false rfl ?_ | refine go_cond rfl (fun h => ?_) (fun h => ?_) | refine ⟨rfl, ?_⟩ | ((first | refine ⟨trivial, ?_⟩ | refine ⟨le_of_ble rfl, ?_⟩) <;> conv => whnf) | fail
    all_goals try first
      | (exfalso; have h' := of_decide_eq_false h; omega)
      | (exfalso; have h' := of_decide_eq_true h; omega)
      | (exfalso; rename_i hq; have h' := of_decide_eq_true hq; omega)
      | (exfalso; rename_i hq; have h' := of_decide_eq_false hq; omega)
      | (exfalso; rename_i hq _; have h' := of_decide_eq_true hq; omega)
      | (exfalso; rename_i hq _; have h' := of_decide_eq_false hq; omega)
      | (exfalso; simp at h; omega)
    have hcap : (capL p.day g).length = (g.map (·.2)).length := by simp [capL]
    refine go_loop (α := Nat) (fun j => j ≤ g.length) (fun j => g.length - j)
      (fun j => st Try.f20.ntmps [(2, .box 1002 0), (6, .own 1000 0 g.length), (7, .own 1001 0 g.length), (10, .imm (.int .i64 (j : Nat)))]
        [(1000, .arr 3 1 (dRows g)), (1001, .arr 3 1 ((upto (capL p.day g) (g.map (·.2)) j).map intRow)), (1002, .box 30 (p.enc.map .imm))] []) 0 (Nat.zero_le _)
      (ref_st id rfl ⟨⟨rfl, rfl⟩, ⟨rfl, rfl⟩, ⟨rfl, rfl⟩, rfl, trivial⟩ ⟨rfl, ?_, ⟨rfl, wavs_imm _⟩, trivial⟩ (by simp) rfl (by simp [lookM])) ?_
    · show some _ = some _
      rw [upto_0]; rfl
    intro j hj
    have hul := upto_len hcap j
    cases hy : g[j]? with
    | none =>
      have hgj := le_of_at hy
      have hue := upto_end hcap (i := j) (by simpa using hgj)
      repeat' first | refine go_seq ?_ | refine go_region ?_ | refine go_miss rfl rfl rfl ?_ | refine go_undef rfl rfl rfl ?_ | refine go_draw drawsOk ?_ | ((first | refine go_op rfl ?_ | refine go_nil ?_ | refine go_hit rfl rfl rfl ?_ | refine go_splitT rfl rfl rfl (fun h => ?_) (fun h => ?_) | refine go_splitF rfl rfl rfl (fun h => ?_) (fun h => ?_) | refine go_storeBox rfl rfl rfl rfl rfl rfl ?_ | refine go_dop rfl ?_ | refine go_dhit rfl rfl ?_ | refine go_dmiss rfl rfl ?_ | refine go_dundef rfl rfl ?_ | refine go_dend (by kernel_rfl) ?_ | refine go_pickT rfl ?_ | refine go_pickF rfl ?_ | refine go_pick rfl (fun h => ?_) (fun h => ?_)) <;> conv => whnf) | ((first | refine go_dsplit2 rfl (fun h => ?_) (fun h => ?_) | refine go_loadB ?_ | refine ⟨by kernel_rfl, ?_⟩ | refine go_ret ?_) <;> conv => whnf) | refine go_block ?_ | ((first | refine go_skip ?_ | refine go_exit ?_) <;> conv => whnf) | refine go_true rfl ?_ | refine go_false rfl ?_ | refine go_cond rfl (fun h => ?_) (fun h => ?_) | refine ⟨rfl, ?_⟩ | ((first | refine ⟨trivial, ?_⟩ | refine ⟨le_of_ble rfl, ?_⟩) <;> conv => whnf) | fail
      all_goals first
        | (refine ret_arrarr rfl rfl rfl rfl rfl ?_ (int_gr _) rfl rfl ?_ (int_gr _) rfl
           · rw [← hdl, List.drop_zero, List.take_length]
           · rw [hue, List.drop_zero]
             refine List.take_of_length_le ?_
             simp [capL]
           done)
        | (exfalso; simp at h; omega)
        | trace_state
    | some y =>
      have hjl := lt_of_at hy
      have hu2 : (g.map (·.2))[j]? = some y.2 := by simp [hy]
      have hc2 : (capL p.day g)[j]? = some (if y.2 < p.day then y.2 else p.day) := by simp [capL, hy]
      have hat := upto_at hcap hu2
      have hrow : ((upto (capL p.day g) (g.map (·.2)) j).map intRow)[j]? = some (intRow y.2) := by simp [hat]
      have hset : ((upto (capL p.day g) (g.map (·.2)) j).map intRow).set j [.int .i64 (if y.2 < p.day then y.2 else p.day)] = (upto (capL p.day g) (g.map (·.2)) (j + 1)).map intRow := by
        rw [← upto_set hcap hu2 hc2, List.map_set]; rfl
      have hleast := c21 y.2 p.day
      repeat' first | refine go_seq ?_ | refine go_region ?_ | refine go_miss rfl rfl rfl ?_ | refine go_undef rfl rfl rfl ?_ | refine go_draw drawsOk ?_ | ((first | refine go_op rfl ?_ | refine go_nil ?_ | refine go_hit rfl rfl rfl ?_ | refine go_splitT rfl rfl rfl (fun h => ?_) (fun h => ?_) | refine go_splitF rfl rfl rfl (fun h => ?_) (fun h => ?_) | refine go_storeBox rfl rfl rfl rfl rfl rfl ?_ | refine go_dop rfl ?_ | refine go_dhit rfl rfl ?_ | refine go_dmiss rfl rfl ?_ | refine go_dundef rfl rfl ?_ | refine go_dend (by kernel_rfl) ?_ | refine go_pickT rfl ?_ | refine go_pickF rfl ?_ | refine go_pick rfl (fun h => ?_) (fun h => ?_) | refine go_call [] (hleast) rfl rfl rfl rfl ?_ | refine go_idxOwn rfl rfl rfl rfl rfl rfl hjl ?_ | refine go_loadEl (i := j) rfl rfl rfl hrow ?_ | refine go_storeRow rfl rfl rfl rfl hrow rfl rfl hset ?_) <;> conv => whnf) | ((first | refine go_dsplit2 rfl (fun h => ?_) (fun h => ?_) | refine go_loadB ?_ | refine ⟨by kernel_rfl, ?_⟩ | refine go_ret ?_) <;> conv => whnf) | refine go_block ?_ | ((first | refine go_skip ?_ | refine go_exit ?_) <;> conv => whnf) | refine go_true rfl ?_ | refine go_false rfl ?_ | refine go_cond rfl (fun h => ?_) (fun h => ?_) | refine ⟨rfl, ?_⟩ | ((first | refine ⟨trivial, ?_⟩ | refine ⟨le_of_ble rfl, ?_⟩) <;> conv => whnf) | fail
      all_goals first
        | (refine go_next (j + 1) hjl (by omega) (ref_st id rfl ⟨⟨rfl, rfl⟩, ⟨rfl, rfl⟩, ⟨rfl, rfl⟩, next_i (by omega), trivial⟩ ⟨rfl, rfl, ⟨rfl, wavs_imm _⟩, trivial⟩ (by simp) rfl (by simp [lookM]))
           done)
        | (exfalso; simp at h; omega)
        | trace_state
  | some x =>
    have hlt := lt_of_at hx
    have hrw := row_at Ride.enc hx
    have hok1 := allI_iff.1 hall _ _ hx
    have hf : 0 ≤ x.fare ∧ x.fare ≤ 10000 := by
      unfold rideAt at hok1
      simp only [Bool.and_eq_true, inR_iff] at hok1
      omega
    have hnx := dayL_next hx
    rw [← hg] at hnx
    have hone1 := int_one [x.day]
    have hone2 := int_one [(0 : Int)]
    have hbd : g.length + 1 ≤ 1073741824 := by omega
    have hw2 : IntKind.i64.wrap (IntKind.i64.wrap ((g.length : Int) + 1) - 1) = ((g.length : Nat) : Int) := by rw [wrap_small (n := (g.length : Int) + 1) (by omega) (by omega), wrap_small (by omega) (by omega)]; omega
    have hwf0 : IntKind.i64.wrap (0 + x.fare) = x.fare := by rw [Int.zero_add]; exact wrap_small (by omega) (by omega)
    have hlen1 : g.length < g.length + 1 := by omega
    have hrow0 : (cRows g ++ [(0 : Int)].map intRow)[g.length]? = some [.int .i64 0] := by rw [List.getElem?_append_right (by omega), hcl, Nat.sub_self]; rfl
    have hset0 : (cRows g ++ [(0 : Int)].map intRow).set g.length [.int .i64 (IntKind.i64.wrap (0 + x.fare))] = cRows (g ++ [(x.day, x.fare)]) := by
      rw [hwf0, cRows_app, List.set_append_right _ _ (by omega), hcl, Nat.sub_self]; rfl
    by_cases h0 : 0 < g.length
    case neg =>
      have hg0 : g = [] := List.eq_nil_of_length_eq_zero (by omega)
      have hst : dayStep g x = g ++ [(x.day, x.fare)] := step_new fun y hy => by rw [hg0] at hy; simp at hy
      rw [hst] at hnx
      repeat' first | refine go_seq ?_ | refine go_region ?_ | refine go_miss rfl rfl rfl ?_ | refine go_undef rfl rfl rfl ?_ | refine go_draw drawsOk ?_ | ((first | refine go_op rfl ?_ | refine go_nil ?_ | refine go_hit rfl rfl rfl ?_ | refine go_splitT rfl rfl rfl (fun h => ?_) (fun h => ?_) | refine go_splitF rfl rfl rfl (fun h => ?_) (fun h => ?_) | refine go_storeBox rfl rfl rfl rfl rfl rfl ?_ | refine go_dop rfl ?_ | refine go_dhit rfl rfl ?_ | refine go_dmiss rfl rfl ?_ | refine go_dundef rfl rfl ?_ | refine go_dend (by kernel_rfl) ?_ | refine go_pickT rfl ?_ | refine go_pickF rfl ?_ | refine go_pick rfl (fun h => ?_) (fun h => ?_) | refine go_idx rfl rfl rfl rfl (by omega) hrw rfl ?_ | refine go_append (rows2 := [x.day].map intRow) rfl rfl rfl rfl rfl rfl rfl rfl rfl rfl rfl rfl hone1 rfl hdl.symm rfl hbd ?_ | refine go_append (rows2 := [(0 : Int)].map intRow) rfl rfl rfl rfl rfl rfl rfl rfl rfl rfl rfl rfl hone2 rfl hcl.symm rfl hbd ?_ | refine go_idxOwnI (j := g.length) rfl rfl hw2 rfl rfl rfl rfl hlen1 ?_ | refine go_loadEl (i := g.length) rfl rfl rfl hrow0 ?_ | refine go_storeRow rfl rfl rfl rfl hrow0 rfl rfl hset0 ?_) <;> conv => whnf) | ((first | refine go_dsplit2 rfl (fun h => ?_) (fun h => ?_) | refine go_loadB ?_ | refine ⟨by kernel_rfl, ?_⟩ | refine go_ret ?_) <;> conv => whnf) | refine go_block ?_ | ((first | refine go_skip ?_ | refine go_exit ?_) <;> conv => whnf) | refine go_true rfl ?_ | refine go_false rfl ?_ | refine go_cond rfl (fun h => ?_) (fun h => ?_) | refine ⟨rfl, ?_⟩ | ((first | refine ⟨trivial, ?_⟩ | refine ⟨le_of_ble rfl, ?_⟩) <;> conv => whnf) | fail
      all_goals first
        | (refine go_next (i + 1, g ++ [(x.day, x.fare)]) ⟨by omega, hnx.symm⟩ (by show rs.length - (i + 1) < rs.length - i; omega) (ref_st (fun y => if y = 1000 then nid 5 43 else if y = 1001 then nid 6 46 else y) rfl ⟨rfl, ⟨rfl, rfl⟩, ⟨?_, rfl⟩, ⟨?_, rfl⟩, next_i (i := i) (by omega), trivial⟩ ⟨?_, rfl, ⟨rfl, wavs_imm _⟩, trivial⟩ (by simp [nid]) rfl (by simp [lookM]))
           · show AV.own _ _ _ = AV.own _ _ _
             rw [List.length_append]; rfl
           · show AV.own _ _ _ = AV.own _ _ _
             rw [List.length_append]; rfl
           · show some _ = some _
             rw [dRows_app]; rfl
           done)
        | (exfalso; simp at h; omega)
        | (exfalso; have h' := of_decide_eq_false h; omega)
        | (exfalso; have h' := of_decide_eq_true h; omega)
        | (exfalso; rename_i hq; have h' := of_decide_eq_true hq; omega)
        | (exfalso; rename_i hq; have h' := of_decide_eq_false hq; omega)
        | (exfalso; rename_i hq _; have h' := of_decide_eq_true hq; omega)
        | (exfalso; rename_i hq _; have h' := of_decide_eq_false hq; omega)
        | (exfalso; simp_all; done)
        | trace_state
    case pos =>
      obtain ⟨y, hy⟩ : ∃ y, g[g.length - 1]? = some y := ⟨_, List.getElem?_eq_getElem (by omega)⟩
      have hw : IntKind.i64.wrap ((g.length : Int) - 1) = ((g.length - 1 : Nat) : Int) := by rw [wrap_small (by omega) (by omega)]; omega
      have hyl : g.length - 1 < g.length := by omega
      have hrd := dRows_at hy
      have hrc := cRows_at hy
      have hyf := hD.fare y (List.mem_of_getElem? hy)
      by_cases hsame : y.1 = x.day
      case pos =>
        have hst := step_same (x := y) hy hsame
        rw [hst] at hnx
        have hwf : IntKind.i64.wrap (y.2 + x.fare) = y.2 + x.fare := wrap_small (by omega) (by omega)
        have hset : (cRows g).set (g.length - 1) [.int .i64 (IntKind.i64.wrap (y.2 + x.fare))] = cRows (g.set (g.length - 1) (y.1, y.2 + x.fare)) := by rw [cRows_set, hwf]
        have hds := dRows_set hy (y.2 + x.fare)
        repeat' first | refine go_seq ?_ | refine go_region ?_ | refine go_miss rfl rfl rfl ?_ | refine go_undef rfl rfl rfl ?_ | refine go_draw drawsOk ?_ | ((first | refine go_op rfl ?_ | refine go_nil ?_ | refine go_hit rfl rfl rfl ?_ | refine go_splitT rfl rfl rfl (fun h => ?_) (fun h => ?_) | refine go_splitF rfl rfl rfl (fun h => ?_) (fun h => ?_) | refine go_storeBox rfl rfl rfl rfl rfl rfl ?_ | refine go_dop rfl ?_ | refine go_dhit rfl rfl ?_ | refine go_dmiss rfl rfl ?_ | refine go_dundef rfl rfl ?_ | refine go_dend (by kernel_rfl) ?_ | refine go_pickT rfl ?_ | refine go_pickF rfl ?_ | refine go_pick rfl (fun h => ?_) (fun h => ?_) | refine go_idx rfl rfl rfl rfl (by omega) hrw rfl ?_ | refine go_idxOwnI (j := g.length - 1) rfl rfl hw rfl rfl rfl rfl hyl ?_ | refine go_loadEl (i := g.length - 1) rfl rfl rfl hrd ?_ | refine go_loadEl (i := g.length - 1) rfl rfl rfl hrc ?_ | refine go_storeRow rfl rfl rfl rfl hrc rfl rfl hset ?_) <;> conv => whnf) | ((first | refine go_dsplit2 rfl (fun h => ?_) (fun h => ?_) | refine go_loadB ?_ | refine ⟨by kernel_rfl, ?_⟩ | refine go_ret ?_) <;> conv => whnf) | refine go_block ?_ | ((first | refine go_skip ?_ | refine go_exit ?_) <;> conv => whnf) | refine go_true rfl ?_ | refine go_false rfl ?_ | refine go_cond rfl (fun h => ?_) (fun h => ?_) | refine ⟨rfl, ?_⟩ | ((first | refine ⟨trivial, ?_⟩ | refine ⟨le_of_ble rfl, ?_⟩) <;> conv => whnf) | fail
        all_goals first
          | (refine go_next (i + 1, g.set (g.length - 1) (y.1, y.2 + x.fare)) ⟨by omega, hnx.symm⟩ (by show rs.length - (i + 1) < rs.length - i; omega) (ref_st id rfl ⟨rfl, ⟨rfl, rfl⟩, ⟨?_, rfl⟩, ⟨?_, rfl⟩, next_i (i := i) (by omega), trivial⟩ ⟨?_, rfl, ⟨rfl, wavs_imm _⟩, trivial⟩ (by simp [nid]) rfl (by simp [lookM]))
             · show AV.own _ _ _ = AV.own _ _ _
               rw [List.length_set]; rfl
             · show AV.own _ _ _ = AV.own _ _ _
               rw [List.length_set]; rfl
             · show some _ = some _
               rw [hds]
             done)
          | (exfalso; simp at h; omega)
          | (exfalso; simp_all; done)
          | (exfalso; simp_all; omega)
          | trace_state
      case neg =>
        have hst : dayStep g x = g ++ [(x.day, x.fare)] := step_new fun z hz => by rw [hy] at hz; injection hz with hz; rw [← hz]; exact hsame
        rw [hst] at hnx
        repeat' first | refine go_seq ?_ | refine go_region ?_ | refine go_miss rfl rfl rfl ?_ | refine go_undef rfl rfl rfl ?_ | refine go_draw drawsOk ?_ | ((first | refine go_op rfl ?_ | refine go_nil ?_ | refine go_hit rfl rfl rfl ?_ | refine go_splitT rfl rfl rfl (fun h => ?_) (fun h => ?_) | refine go_splitF rfl rfl rfl (fun h => ?_) (fun h => ?_) | refine go_storeBox rfl rfl rfl rfl rfl rfl ?_ | refine go_dop rfl ?_ | refine go_dhit rfl rfl ?_ | refine go_dmiss rfl rfl ?_ | refine go_dundef rfl rfl ?_ | refine go_dend (by kernel_rfl) ?_ | refine go_pickT rfl ?_ | refine go_pickF rfl ?_ | refine go_pick rfl (fun h => ?_) (fun h => ?_) | refine go_idx rfl rfl rfl rfl (by omega) hrw rfl ?_ | refine go_idxOwnI (j := g.length - 1) rfl rfl hw rfl rfl rfl rfl hyl ?_ | refine go_loadEl (i := g.length - 1) rfl rfl rfl hrd ?_ | refine go_append (rows2 := [x.day].map intRow) rfl rfl rfl rfl rfl rfl rfl rfl rfl rfl rfl rfl hone1 rfl hdl.symm rfl hbd ?_ | refine go_append (rows2 := [(0 : Int)].map intRow) rfl rfl rfl rfl rfl rfl rfl rfl rfl rfl rfl rfl hone2 rfl hcl.symm rfl hbd ?_ | refine go_idxOwnI (j := g.length) rfl rfl hw2 rfl rfl rfl rfl hlen1 ?_ | refine go_loadEl (i := g.length) rfl rfl rfl hrow0 ?_ | refine go_storeRow rfl rfl rfl rfl hrow0 rfl rfl hset0 ?_) <;> conv => whnf) | ((first | refine go_dsplit2 rfl (fun h => ?_) (fun h => ?_) | refine go_loadB ?_ | refine ⟨by kernel_rfl, ?_⟩ | refine go_ret ?_) <;> conv => whnf) | refine go_block ?_ | ((first | refine go_skip ?_ | refine go_exit ?_) <;> conv => whnf) | refine go_true rfl ?_ | refine go_false rfl ?_ | refine go_cond rfl (fun h => ?_) (fun h => ?_) | refine ⟨rfl, ?_⟩ | ((first | refine ⟨trivial, ?_⟩ | refine ⟨le_of_ble rfl, ?_⟩) <;> conv => whnf) | fail
        all_goals first
          | (refine go_next (i + 1, g ++ [(x.day, x.fare)]) ⟨by omega, hnx.symm⟩ (by show rs.length - (i + 1) < rs.length - i; omega) (ref_st (fun y => if y = 1000 then nid 5 43 else if y = 1001 then nid 6 46 else y) rfl ⟨rfl, ⟨rfl, rfl⟩, ⟨?_, rfl⟩, ⟨?_, rfl⟩, next_i (i := i) (by omega), trivial⟩ ⟨?_, rfl, ⟨rfl, wavs_imm _⟩, trivial⟩ (by simp [nid]) rfl (by simp [lookM]))
             · show AV.own _ _ _ = AV.own _ _ _
               rw [List.length_append]; rfl
             · show AV.own _ _ _ = AV.own _ _ _
               rw [List.length_append]; rfl
             · show some _ = some _
               rw [dRows_app]; rfl
             done)
          | (exfalso; simp at h; omega)
          | (exfalso; simp_all; done)
          | (exfalso; simp_all; omega)
          | trace_state
end Go.Proofs.Ytbegjabnkgennaa

