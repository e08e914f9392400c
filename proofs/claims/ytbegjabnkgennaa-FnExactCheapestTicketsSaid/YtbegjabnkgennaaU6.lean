/- The reference's cheapest tickets. -/
import Derived.Test.YtbegjabnkgennaaU5
namespace Go.Am
open Go
theorem ret_iob {T : TypeId → Option TI} {fn : Func} {ins : List In} {r1 r2 r3 : ResultVar} {id off len ty sz : Nat} {rows rows' : List (List D)} {a a' c c' : D} {σ : S} (hr : fn.results.toList = [r1, r2, r3]) (hm : mutIdx ins = []) (hp : σ.pm = []) (hv1 : retAV T σ r1 = .imm a') (ha : a' = a) (hv : retAV T σ r2 = .own id off len)
    (hmm : σ.m id = some (.arr ty sz rows')) (hd : (rows'.drop off).take len = rows) (hv3 : retAV T σ r3 = .imm c') (hc : c' = c) :
    retQ T fn ins { res := [.imm a, .imm (.list rows), .imm c], sep := false } .ret σ := by
  subst hd
  refine ret_all (avs := [.imm a', .own id off len, .imm c']) (by rw [hr]; simp only [List.map_cons, List.map_nil, hv1, hv, hv3]) ⟨⟨ha, (fun e => by cases e)⟩, ?_, ⟨hc, (fun e => by cases e)⟩, trivial⟩ (by simp [ownIds]) (by rw [hp]; exact List.nodup_nil) (by rw [hm, hp]; trivial)
  simp only [Ret1, hmm]
  exact ⟨trivial, (fun e => by cases e), by rw [hp]; simp⟩
end Go.Am
namespace Go.Proofs.Ytbegjabnkgennaa
open Go Go.Am
set_option maxRecDepth 100000
set_option maxHeartbeats 8000000
attribute [local irreducible] amOps amC opCall opIndexAddr opPick retQ opMake opStore amDraw opAppend opLoad opNilCmp opIndex opSlice

def half {α : Type} (z : α) (F : List α) (k : Nat) : List α := List.replicate k z ++ F.drop k
theorem half_len {α : Type} {z : α} {F : List α} {k : Nat} (h : k ≤ F.length) : (half z F k).length = F.length := by
  unfold half
  rw [List.length_append, List.length_replicate, List.length_drop]
  omega
theorem half_ge {α : Type} {z : α} {F : List α} {k j : Nat} (h : k ≤ j) : (half z F k)[j]? = F[j]? := by
  unfold half
  rw [List.getElem?_append_right (by simp; omega), List.length_replicate, List.getElem?_drop, show k + (j - k) = j from by omega]
theorem half_lt {α : Type} {z : α} {F : List α} {k j : Nat} (h : j < k) : (half z F k)[j]? = some z := by
  unfold half
  rw [List.getElem?_append_left (by simpa using h), List.getElem?_replicate, if_pos h]
theorem half_set {α : Type} {z x : α} {F : List α} {i : Nat} (h : F[i]? = some x) : (half z F (i + 1)).set i x = half z F i := by
  have hl := (List.getElem?_eq_some_iff.1 h).1
  refine List.ext_getElem? fun j => ?_
  rw [List.getElem?_set]
  by_cases e : i = j
  · subst e
    rw [if_pos rfl, half_ge (Nat.le_refl _), h, if_pos (by rw [half_len (by omega)]; exact hl)]
  · rw [if_neg e]
    by_cases h2 : j < i
    · rw [half_lt (show j < i + 1 by omega), half_lt h2]
    · rw [half_ge (show i + 1 ≤ j by omega), half_ge (by omega)]
theorem half_0 {α : Type} (z : α) (F : List α) : half z F 0 = F := by simp [half]

def ctOk (p : Prices) (rs : List Ride) : Bool := prOk p && ridesOk rs
def dsOf (rs : List Ride) : List Int := (dayL rs).map (·.1)
def csOf (p : Prices) (rs : List Ride) : List Int := capL p.day (dayL rs)
def ctSum (p : Prices) (rs : List Ride) : Int := if ctOk p rs then (fAt p.week (dsOf rs) (csOf p rs) 0).1 else 0
def ctWks (p : Prices) (rs : List Ride) : List Int := if ctOk p rs then (fAt p.week (dsOf rs) (csOf p rs) 0).2 else []
theorem ct_okT {p : Prices} {rs : List Ride} (h : ctOk p rs = true) : OkT p.week (dsOf rs) (csOf p rs) := by
  unfold ctOk prOk at h
  simp only [Bool.and_eq_true] at h
  exact okT_of h.2 h.1.2 h.1.1.2
def sumsL (W : Int) (ds cs : List Int) : List Int := (full W ds cs).map (·.1)
theorem full_at {W : Int} {ds cs : List Int} {i : Nat} (h : i ≤ ds.length) : (full W ds cs)[i]? = some (fAt W ds cs i) := by
  have hl : i < (full W ds cs).length := by rw [full_len]; omega
  unfold fAt
  simp [List.getD_eq_getElem?_getD, hl]
theorem sumsL_at {W : Int} {ds cs : List Int} {i : Nat} (h : i ≤ ds.length) : (sumsL W ds cs)[i]? = some (fAt W ds cs i).1 := by
  unfold sumsL
  rw [List.getElem?_map, full_at h]; rfl
theorem sumsL_len {W : Int} {ds cs : List Int} : (sumsL W ds cs).length = ds.length + 1 := by unfold sumsL; rw [List.length_map, full_len]
theorem sums_0 {W : Int} {ds cs : List Int} : half 0 (sumsL W ds cs) ds.length = List.replicate (ds.length + 1) 0 := by
  unfold half
  have h := full_drop (W := W) (ds := ds) (cs := cs) (Nat.le_refl ds.length)
  have e : (sumsL W ds cs).drop ds.length = [0] := by
    unfold sumsL
    rw [← List.map_drop, h, Nat.sub_self]; rfl
  rw [e, List.replicate_succ']
theorem fAt_small {W : Int} {ds cs : List Int} (h : OkT W ds cs) {i : Nat} (hi : i ≤ ds.length) : 0 ≤ (fAt W ds cs i).1 ∧ (fAt W ds cs i).1 ≤ 200000 := by
  have g := good_at h hi
  have := h.few
  have h2 := g.le
  have h3 := g.ge
  omega

theorem c6 (p : Prices) (hpf : p.fit) (rs : List Ride) (hl : rs.length ≤ 1048576) :
    CallOk Try.prog 6 [.imm (.agg p.enc), .imm (.list (rs.map Ride.enc))] { res := [.imm (.int .i64 (ctSum p rs)), .imm (.list ((ctWks p rs).map intRow)), .imm (.bool (ctOk p rs))], sep := false } := by
  refine callOk_of tyOk Try.func6 rfl rfl (le_of_ble rfl) (le_of_ble rfl) (mutOk_imm rfl _) ?_
  have hc1 := c18 p hpf
  have hc2 := c19 rs hl
  cases hok : ctOk p rs with
  | false =>
    have e1 : ctSum p rs = 0 := by unfold ctSum; rw [hok]; rfl
    have e2 : ctWks p rs = [] := by unfold ctWks; rw [hok]; rfl
    rw [e1, e2]
    unfold ctOk at hok
    cases b1 : prOk p <;> cases b2 : ridesOk rs <;> rw [b1] at hc1 <;> rw [b2] at hc2 <;> rw [b1, b2] at hok <;> (try (exfalso; simp at hok; done))
    all_goals
      repeat' first | refine go_seq ?_ | refine go_region ?_ | refine go_miss rfl rfl rfl ?_ | refine go_undef rfl rfl rfl ?_ | refine go_draw drawsOk ?_ | ((first | refine go_op rfl ?_ | refine go_nil ?_ | refine go_hit rfl rfl rfl ?_ | refine go_splitT rfl rfl rfl (fun h => ?_) (fun h => ?_) | refine go_splitF rfl rfl rfl (fun h => ?_) (fun h => ?_) | refine go_storeBox rfl rfl rfl rfl rfl rfl ?_ | refine go_dop rfl ?_ | refine go_dhit rfl rfl ?_ | refine go_dmiss rfl rfl ?_ | refine go_dundef rfl rfl ?_ | refine go_dend (by kernel_rfl) ?_ | refine go_pickT rfl ?_ | refine go_pickF rfl ?_ | refine go_pick rfl (fun h => ?_) (fun h => ?_) | refine go_call [] (hc1) rfl rfl rfl rfl ?_ | refine go_call [] (hc2) rfl rfl rfl rfl ?_) <;> conv => whnf) | ((first | refine go_dsplit2 rfl (fun h => ?_) (fun h => ?_) | refine go_loadB ?_ | refine ⟨by kernel_rfl, ?_⟩ | refine go_ret ?_) <;> conv => whnf) | refine go_block ?_ | ((first | refine go_skip ?_ | refine go_exit ?_) <;> conv => whnf) | refine go_true rfl ?_ | refine go_false rfl ?_ | refine go_cond rfl (fun h => ?_) (fun h => ?_) | refine ⟨rfl, ?_⟩ | ((first | refine ⟨trivial, ?_⟩ | refine ⟨le_of_ble rfl, ?_⟩) <;> conv => whnf) | fail
    all_goals first
      | (refine ret_iob rfl rfl rfl rfl rfl rfl rfl rfl rfl rfl
         done)
      | (exfalso; simp_all; done)
      | trace_state
  | true =>
    have hT := ct_okT hok
    have e1 : ctSum p rs = (fAt p.week (dsOf rs) (csOf p rs) 0).1 := by unfold ctSum; rw [hok]; rfl
    have e2 : ctWks p rs = (fAt p.week (dsOf rs) (csOf p rs) 0).2 := by unfold ctWks; rw [hok]; rfl
    rw [e1, e2]
    unfold ctOk at hok
    simp only [Bool.and_eq_true] at hok
    obtain ⟨b1, b2⟩ := hok
    have hc3 : CallOk Try.prog 20 [.imm (.agg p.enc), .imm (.list (rs.map Ride.enc))] { res := [.arr 3 1 ((dsOf rs).map intRow), .arr 3 1 ((csOf p rs).map intRow)] } := c20 p rs b2
    rw [b1] at hc1
    rw [b2] at hc2
    have hlen := hT.len
    have hfew := hT.few
    generalize dsOf rs = ds at *
    generalize csOf p rs = cs at *
    have hdl : (ds.map intRow).length = ds.length := List.length_map _
    have hcl : (cs.map intRow).length = ds.length := by rw [List.length_map, hlen]
    have hdv := int_view ds
    have hcv := int_view cs
    have hmk : AV.imm (.int .i64 (IntKind.i64.wrap (((ds.map intRow).length : Int) + 1))) = .imm (.int .i64 ((ds.length + 1 : Nat) : Int)) := by
      rw [hdl, wrap_small (by omega) (by omega)]; rfl
    have hwn : IntKind.i64.wrap (((ds.map intRow).length : Int) - 1) = (ds.length : Int) - 1 := by rw [hdl]; exact wrap_small (by omega) (by omega)
    have hSl := sumsL_len (W := p.week) (ds := ds) (cs := cs)
    repeat' first | refine go_seq ?_ | refine go_region ?_ | refine go_miss rfl rfl rfl ?_ | refine go_undef rfl rfl rfl ?_ | refine go_draw drawsOk ?_ | ((first | refine go_op rfl ?_ | refine go_nil ?_ | refine go_hit rfl rfl rfl ?_ | refine go_splitT rfl rfl rfl (fun h => ?_) (fun h => ?_) | refine go_splitF rfl rfl rfl (fun h => ?_) (fun h => ?_) | refine go_storeBox rfl rfl rfl rfl rfl rfl ?_ | refine go_dop rfl ?_ | refine go_dhit rfl rfl ?_ | refine go_dmiss rfl rfl ?_ | refine go_dundef rfl rfl ?_ | refine go_dend (by kernel_rfl) ?_ | refine go_pickT rfl ?_ | refine go_pickF rfl ?_ | refine go_pick rfl (fun h => ?_) (fun h => ?_) | refine go_call [] (hc1) rfl rfl rfl rfl ?_ | refine go_call [] (hc2) rfl rfl rfl rfl ?_ | refine go_call [] (hc3) rfl rfl rfl rfl ?_ | refine go_makeN (i := ds.length + 1) rfl rfl hmk rfl rfl rfl rfl rfl rfl (by rw [hdl, wrap_small (by omega) (by omega)]; omega) (by rw [hdl, wrap_small (by omega) (by omega)]; omega) ?_) <;> conv => whnf) | ((first | refine go_dsplit2 rfl (fun h => ?_) (fun h => ?_) | refine go_loadB ?_ | refine ⟨by kernel_rfl, ?_⟩ | refine go_ret ?_) <;> conv => whnf) | refine go_block ?_ | ((first | refine go_skip ?_ | refine go_exit ?_) <;> conv => whnf) | refine go_true rfl ?_ | refine go_false rfl ?_ | refine go_cond rfl (fun h => ?_) (fun h => ?_) | refine ⟨rfl, ?_⟩ | ((first | refine ⟨trivial, ?_⟩ | refine ⟨le_of_ble rfl, ?_⟩) <;> conv => whnf) | fail
    all_goals try (exfalso; simp_all; done)
    refine go_loop (α := Nat) (fun k => k ≤ ds.length) (fun k => k)
      (fun k => st Try.f6.ntmps [(2, .box 1002 0), (7, .own 1003 0 0), (8, .own 1000 0 (ds.map intRow).length), (9, .own 1001 0 (cs.map intRow).length), (10, .imm (.int .i64 (ds.map intRow).length)), (11, .own 1004 0 (ds.length + 1)), (12, .imm (.int .i64 ((k : Nat) - 1 : Int)))]
        [(1000, .arr 3 1 (ds.map intRow)), (1001, .arr 3 1 (cs.map intRow)), (1002, .box 30 (p.enc.map .imm)), (1003, .arr 3 1 []), (1004, .arr 3 1 ((half 0 (sumsL p.week ds cs) k).map intRow))] []) ds.length (Nat.le_refl _)
      (ref_st (fun y => if y = 1000 then rid 4 27 0 else if y = 1001 then rid 4 27 1 else if y = 1002 then nid 1 2 else if y = 1003 then nid 2 14 else nid 6 34) rfl ⟨⟨rfl, rfl⟩, ⟨rfl, rfl⟩, ⟨rfl, rfl⟩, ⟨rfl, rfl⟩, rfl, ⟨rfl, rfl⟩, ?_, trivial⟩ ⟨rfl, rfl, ⟨rfl, wavs_imm _⟩, rfl, ?_, trivial⟩ (by simp [nid, rid]) rfl (by simp [lookM])) ?_
    · show AV.imm _ = AV.imm _
      rw [hwn]
    · show some _ = some _
      rw [sums_0, List.map_replicate]; rfl
    intro k hk
    cases k with
    | zero =>
      repeat' first | refine go_seq ?_ | refine go_region ?_ | refine go_miss rfl rfl rfl ?_ | refine go_undef rfl rfl rfl ?_ | refine go_draw drawsOk ?_ | ((first | refine go_op rfl ?_ | refine go_nil ?_ | refine go_hit rfl rfl rfl ?_ | refine go_splitT rfl rfl rfl (fun h => ?_) (fun h => ?_) | refine go_splitF rfl rfl rfl (fun h => ?_) (fun h => ?_) | refine go_storeBox rfl rfl rfl rfl rfl rfl ?_ | refine go_dop rfl ?_ | refine go_dhit rfl rfl ?_ | refine go_dmiss rfl rfl ?_ | refine go_dundef rfl rfl ?_ | refine go_dend (by kernel_rfl) ?_ | refine go_pickT rfl ?_ | refine go_pickF rfl ?_ | refine go_pick rfl (fun h => ?_) (fun h => ?_)) <;> conv => whnf) | ((first | refine go_dsplit2 rfl (fun h => ?_) (fun h => ?_) | refine go_loadB ?_ | refine ⟨by kernel_rfl, ?_⟩ | refine go_ret ?_) <;> conv => whnf) | refine go_block ?_ | ((first | refine go_skip ?_ | refine go_exit ?_) <;> conv => whnf) | refine go_true rfl ?_ | refine go_false rfl ?_ | refine go_cond rfl (fun h => ?_) (fun h => ?_) | refine ⟨rfl, ?_⟩ | ((first | refine ⟨trivial, ?_⟩ | refine ⟨le_of_ble rfl, ?_⟩) <;> conv => whnf) | fail
      all_goals try first
        | (exfalso; have h' := of_decide_eq_false h; omega)
        | (exfalso; have h' := of_decide_eq_true h; omega)
        | (exfalso; rename_i hq; have h' := of_decide_eq_true hq; omega)
        | (exfalso; rename_i hq; have h' := of_decide_eq_false hq; omega)
        | (exfalso; rename_i hq _; have h' := of_decide_eq_true hq; omega)
        | (exfalso; rename_i hq _; have h' := of_decide_eq_false hq; omega)
      have hS0 := half_0 (0 : Int) (sumsL p.week ds cs)
      refine go_loop (α := Nat × List Int) (fun q => q.1 ≤ ds.length ∧ q.2 ++ (fAt p.week ds cs q.1).2 = (fAt p.week ds cs 0).2) (fun q => ds.length - q.1)
        (fun q => st Try.f6.ntmps [(2, .box 1002 0), (7, .own 1003 0 q.2.length), (8, .own 1000 0 (ds.map intRow).length), (9, .own 1001 0 (cs.map intRow).length), (10, .imm (.int .i64 (ds.map intRow).length)), (11, .own 1004 0 (ds.length + 1)), (13, .imm (.int .i64 (q.1 : Nat)))]
          [(1000, .arr 3 1 (ds.map intRow)), (1001, .arr 3 1 (cs.map intRow)), (1002, .box 30 (p.enc.map .imm)), (1003, .arr 3 1 (q.2.map intRow)), (1004, .arr 3 1 ((sumsL p.week ds cs).map intRow))] []) (0, []) ⟨Nat.zero_le _, by simp⟩
        (ref_st id rfl ⟨⟨rfl, rfl⟩, ⟨rfl, rfl⟩, ⟨rfl, rfl⟩, ⟨rfl, rfl⟩, rfl, ⟨rfl, rfl⟩, rfl, trivial⟩ ⟨rfl, rfl, ⟨rfl, wavs_imm _⟩, rfl, ?_, trivial⟩ (by simp) rfl (by simp [lookM])) ?_
      · show some _ = some _
        rw [hS0]
      rintro ⟨i, w⟩ ⟨hi, hw⟩
      simp only at hi hw
      have hwl : w.length ≤ 20 := by
        have h1 := congrArg List.length hw
        rw [List.length_append] at h1
        have h2 := (good_at hT (i := 0) (by omega)).len
        omega
      have hwml : (w.map intRow).length = w.length := List.length_map _
      have hwv := int_view w
      rw [hwml] at hwv
      have h00 : ((sumsL p.week ds cs).map intRow)[0]? = some (intRow (fAt p.week ds cs 0).1) := by rw [List.getElem?_map, sumsL_at (by omega)]; rfl
      have h0l : 0 < ds.length + 1 := by omega
      have hfin : (fAt p.week ds cs i).2 = [] → w = (fAt p.week ds cs 0).2 := fun h => by rw [h, List.append_nil] at hw; exact hw
      by_cases hlt : i < ds.length
      case neg =>
        have hie : i = ds.length := by omega
        have hwe := hfin (by rw [hie, fAt_end]; rfl)
        repeat' first | refine go_seq ?_ | refine go_region ?_ | refine go_miss rfl rfl rfl ?_ | refine go_undef rfl rfl rfl ?_ | refine go_draw drawsOk ?_ | ((first | refine go_op rfl ?_ | refine go_nil ?_ | refine go_hit rfl rfl rfl ?_ | refine go_splitT rfl rfl rfl (fun h => ?_) (fun h => ?_) | refine go_splitF rfl rfl rfl (fun h => ?_) (fun h => ?_) | refine go_storeBox rfl rfl rfl rfl rfl rfl ?_ | refine go_dop rfl ?_ | refine go_dhit rfl rfl ?_ | refine go_dmiss rfl rfl ?_ | refine go_dundef rfl rfl ?_ | refine go_dend (by kernel_rfl) ?_ | refine go_pickT rfl ?_ | refine go_pickF rfl ?_ | refine go_pick rfl (fun h => ?_) (fun h => ?_) | refine go_idxOwnI (j := 0) rfl rfl rfl rfl rfl rfl rfl h0l ?_ | refine go_loadEl (i := 0) rfl rfl rfl h00 ?_) <;> conv => whnf) | ((first | refine go_dsplit2 rfl (fun h => ?_) (fun h => ?_) | refine go_loadB ?_ | refine ⟨by kernel_rfl, ?_⟩ | refine go_ret ?_) <;> conv => whnf) | refine go_block ?_ | ((first | refine go_skip ?_ | refine go_exit ?_) <;> conv => whnf) | refine go_true rfl ?_ | refine go_false rfl ?_ | refine go_cond rfl (fun h => ?_) (fun h => ?_) | refine ⟨rfl, ?_⟩ | ((first | refine ⟨trivial, ?_⟩ | refine ⟨le_of_ble rfl, ?_⟩) <;> conv => whnf) | fail
        all_goals first
          | (refine ret_iob rfl rfl rfl rfl rfl rfl rfl ?_ rfl rfl
             rw [← hwe]; exact hwv
             done)
          | (exfalso; have h' := of_decide_eq_false h; omega)
          | (exfalso; have h' := of_decide_eq_true h; omega)
          | (exfalso; rename_i hq; have h' := of_decide_eq_true hq; omega)
          | (exfalso; rename_i hq; have h' := of_decide_eq_false hq; omega)
          | (exfalso; rename_i hq _; have h' := of_decide_eq_true hq; omega)
          | (exfalso; rename_i hq _; have h' := of_decide_eq_false hq; omega)
          | trace_state
      case pos =>
        have hpl : CallOk Try.prog 23 [.imm (.list (((cs.map intRow).drop 0).take (cs.map intRow).length)), .imm (.list ((((sumsL p.week ds cs).map intRow).drop 0).take (ds.length + 1))), .imm (.int .i64 (i : Nat))] { res := [.imm (.bool (decide (pl cs i = (fAt p.week ds cs i).1)))] } := by
          have hv := int_view (sumsL p.week ds cs)
          rw [List.length_map, hSl] at hv
          rw [int_view, hv]
          exact c23 hT _ i hlt _ (sumsL_at (by omega))
        by_cases hp : pl cs i = (fAt p.week ds cs i).1
        case pos =>
          rw [decide_eq_true hp] at hpl
          have hwe := hfin (gr_stop hT hi hp)
          repeat' first | refine go_seq ?_ | refine go_region ?_ | refine go_miss rfl rfl rfl ?_ | refine go_undef rfl rfl rfl ?_ | refine go_draw drawsOk ?_ | ((first | refine go_op rfl ?_ | refine go_nil ?_ | refine go_hit rfl rfl rfl ?_ | refine go_splitT rfl rfl rfl (fun h => ?_) (fun h => ?_) | refine go_splitF rfl rfl rfl (fun h => ?_) (fun h => ?_) | refine go_storeBox rfl rfl rfl rfl rfl rfl ?_ | refine go_dop rfl ?_ | refine go_dhit rfl rfl ?_ | refine go_dmiss rfl rfl ?_ | refine go_dundef rfl rfl ?_ | refine go_dend (by kernel_rfl) ?_ | refine go_pickT rfl ?_ | refine go_pickF rfl ?_ | refine go_pick rfl (fun h => ?_) (fun h => ?_) | refine go_call [] (hpl) rfl rfl rfl rfl ?_ | refine go_idxOwnI (j := 0) rfl rfl rfl rfl rfl rfl rfl h0l ?_ | refine go_loadEl (i := 0) rfl rfl rfl h00 ?_) <;> conv => whnf) | ((first | refine go_dsplit2 rfl (fun h => ?_) (fun h => ?_) | refine go_loadB ?_ | refine ⟨by kernel_rfl, ?_⟩ | refine go_ret ?_) <;> conv => whnf) | refine go_block ?_ | ((first | refine go_skip ?_ | refine go_exit ?_) <;> conv => whnf) | refine go_true rfl ?_ | refine go_false rfl ?_ | refine go_cond rfl (fun h => ?_) (fun h => ?_) | refine ⟨rfl, ?_⟩ | ((first | refine ⟨trivial, ?_⟩ | refine ⟨le_of_ble rfl, ?_⟩) <;> conv => whnf) | fail
          all_goals first
            | (refine ret_iob rfl rfl rfl rfl rfl rfl rfl ?_ rfl rfl
               rw [← hwe]; exact hwv
               done)
            | (exfalso; have h' := of_decide_eq_false h; omega)
            | (exfalso; have h' := of_decide_eq_true h; omega)
            | (exfalso; rename_i hq; have h' := of_decide_eq_true hq; omega)
            | (exfalso; rename_i hq; have h' := of_decide_eq_false hq; omega)
            | (exfalso; rename_i hq _; have h' := of_decide_eq_true hq; omega)
            | (exfalso; rename_i hq _; have h' := of_decide_eq_false hq; omega)
            | trace_state
        case neg =>
          rw [decide_eq_false hp] at hpl
          have hnl := next_le (ds := ds) (i := i) (by omega)
          have hng := next_gt hlt
          have hnext : CallOk Try.prog 22 [.imm (.list (((ds.map intRow).drop 0).take (ds.map intRow).length)), .imm (.int .i64 (i : Nat))] { res := [.imm (.int .i64 (nextOf ds i : Nat))] } := by
            rw [int_view]
            exact c22 ds (by omega) i hlt hT.day
          have hrn : ((sumsL p.week ds cs).map intRow)[nextOf ds i]? = some (intRow (fAt p.week ds cs (nextOf ds i)).1) := by rw [List.getElem?_map, sumsL_at hnl]; rfl
          have hri : ((sumsL p.week ds cs).map intRow)[i]? = some (intRow (fAt p.week ds cs i).1) := by rw [List.getElem?_map, sumsL_at (by omega)]; rfl
          have hil : i < ds.length + 1 := by omega
          have hnl1 : nextOf ds i < ds.length + 1 := by omega
          have hsm := fAt_small hT hnl
          have hw0 := hT.w0
          have hw1 := hT.w1
          have hwv2 : IntKind.i64.wrap (p.week + (fAt p.week ds cs (nextOf ds i)).1) = p.week + (fAt p.week ds cs (nextOf ds i)).1 := wrap_small (by omega) (by omega)
          obtain ⟨d, hd⟩ : ∃ d, ds[i]? = some d := ⟨_, List.getElem?_eq_getElem hlt⟩
          have hrd := row_at intRow hd
          have hdd : ds.getD i 0 = d := by simp [List.getD_eq_getElem?_getD, hd]
          have hil2 : i < (ds.map intRow).length := by omega
          have hone := int_one [d]
          have hbd : w.length + 1 ≤ 1073741824 := by omega
          by_cases hwk : p.week + (fAt p.week ds cs (nextOf ds i)).1 = (fAt p.week ds cs i).1
          case pos =>
            have hg := gr_take hT hlt hp hwk
            rw [hdd] at hg
            have hdec : decide (IntKind.i64.wrap (p.week + (fAt p.week ds cs (nextOf ds i)).1) = (fAt p.week ds cs i).1) = true := by rw [hwv2]; exact decide_eq_true hwk
            repeat' first | refine go_seq ?_ | refine go_region ?_ | refine go_miss rfl rfl rfl ?_ | refine go_undef rfl rfl rfl ?_ | refine go_draw drawsOk ?_ | ((first | refine go_op rfl ?_ | refine go_nil ?_ | refine go_hit rfl rfl rfl ?_ | refine go_splitT rfl rfl rfl (fun h => ?_) (fun h => ?_) | refine go_splitF rfl rfl rfl (fun h => ?_) (fun h => ?_) | refine go_storeBox rfl rfl rfl rfl rfl rfl ?_ | refine go_dop rfl ?_ | refine go_dhit rfl rfl ?_ | refine go_dmiss rfl rfl ?_ | refine go_dundef rfl rfl ?_ | refine go_dend (by kernel_rfl) ?_ | refine go_pickT rfl ?_ | refine go_pickF rfl ?_ | refine go_pick rfl (fun h => ?_) (fun h => ?_) | refine go_call [] (hpl) rfl rfl rfl rfl ?_ | refine go_call [] (hnext) rfl rfl rfl rfl ?_ | refine go_idxOwn rfl rfl rfl rfl rfl rfl hil ?_ | refine go_idxOwn rfl rfl rfl rfl rfl rfl hnl1 ?_ | refine go_idxOwn rfl rfl rfl rfl rfl rfl hil2 ?_ | refine go_loadEl (i := i) rfl rfl rfl hri ?_ | refine go_loadEl (i := nextOf ds i) rfl rfl rfl hrn ?_ | refine go_loadEl (i := i) rfl rfl rfl hrd ?_ | refine go_append (rows2 := [d].map intRow) rfl rfl rfl rfl rfl rfl rfl rfl rfl rfl rfl rfl hone rfl hwml.symm rfl hbd ?_) <;> conv => whnf) | ((first | refine go_dsplit2 rfl (fun h => ?_) (fun h => ?_) | refine go_loadB ?_ | refine ⟨by kernel_rfl, ?_⟩ | refine go_ret ?_) <;> conv => whnf) | refine go_block ?_ | ((first | refine go_skip ?_ | refine go_exit ?_) <;> conv => whnf) | refine go_true rfl ?_ | refine go_false rfl ?_ | refine go_cond rfl (fun h => ?_) (fun h => ?_) | refine ⟨rfl, ?_⟩ | ((first | refine ⟨trivial, ?_⟩ | refine ⟨le_of_ble rfl, ?_⟩) <;> conv => whnf) | fail
            all_goals first
              | (refine go_next (nextOf ds i, w ++ [d]) ⟨hnl, by rw [← hw, hg]; simp⟩ (by show ds.length - nextOf ds i < ds.length - i; omega) (ref_st (fun y => if y = 1003 then nid 5 91 else y) rfl ⟨⟨rfl, rfl⟩, ⟨?_, rfl⟩, ⟨rfl, rfl⟩, ⟨rfl, rfl⟩, rfl, ⟨rfl, rfl⟩, rfl, trivial⟩ ⟨rfl, rfl, ⟨rfl, wavs_imm _⟩, ?_, rfl, trivial⟩ (by simp [nid]) rfl (by simp [lookM]))
                 · show AV.own _ _ _ = AV.own _ _ _
                   rw [List.length_append]; rfl
                 · show some _ = some _
                   rw [List.map_append]; rfl
                 done)
              | (exfalso; rw [hdec] at h; cases h; done)
              | (exfalso; have h' := of_decide_eq_false h; omega)
              | (exfalso; have h' := of_decide_eq_true h; omega)
              | (exfalso; rename_i hq; have h' := of_decide_eq_true hq; omega)
              | (exfalso; rename_i hq; have h' := of_decide_eq_false hq; omega)
              | (exfalso; rename_i hq _; have h' := of_decide_eq_true hq; omega)
              | (exfalso; rename_i hq _; have h' := of_decide_eq_false hq; omega)
              | trace_state
          case neg =>
            have hg := gr_next hT hlt hwk
            have hdec : decide (IntKind.i64.wrap (p.week + (fAt p.week ds cs (nextOf ds i)).1) = (fAt p.week ds cs i).1) = false := by rw [hwv2]; exact decide_eq_false hwk
            repeat' first | refine go_seq ?_ | refine go_region ?_ | refine go_miss rfl rfl rfl ?_ | refine go_undef rfl rfl rfl ?_ | refine go_draw drawsOk ?_ | ((first | refine go_op rfl ?_ | refine go_nil ?_ | refine go_hit rfl rfl rfl ?_ | refine go_splitT rfl rfl rfl (fun h => ?_) (fun h => ?_) | refine go_splitF rfl rfl rfl (fun h => ?_) (fun h => ?_) | refine go_storeBox rfl rfl rfl rfl rfl rfl ?_ | refine go_dop rfl ?_ | refine go_dhit rfl rfl ?_ | refine go_dmiss rfl rfl ?_ | refine go_dundef rfl rfl ?_ | refine go_dend (by kernel_rfl) ?_ | refine go_pickT rfl ?_ | refine go_pickF rfl ?_ | refine go_pick rfl (fun h => ?_) (fun h => ?_) | refine go_call [] (hpl) rfl rfl rfl rfl ?_ | refine go_call [] (hnext) rfl rfl rfl rfl ?_ | refine go_idxOwn rfl rfl rfl rfl rfl rfl hil ?_ | refine go_idxOwn rfl rfl rfl rfl rfl rfl hnl1 ?_ | refine go_loadEl (i := i) rfl rfl rfl hri ?_ | refine go_loadEl (i := nextOf ds i) rfl rfl rfl hrn ?_) <;> conv => whnf) | ((first | refine go_dsplit2 rfl (fun h => ?_) (fun h => ?_) | refine go_loadB ?_ | refine ⟨by kernel_rfl, ?_⟩ | refine go_ret ?_) <;> conv => whnf) | refine go_block ?_ | ((first | refine go_skip ?_ | refine go_exit ?_) <;> conv => whnf) | refine go_true rfl ?_ | refine go_false rfl ?_ | refine go_cond rfl (fun h => ?_) (fun h => ?_) | refine ⟨rfl, ?_⟩ | ((first | refine ⟨trivial, ?_⟩ | refine ⟨le_of_ble rfl, ?_⟩) <;> conv => whnf) | fail
            all_goals first
              | (refine go_next (i + 1, w) ⟨hlt, by rw [← hg]; exact hw⟩ (by show ds.length - (i + 1) < ds.length - i; omega) (ref_st id rfl ⟨⟨rfl, rfl⟩, ⟨rfl, rfl⟩, ⟨rfl, rfl⟩, ⟨rfl, rfl⟩, rfl, ⟨rfl, rfl⟩, next_i (i := i) (by omega), trivial⟩ ⟨rfl, rfl, ⟨rfl, wavs_imm _⟩, rfl, rfl, trivial⟩ (by simp) rfl (by simp [lookM]))
                 done)
              | (exfalso; rw [hdec] at h; cases h; done)
              | (exfalso; have h' := of_decide_eq_false h; omega)
              | (exfalso; have h' := of_decide_eq_true h; omega)
              | (exfalso; rename_i hq; have h' := of_decide_eq_true hq; omega)
              | (exfalso; rename_i hq; have h' := of_decide_eq_false hq; omega)
              | (exfalso; rename_i hq _; have h' := of_decide_eq_true hq; omega)
              | (exfalso; rename_i hq _; have h' := of_decide_eq_false hq; omega)
              | trace_state
    | succ i =>
      have hlt : i < ds.length := hk
      have e12 : ((i + 1 : Nat) : Int) - 1 = (i : Nat) := by omega
      have e13 : IntKind.i64.wrap (((i + 1 : Nat) : Int) - 1 + 1) = ((i + 1 : Nat) : Int) := by rw [wrap_small (by omega) (by omega)]; omega
      have e14 : IntKind.i64.wrap (((i + 1 : Nat) : Int) - 1 - 1) = (i : Nat) - 1 := by rw [wrap_small (by omega) (by omega)]; omega
      have hnl := next_le (ds := ds) (i := i) (by omega)
      have hng := next_gt hlt
      have hnext : CallOk Try.prog 22 [.imm (.list (((ds.map intRow).drop 0).take (ds.map intRow).length)), .imm (.int .i64 (((i + 1 : Nat) : Int) - 1))] { res := [.imm (.int .i64 (nextOf ds i : Nat))] } := by
        rw [int_view, e12]
        exact c22 ds (by omega) i hlt hT.day
      obtain ⟨c, hc⟩ : ∃ c, cs[i]? = some c := ⟨_, List.getElem?_eq_getElem (by omega)⟩
      have hcc : cs.getD i 0 = c := by simp [List.getD_eq_getElem?_getD, hc]
      have hcb := hT.cost i
      rw [hcc] at hcb
      have hs1 := fAt_small hT (i := i + 1) hlt
      have hs2 := fAt_small hT hnl
      have hw0 := hT.w0
      have hw1 := hT.w1
      have hwa : IntKind.i64.wrap (c + (fAt p.week ds cs (i + 1)).1) = c + (fAt p.week ds cs (i + 1)).1 := wrap_small (by omega) (by omega)
      have hwb : IntKind.i64.wrap (p.week + (fAt p.week ds cs (nextOf ds i)).1) = p.week + (fAt p.week ds cs (nextOf ds i)).1 := wrap_small (by omega) (by omega)
      have hrc : (cs.map intRow)[i]? = some (intRow c) := by rw [List.getElem?_map, hc]; rfl
      have hr0 : ((half 0 (sumsL p.week ds cs) (i + 1)).map intRow)[i]? = some (intRow 0) := by rw [List.getElem?_map, half_lt (by omega)]; rfl
      have hr1 : ((half 0 (sumsL p.week ds cs) (i + 1)).map intRow)[i + 1]? = some (intRow (fAt p.week ds cs (i + 1)).1) := by rw [List.getElem?_map, half_ge (Nat.le_refl _), sumsL_at hlt]; rfl
      have hrn : ((half 0 (sumsL p.week ds cs) (i + 1)).map intRow)[nextOf ds i]? = some (intRow (fAt p.week ds cs (nextOf ds i)).1) := by rw [List.getElem?_map, half_ge hng, sumsL_at hnl]; rfl
      have hleast := c21 (IntKind.i64.wrap (c + (fAt p.week ds cs (i + 1)).1)) (IntKind.i64.wrap (p.week + (fAt p.week ds cs (nextOf ds i)).1))
      have hset : ((half 0 (sumsL p.week ds cs) (i + 1)).map intRow).set i [.int .i64 (if IntKind.i64.wrap (c + (fAt p.week ds cs (i + 1)).1) < IntKind.i64.wrap (p.week + (fAt p.week ds cs (nextOf ds i)).1) then IntKind.i64.wrap (c + (fAt p.week ds cs (i + 1)).1) else IntKind.i64.wrap (p.week + (fAt p.week ds cs (nextOf ds i)).1))] = (half 0 (sumsL p.week ds cs) i).map intRow := by
        have hf := fAt_fst (W := p.week) (cs := cs) hlt
        rw [hcc] at hf
        rw [hwa, hwb, ← hf, ← half_set (sumsL_at (W := p.week) (cs := cs) (show i ≤ ds.length by omega)), List.map_set]
        rfl
      have hil : i < ds.length + 1 := by omega
      have hil1 : i + 1 < ds.length + 1 := by omega
      have hnl1 : nextOf ds i < ds.length + 1 := by omega
      have hilc : i < (cs.map intRow).length := by omega
      repeat' first | refine go_seq ?_ | refine go_region ?_ | refine go_miss rfl rfl rfl ?_ | refine go_undef rfl rfl rfl ?_ | refine go_draw drawsOk ?_ | ((first | refine go_op rfl ?_ | refine go_nil ?_ | refine go_hit rfl rfl rfl ?_ | refine go_splitT rfl rfl rfl (fun h => ?_) (fun h => ?_) | refine go_splitF rfl rfl rfl (fun h => ?_) (fun h => ?_) | refine go_storeBox rfl rfl rfl rfl rfl rfl ?_ | refine go_dop rfl ?_ | refine go_dhit rfl rfl ?_ | refine go_dmiss rfl rfl ?_ | refine go_dundef rfl rfl ?_ | refine go_dend (by kernel_rfl) ?_ | refine go_pickT rfl ?_ | refine go_pickF rfl ?_ | refine go_pick rfl (fun h => ?_) (fun h => ?_) | refine go_call [] (hnext) rfl rfl rfl rfl ?_ | refine go_call [] (hleast) rfl rfl rfl rfl ?_ | refine go_idxOwnI (j := i) rfl rfl e12 rfl rfl rfl rfl hil ?_ | refine go_idxOwnI (j := i) rfl rfl e12 rfl rfl rfl rfl hilc ?_ | refine go_idxOwnI (j := i + 1) rfl rfl e13 rfl rfl rfl rfl hil1 ?_ | refine go_idxOwn rfl rfl rfl rfl rfl rfl hnl1 ?_ | refine go_loadEl (i := i) rfl rfl rfl hrc ?_ | refine go_loadEl (i := i + 1) rfl rfl rfl hr1 ?_ | refine go_loadEl (i := nextOf ds i) rfl rfl rfl hrn ?_ | refine go_storeRow rfl rfl rfl rfl hr0 rfl rfl hset ?_) <;> conv => whnf) | ((first | refine go_dsplit2 rfl (fun h => ?_) (fun h => ?_) | refine go_loadB ?_ | refine ⟨by kernel_rfl, ?_⟩ | refine go_ret ?_) <;> conv => whnf) | refine go_block ?_ | ((first | refine go_skip ?_ | refine go_exit ?_) <;> conv => whnf) | refine go_true rfl ?_ | refine go_false rfl ?_ | refine go_cond rfl (fun h => ?_) (fun h => ?_) | refine ⟨rfl, ?_⟩ | ((first | refine ⟨trivial, ?_⟩ | refine ⟨le_of_ble rfl, ?_⟩) <;> conv => whnf) | fail
      all_goals first
        | (refine go_next i (by omega) (by omega) (ref_st id rfl ⟨⟨rfl, rfl⟩, ⟨rfl, rfl⟩, ⟨rfl, rfl⟩, ⟨rfl, rfl⟩, rfl, ⟨rfl, rfl⟩, ?_, trivial⟩ ⟨rfl, rfl, ⟨rfl, wavs_imm _⟩, rfl, rfl, trivial⟩ (by simp) rfl (by simp [lookM]))
           show AV.imm _ = AV.imm _
           rw [e14]
           done)
        | (exfalso; have h' := of_decide_eq_false h; omega)
        | (exfalso; have h' := of_decide_eq_true h; omega)
        | (exfalso; rename_i hq; have h' := of_decide_eq_true hq; omega)
        | (exfalso; rename_i hq; have h' := of_decide_eq_false hq; omega)
        | (exfalso; rename_i hq _; have h' := of_decide_eq_true hq; omega)
        | (exfalso; rename_i hq _; have h' := of_decide_eq_false hq; omega)
        | trace_state
end Go.Proofs.Ytbegjabnkgennaa

