/- The walks of the last reports of all vehicles. -/
import Derived.Test.YtmbaalkeogckbaaGreatQ0
import Derived.Test.YtmbaalkeogckbaaGreatR1
import Derived.Test.YtmbaalkeogckbaaGreatAmV
namespace Go.Proofs.YtmbaalkeogckbaaGreat
open Go Go.Am
set_option maxRecDepth 100000
set_option maxHeartbeats 4000000
attribute [local irreducible] amOps amC opCall opIndexAddr opPick retQ opMake opStore amDraw opAppend opLoad opNilCmp opIndex opSlice

def lastR (rs : List Report) (v : Int) : Option Report := rs.reverse.find? (fun r => decide (r.vehicle = v))
def rep0 : Report := ⟨0, 0, 0, 0⟩
def vehOk (rs : List Report) : Prop := ∀ r ∈ rs, 1 ≤ r.vehicle ∧ r.vehicle ≤ 99
theorem lastR_snoc (rs : List Report) (r : Report) (v : Int) : lastR (rs ++ [r]) v = if r.vehicle = v then some r else lastR rs v := by
  unfold lastR
  rw [List.reverse_append, List.reverse_singleton, List.singleton_append, List.find?_cons]
  by_cases h : r.vehicle = v <;> simp [h]
theorem lastR_take {rs : List Report} {i : Nat} {r : Report} (h : rs[i]? = some r) (v : Int) : lastR (rs.take (i + 1)) v = if r.vehicle = v then some r else lastR (rs.take i) v := by
  rw [List.take_add_one, h]
  exact lastR_snoc _ _ _
theorem lastR_some {rs : List Report} {v : Int} {r : Report} (h : lastR rs v = some r) : r ∈ rs ∧ r.vehicle = v := by
  unfold lastR at h
  refine ⟨List.mem_reverse.1 (List.mem_of_find?_eq_some h), ?_⟩
  have := List.find?_some h
  simpa using this
theorem lastR_none {rs : List Report} {v : Int} (h : lastR rs v = none) : ∀ r ∈ rs, r.vehicle ≠ v := by
  intro r hr
  unfold lastR at h
  have := List.find?_eq_none.1 h r (List.mem_reverse.2 hr)
  simpa using this
theorem lastR_zero {rs : List Report} (h : vehOk rs) : lastR rs 0 = none := by
  cases hl : lastR rs 0 with
  | none => rfl
  | some r =>
    obtain ⟨h1, h2⟩ := lastR_some hl
    have := h r h1
    omega
def lasts (n : Nat) (rs : List Report) : List Report := (List.range n).filterMap (fun v : Nat => lastR rs (v : Int))
theorem lasts_next (n : Nat) (rs : List Report) : lasts (n + 1) rs = lasts n rs ++ (match lastR rs (n : Int) with | some r => [r] | none => []) := by
  unfold lasts
  rw [List.range_succ, List.filterMap_append]
  congr 1
  cases h : lastR rs (n : Int) <;> simp [h]
theorem lasts_len (n : Nat) (rs : List Report) : (lasts n rs).length ≤ n := by
  unfold lasts
  exact Nat.le_trans (List.length_filterMap_le _ _) (by simp)
theorem lasts_one {rs : List Report} (h : vehOk rs) : lasts 1 rs = [] := by
  rw [lasts_next, show ((0 : Nat) : Int) = 0 from rfl, lastR_zero h]
  rfl

def rowsL (rs : List Report) : List (List D) := (List.range 100).map (fun v : Nat => ((lastR rs (v : Int)).getD rep0).enc)
theorem rowsL_len (rs : List Report) : (rowsL rs).length = 100 := by simp [rowsL]
theorem rowsL_sz (rs : List Report) : ∀ r ∈ rowsL rs, r.length = 4 := by
  intro r hr
  obtain ⟨v, _, rfl⟩ := List.mem_map.1 hr
  rfl
theorem rowsL_flat (rs : List Report) : (rowsL rs).flatten.length = 400 := by rw [flat_len (rowsL rs) (rowsL_sz rs), rowsL_len]
theorem rowsL_at (rs : List Report) {i : Nat} (h : i < 100) : (rowsL rs)[i]? = some ((lastR rs (i : Int)).getD rep0).enc := by simp [rowsL, h]
theorem rowsL_set (rs : List Report) (r : Report) {j : Nat} (hj : r.vehicle = (j : Int)) (_ : j < 100) : (rowsL rs).set j r.enc = rowsL (rs ++ [r]) := by
  refine List.ext_getElem? fun k => ?_
  rw [List.getElem?_set]
  by_cases hk : k < 100
  · rw [rowsL_at _ hk, rowsL_at _ hk, lastR_snoc, rowsL_len]
    by_cases e : j = k
    · subst e
      simp [hj, hk]
    · have : ¬ r.vehicle = (k : Int) := by omega
      rw [if_neg e, if_neg this]
  · rw [List.getElem?_eq_none (by rw [rowsL_len]; omega), List.getElem?_eq_none (by rw [rowsL_len]; omega)]
    split
    · rw [rowsL_len, if_neg (by omega)]
    · rfl

theorem c63 (rs : List Report) (hv : vehOk rs) (hl : rs.length ≤ 1048576) : CallOk Tryz.prog 63 [.imm (.list (rs.map Report.enc))] { res := [.imm (.list ((lasts 100 rs).map Report.enc))] } := by
  refine callOk_of tyOk Tryz.func63 rfl rfl (le_of_ble rfl) (le_of_ble rfl) (mutOk_imm rfl _) ?_
  have hrl : (rs.map Report.enc).length = rs.length := List.length_map _
  repeat' first | refine go_seq ?_ | refine go_region ?_ | ((first | refine go_op rfl ?_ | refine go_nil ?_ | refine go_storeBox rfl rfl rfl rfl rfl rfl ?_) <;> conv => whnf) | ((first | refine go_loadB ?_ | refine ⟨by kernel_rfl, ?_⟩ | refine go_ret ?_) <;> conv => whnf) | refine go_block ?_ | ((first | refine go_skip ?_ | refine go_exit ?_) <;> conv => whnf) | refine go_true rfl ?_ | refine go_false rfl ?_ | refine go_cond rfl (fun h => ?_) (fun h => ?_) | refine ⟨rfl, ?_⟩ | ((first | refine ⟨trivial, ?_⟩ | refine ⟨le_of_ble rfl, ?_⟩) <;> conv => whnf) | fail
  refine go_loop (α := Nat) (fun i => i ≤ rs.length) (fun i => rs.length - i)
    (fun i => st Tryz.f63.ntmps [(3, .box 1000 0), (9, .imm (.list (rs.map Report.enc))), (10, .imm (.int .i64 (rs.map Report.enc).length)), (11, .imm (.int .i64 (i : Nat)))]
      [(1000, .box 130 ((rowsL (rs.take i)).flatten.map .imm))] []) 0 (Nat.zero_le _) ?_ ?_
  · exact ref_st (fun _ => nid 2 3) rfl ⟨⟨rfl, rfl⟩, rfl, rfl, rfl, trivial⟩ ⟨⟨rfl, wavs_imm _⟩, trivial⟩ (by simp) rfl (by simp)
  intro i hi
  cases hx : rs[i]? with
  | none =>
    have hge := le_of_at hx
    rw [List.take_of_length_le hge]
    have hfl := rowsL_flat rs
    repeat' first | refine go_seq ?_ | refine go_region ?_ | ((first | refine go_op rfl ?_ | refine go_nil ?_ | refine go_storeBox rfl rfl rfl rfl rfl rfl ?_ | refine go_loadArr rfl rfl rfl rfl hfl.symm ?_) <;> conv => whnf) | ((first | refine go_loadB ?_ | refine ⟨by kernel_rfl, ?_⟩ | refine go_ret ?_) <;> conv => whnf) | refine go_block ?_ | ((first | refine go_skip ?_ | refine go_exit ?_) <;> conv => whnf) | refine go_true rfl ?_ | refine go_false rfl ?_ | refine go_cond rfl (fun h => ?_) (fun h => ?_) | refine ⟨rfl, ?_⟩ | ((first | refine ⟨trivial, ?_⟩ | refine ⟨le_of_ble rfl, ?_⟩) <;> conv => whnf) | fail
    all_goals try first
      | (exfalso; have h' := of_decide_eq_false h; omega)
      | (exfalso; have h' := of_decide_eq_true h; omega)
      | (exfalso; rename_i hq; have h' := of_decide_eq_true hq; omega)
      | (exfalso; rename_i hq; have h' := of_decide_eq_false hq; omega)
      | (exfalso; rename_i hq _; have h' := of_decide_eq_true hq; omega)
      | (exfalso; rename_i hq _; have h' := of_decide_eq_false hq; omega)
    refine go_loop (α := Nat) (fun v => v ≤ 100) (fun v => 100 - v)
      (fun v => st Tryz.f63.ntmps [(6, .own 1001 0 ((lasts v rs).map Report.enc).length), (20, .imm (.agg (rowsL rs).flatten)), (21, .imm (.int .i64 (v : Nat)))]
        [(1001, .arr 88 4 ((lasts v rs).map Report.enc))] []) 0 (Nat.zero_le _) ?_ ?_
    · exact ref_st (fun _ => nid 3 6) rfl ⟨⟨rfl, rfl⟩, rfl, rfl, trivial⟩ ⟨rfl, trivial⟩ (by simp) rfl (by simp)
    intro v hv100
    have hln := lasts_len v rs
    have hnx := lasts_next v rs
    by_cases hlt : v < 100
    · have hd := row_flat (rowsL_sz rs) (rowsL_at rs hlt)
      have hbd : v * 4 + 4 ≤ (rowsL rs).flatten.length := by omega
      have hb : ((lasts v rs).map Report.enc).length + 1 ≤ 1073741824 := by rw [List.length_map]; omega
      cases hy : lastR rs (v : Int) with
      | none =>
        rw [hy] at hnx hd
        change _ = _ ++ [] at hnx
        change _ = rep0.enc at hd
        repeat' first | refine go_seq ?_ | refine go_region ?_ | ((first | refine go_op rfl ?_ | refine go_nil ?_ | refine go_storeBox rfl rfl rfl rfl rfl rfl ?_ | refine go_idxArrA rfl rfl rfl rfl (by omega) (by omega) rfl hbd hd ?_) <;> conv => whnf) | ((first | refine go_loadB ?_ | refine ⟨by kernel_rfl, ?_⟩ | refine go_ret ?_) <;> conv => whnf) | refine go_block ?_ | ((first | refine go_skip ?_ | refine go_exit ?_) <;> conv => whnf) | refine go_true rfl ?_ | refine go_false rfl ?_ | refine go_cond rfl (fun h => ?_) (fun h => ?_) | refine ⟨rfl, ?_⟩ | ((first | refine ⟨trivial, ?_⟩ | refine ⟨le_of_ble rfl, ?_⟩) <;> conv => whnf) | fail
        all_goals first
          | (refine go_next (v + 1) (by omega) (by omega) (ref_st id rfl ⟨⟨?_, rfl⟩, rfl, next_i (by omega), trivial⟩ ⟨?_, trivial⟩ (by simp) rfl (by simp))
             · show AV.own _ _ _ = AV.own _ _ _
               rw [hnx, List.append_nil]; try rfl
             · show some _ = some _
               rw [hnx, List.append_nil]; try rfl
             done)
          | (exfalso; have h' := of_decide_eq_false h; omega)
          | (exfalso; have h' := of_decide_eq_true h; omega)
          | (exfalso; rename_i hq; have h' := of_decide_eq_true hq; omega)
          | (exfalso; rename_i hq; have h' := of_decide_eq_false hq; omega)
          | (exfalso; rename_i hq _; have h' := of_decide_eq_true hq; omega)
          | (exfalso; rename_i hq _; have h' := of_decide_eq_false hq; omega)
          | (exfalso; simp [rep0] at h; done)
          | trace_state
      | some y =>
        rw [hy] at hnx hd
        change _ = _ ++ [y] at hnx
        change _ = y.enc at hd
        obtain ⟨hm, hyv⟩ := lastR_some hy
        have hyk := hv y hm
        have hone := report_one [y]
        repeat' first | refine go_seq ?_ | refine go_region ?_ | ((first | refine go_op rfl ?_ | refine go_nil ?_ | refine go_storeBox rfl rfl rfl rfl rfl rfl ?_ | refine go_idxArrA rfl rfl rfl rfl (by omega) (by omega) rfl hbd hd ?_ | refine go_append (rows2 := [y].map Report.enc) rfl rfl rfl rfl rfl rfl rfl rfl rfl rfl rfl rfl hone rfl rfl rfl hb ?_) <;> conv => whnf) | ((first | refine go_loadB ?_ | refine ⟨by kernel_rfl, ?_⟩ | refine go_ret ?_) <;> conv => whnf) | refine go_block ?_ | ((first | refine go_skip ?_ | refine go_exit ?_) <;> conv => whnf) | refine go_true rfl ?_ | refine go_false rfl ?_ | refine go_cond rfl (fun h => ?_) (fun h => ?_) | refine ⟨rfl, ?_⟩ | ((first | refine ⟨trivial, ?_⟩ | refine ⟨le_of_ble rfl, ?_⟩) <;> conv => whnf) | fail
        all_goals first
          | (refine go_next (v + 1) (by omega) (by omega) (ref_st (fun _ => nid 5 30) rfl ⟨⟨?_, rfl⟩, rfl, next_i (by omega), trivial⟩ ⟨?_, trivial⟩ (by simp) rfl (by simp))
             · show AV.own _ _ _ = AV.own _ _ _
               rw [hnx, List.map_append, List.length_append]; try rfl
             · show some _ = some _
               rw [hnx, List.map_append]; try rfl
             done)
          | (exfalso; have h' := of_decide_eq_false h; omega)
          | (exfalso; have h' := of_decide_eq_true h; omega)
          | (exfalso; rename_i hq; have h' := of_decide_eq_true hq; omega)
          | (exfalso; rename_i hq; have h' := of_decide_eq_false hq; omega)
          | (exfalso; rename_i hq _; have h' := of_decide_eq_true hq; omega)
          | (exfalso; rename_i hq _; have h' := of_decide_eq_false hq; omega)
          | trace_state
    · have e : v = 100 := by omega
      subst e
      repeat' first | refine go_seq ?_ | refine go_region ?_ | ((first | refine go_op rfl ?_ | refine go_nil ?_ | refine go_storeBox rfl rfl rfl rfl rfl rfl ?_) <;> conv => whnf) | ((first | refine go_loadB ?_ | refine ⟨by kernel_rfl, ?_⟩ | refine go_ret ?_) <;> conv => whnf) | refine go_block ?_ | ((first | refine go_skip ?_ | refine go_exit ?_) <;> conv => whnf) | refine go_true rfl ?_ | refine go_false rfl ?_ | refine go_cond rfl (fun h => ?_) (fun h => ?_) | refine ⟨rfl, ?_⟩ | ((first | refine ⟨trivial, ?_⟩ | refine ⟨le_of_ble rfl, ?_⟩) <;> conv => whnf) | fail
      all_goals first
        | exact ret_own rfl rfl rfl rfl rfl (by rw [List.drop_zero, List.take_length]) (report_gr _)
        | (exfalso; have h' := of_decide_eq_false h; omega)
        | (exfalso; have h' := of_decide_eq_true h; omega)
        | (exfalso; rename_i hq; have h' := of_decide_eq_true hq; omega)
        | (exfalso; rename_i hq; have h' := of_decide_eq_false hq; omega)
        | (exfalso; rename_i hq _; have h' := of_decide_eq_true hq; omega)
        | (exfalso; rename_i hq _; have h' := of_decide_eq_false hq; omega)
        | trace_state
  | some r =>
    have hlt := lt_of_at hx
    have hr := row_at Report.enc hx
    have hvr := hv r (List.mem_of_getElem? hx)
    obtain ⟨j, hj⟩ : ∃ j : Nat, r.vehicle = (j : Int) := ⟨r.vehicle.toNat, by omega⟩
    have hj1 : j < 100 := by omega
    have hset : setAt ((rowsL (rs.take i)).flatten.map AV.imm) (0 + j * 4) (r.enc.map AV.imm) = ((rowsL (rs.take (i + 1))).flatten).map AV.imm := by
      rw [Nat.zero_add, setAt_cells (rowsL_sz _) (by rw [rowsL_len]; omega) rfl, rowsL_set _ r hj hj1, List.take_add_one, hx]
      rfl
    have hcl : 0 + j * 4 + 4 ≤ ((rowsL (rs.take i)).flatten.map AV.imm).length := by rw [List.length_map, rowsL_flat]; omega
    repeat' first | refine go_seq ?_ | refine go_region ?_ | ((first | refine go_op rfl ?_ | refine go_nil ?_ | refine go_storeBox rfl rfl rfl rfl rfl rfl ?_ | refine go_idx rfl rfl rfl rfl (by omega) hr rfl ?_ | refine go_idxBoxI rfl rfl hj rfl rfl rfl hj1 ?_ | refine go_storeBoxI rfl rfl rfl rfl rfl hcl hset ?_) <;> conv => whnf) | ((first | refine go_loadB ?_ | refine ⟨by kernel_rfl, ?_⟩ | refine go_ret ?_) <;> conv => whnf) | refine go_block ?_ | ((first | refine go_skip ?_ | refine go_exit ?_) <;> conv => whnf) | refine go_true rfl ?_ | refine go_false rfl ?_ | refine go_cond rfl (fun h => ?_) (fun h => ?_) | refine ⟨rfl, ?_⟩ | ((first | refine ⟨trivial, ?_⟩ | refine ⟨le_of_ble rfl, ?_⟩) <;> conv => whnf) | fail
    all_goals first
      | exact go_next (i + 1) (by omega) (by omega) (ref_st id rfl ⟨⟨rfl, rfl⟩, rfl, rfl, next_i (by omega), trivial⟩ ⟨⟨rfl, wavs_imm _⟩, trivial⟩ (by simp) rfl (by simp))
      | (exfalso; have h' := of_decide_eq_false h; omega)
      | (exfalso; have h' := of_decide_eq_true h; omega)
      | (exfalso; rename_i hq; have h' := of_decide_eq_true hq; omega)
      | (exfalso; rename_i hq; have h' := of_decide_eq_false hq; omega)
      | (exfalso; rename_i hq _; have h' := of_decide_eq_true hq; omega)
      | (exfalso; rename_i hq _; have h' := of_decide_eq_false hq; omega)
      | trace_state

theorem c83 (rs : List Report) (hv : vehOk rs) (hl : rs.length ≤ 1048576) : CallOk Tryz.prog 83 [.imm (.list (rs.map Report.enc))] { res := [.imm (.list ((lasts 100 rs).map Report.enc))] } := by
  refine callOk_of tyOk Tryz.func83 rfl rfl (le_of_ble rfl) (le_of_ble rfl) (mutOk_imm rfl _) ?_
  have hrl : (rs.map Report.enc).length = rs.length := List.length_map _
  repeat' first | refine go_seq ?_ | refine go_region ?_ | ((first | refine go_op rfl ?_ | refine go_nil ?_) <;> conv => whnf) | ((first | refine go_loadB ?_ | refine ⟨by kernel_rfl, ?_⟩ | refine go_ret ?_) <;> conv => whnf) | refine go_block ?_ | ((first | refine go_skip ?_ | refine go_exit ?_) <;> conv => whnf) | refine go_true rfl ?_ | refine go_false rfl ?_ | refine go_cond rfl (fun h => ?_) (fun h => ?_) | refine ⟨rfl, ?_⟩ | ((first | refine ⟨trivial, ?_⟩ | refine ⟨le_of_ble rfl, ?_⟩) <;> conv => whnf) | fail
  refine go_loop (α := Nat) (fun v => 1 ≤ v ∧ v ≤ 100) (fun v => 100 - v)
    (fun v => st Tryz.f83.ntmps [(0, .imm (.list (rs.map Report.enc))), (3, .own 1001 0 ((lasts v rs).map Report.enc).length), (4, .imm (.int .i64 (v : Nat)))]
      [(1001, .arr 88 4 ((lasts v rs).map Report.enc))] []) 1 ⟨Nat.le_refl _, by omega⟩ ?_ ?_
  · have h1 := lasts_one hv
    refine ref_st (fun _ => nid 2 6) rfl ⟨rfl, ⟨?_, rfl⟩, rfl, trivial⟩ ⟨?_, trivial⟩ (by simp) rfl (by simp)
    · show AV.own _ _ _ = AV.own _ _ _
      rw [h1]; rfl
    · show some _ = some _
      rw [h1]; rfl
  rintro v ⟨hv1, hv100⟩
  have hln := lasts_len v rs
  have hnx := lasts_next v rs
  by_cases hlt : v < 100
  · have e0 : IntKind.i64.wrap (((rs.map Report.enc).length : Int) - 1) = ((rs.length : Nat) : Int) - 1 := by rw [hrl, wrap_small (by omega) (by omega)]
    have hb : ((lasts v rs).map Report.enc).length + 1 ≤ 1073741824 := by rw [List.length_map]; omega
    repeat' first | refine go_seq ?_ | refine go_region ?_ | ((first | refine go_op rfl ?_ | refine go_nil ?_) <;> conv => whnf) | ((first | refine go_loadB ?_ | refine ⟨by kernel_rfl, ?_⟩ | refine go_ret ?_) <;> conv => whnf) | refine go_block ?_ | ((first | refine go_skip ?_ | refine go_exit ?_) <;> conv => whnf) | refine go_true rfl ?_ | refine go_false rfl ?_ | refine go_cond rfl (fun h => ?_) (fun h => ?_) | refine ⟨rfl, ?_⟩ | ((first | refine ⟨trivial, ?_⟩ | refine ⟨le_of_ble rfl, ?_⟩) <;> conv => whnf) | fail
    all_goals try first
      | (exfalso; have h' := of_decide_eq_false h; omega)
      | (exfalso; have h' := of_decide_eq_true h; omega)
      | (exfalso; rename_i hq; have h' := of_decide_eq_true hq; omega)
      | (exfalso; rename_i hq; have h' := of_decide_eq_false hq; omega)
      | (exfalso; rename_i hq _; have h' := of_decide_eq_true hq; omega)
      | (exfalso; rename_i hq _; have h' := of_decide_eq_false hq; omega)
    refine go_loop (α := Nat) (fun k => k ≤ rs.length ∧ lastR rs (v : Int) = lastR (rs.take k) (v : Int)) (fun k => k)
      (fun k => st Tryz.f83.ntmps [(0, .imm (.list (rs.map Report.enc))), (3, .own 1001 0 ((lasts v rs).map Report.enc).length), (4, .imm (.int .i64 (v : Nat))), (5, .imm (.int .i64 ((k : Int) - 1)))]
        [(1001, .arr 88 4 ((lasts v rs).map Report.enc))] []) rs.length ⟨Nat.le_refl _, by rw [List.take_length]⟩ ?_ ?_
    · refine ref_st id rfl ⟨rfl, ⟨rfl, rfl⟩, rfl, ?_, trivial⟩ ⟨rfl, trivial⟩ (by simp) rfl (by simp)
      show AV.imm (.int .i64 _) = AV.imm (.int .i64 _)
      rw [← e0]
    rintro k ⟨hk, hlk⟩
    match k, hk, hlk with
    | 0, hk, hlk =>
      have hno : lastR rs (v : Int) = none := hlk
      rw [hno] at hnx
      change _ = _ ++ [] at hnx
      repeat' first | refine go_seq ?_ | refine go_region ?_ | ((first | refine go_op rfl ?_ | refine go_nil ?_) <;> conv => whnf) | ((first | refine go_loadB ?_ | refine ⟨by kernel_rfl, ?_⟩ | refine go_ret ?_) <;> conv => whnf) | refine go_block ?_ | ((first | refine go_skip ?_ | refine go_exit ?_) <;> conv => whnf) | refine go_true rfl ?_ | refine go_false rfl ?_ | refine go_cond rfl (fun h => ?_) (fun h => ?_) | refine ⟨rfl, ?_⟩ | ((first | refine ⟨trivial, ?_⟩ | refine ⟨le_of_ble rfl, ?_⟩) <;> conv => whnf) | fail
      all_goals first
        | (refine go_next (v + 1) (by omega) (by omega) (ref_st id rfl ⟨rfl, ⟨?_, rfl⟩, next_i (by omega), trivial⟩ ⟨?_, trivial⟩ (by simp) rfl (by simp))
           · show AV.own _ _ _ = AV.own _ _ _
             rw [hnx, List.append_nil]; try rfl
           · show some _ = some _
             rw [hnx, List.append_nil]; try rfl
           done)
        | (exfalso; have h' := of_decide_eq_false h; omega)
        | (exfalso; have h' := of_decide_eq_true h; omega)
        | (exfalso; rename_i hq; have h' := of_decide_eq_true hq; omega)
        | (exfalso; rename_i hq; have h' := of_decide_eq_false hq; omega)
        | (exfalso; rename_i hq _; have h' := of_decide_eq_true hq; omega)
        | (exfalso; rename_i hq _; have h' := of_decide_eq_false hq; omega)
        | trace_state
    | k + 1, hk, hlk =>
      obtain ⟨y, hy⟩ : ∃ y, rs[k]? = some y := ⟨_, List.getElem?_eq_getElem (by omega)⟩
      have ek : ((k + 1 : Nat) : Int) - 1 = (k : Nat) := by omega
      rw [ek]
      have hr := row_at Report.enc hy
      rw [lastR_take hy] at hlk
      have hone := report_one [y]
      have hk1 : IntKind.i64.wrap ((k : Int) - 1) = (k : Int) - 1 := wrap_small (by omega) (by omega)
      by_cases hyv : y.vehicle = (v : Int)
      · rw [if_pos hyv] at hlk
        rw [hlk] at hnx
        change _ = _ ++ [y] at hnx
        repeat' first | refine go_seq ?_ | refine go_region ?_ | ((first | refine go_op rfl ?_ | refine go_nil ?_ | refine go_idx rfl rfl rfl rfl (by omega) hr rfl ?_ | refine go_append (rows2 := [y].map Report.enc) rfl rfl rfl rfl rfl rfl rfl rfl rfl rfl rfl rfl hone rfl rfl rfl hb ?_) <;> conv => whnf) | ((first | refine go_loadB ?_ | refine ⟨by kernel_rfl, ?_⟩ | refine go_ret ?_) <;> conv => whnf) | refine go_block ?_ | ((first | refine go_skip ?_ | refine go_exit ?_) <;> conv => whnf) | refine go_true rfl ?_ | refine go_false rfl ?_ | refine go_cond rfl (fun h => ?_) (fun h => ?_) | refine ⟨rfl, ?_⟩ | ((first | refine ⟨trivial, ?_⟩ | refine ⟨le_of_ble rfl, ?_⟩) <;> conv => whnf) | fail
        all_goals first
          | (refine go_next (v + 1) (by omega) (by omega) (ref_st (fun _ => nid 4 31) rfl ⟨rfl, ⟨?_, rfl⟩, next_i (by omega), trivial⟩ ⟨?_, trivial⟩ (by simp) rfl (by simp))
             · show AV.own _ _ _ = AV.own _ _ _
               rw [hnx, List.map_append, List.length_append]; try rfl
             · show some _ = some _
               rw [hnx, List.map_append]; try rfl
             done)
          | (exfalso; have h' := of_decide_eq_false h; omega)
          | (exfalso; have h' := of_decide_eq_true h; omega)
          | (exfalso; rename_i hq; have h' := of_decide_eq_true hq; omega)
          | (exfalso; rename_i hq; have h' := of_decide_eq_false hq; omega)
          | (exfalso; rename_i hq _; have h' := of_decide_eq_true hq; omega)
          | (exfalso; rename_i hq _; have h' := of_decide_eq_false hq; omega)
          | trace_state
      · rw [if_neg hyv] at hlk
        repeat' first | refine go_seq ?_ | refine go_region ?_ | ((first | refine go_op rfl ?_ | refine go_nil ?_ | refine go_idx rfl rfl rfl rfl (by omega) hr rfl ?_) <;> conv => whnf) | ((first | refine go_loadB ?_ | refine ⟨by kernel_rfl, ?_⟩ | refine go_ret ?_) <;> conv => whnf) | refine go_block ?_ | ((first | refine go_skip ?_ | refine go_exit ?_) <;> conv => whnf) | refine go_true rfl ?_ | refine go_false rfl ?_ | refine go_cond rfl (fun h => ?_) (fun h => ?_) | refine ⟨rfl, ?_⟩ | ((first | refine ⟨trivial, ?_⟩ | refine ⟨le_of_ble rfl, ?_⟩) <;> conv => whnf) | fail
        all_goals first
          | (refine go_next k ⟨by omega, hlk⟩ (by omega) (ref_st id rfl ⟨rfl, ⟨rfl, rfl⟩, rfl, ?_, trivial⟩ ⟨rfl, trivial⟩ (by simp) rfl (by simp))
             show AV.imm (.int .i64 _) = AV.imm (.int .i64 _)
             rw [hk1]
             done)
          | (exfalso; have h' := of_decide_eq_false h; omega)
          | (exfalso; have h' := of_decide_eq_true h; omega)
          | (exfalso; rename_i hq; have h' := of_decide_eq_true hq; omega)
          | (exfalso; rename_i hq; have h' := of_decide_eq_false hq; omega)
          | (exfalso; rename_i hq _; have h' := of_decide_eq_true hq; omega)
          | (exfalso; rename_i hq _; have h' := of_decide_eq_false hq; omega)
          | trace_state
  · have e : v = 100 := by omega
    subst e
    repeat' first | refine go_seq ?_ | refine go_region ?_ | ((first | refine go_op rfl ?_ | refine go_nil ?_) <;> conv => whnf) | ((first | refine go_loadB ?_ | refine ⟨by kernel_rfl, ?_⟩ | refine go_ret ?_) <;> conv => whnf) | refine go_block ?_ | ((first | refine go_skip ?_ | refine go_exit ?_) <;> conv => whnf) | refine go_true rfl ?_ | refine go_false rfl ?_ | refine go_cond rfl (fun h => ?_) (fun h => ?_) | refine ⟨rfl, ?_⟩ | ((first | refine ⟨trivial, ?_⟩ | refine ⟨le_of_ble rfl, ?_⟩) <;> conv => whnf) | fail
    all_goals first
      | exact ret_own rfl rfl rfl rfl rfl (by rw [List.drop_zero, List.take_length]) (report_gr _)
      | (exfalso; have h' := of_decide_eq_false h; omega)
      | (exfalso; have h' := of_decide_eq_true h; omega)
      | (exfalso; rename_i hq; have h' := of_decide_eq_true hq; omega)
      | (exfalso; rename_i hq; have h' := of_decide_eq_false hq; omega)
      | (exfalso; rename_i hq _; have h' := of_decide_eq_true hq; omega)
      | (exfalso; rename_i hq _; have h' := of_decide_eq_false hq; omega)
      | trace_state
end Go.Proofs.YtmbaalkeogckbaaGreat

