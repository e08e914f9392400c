/- Depots: lists that are copied, turned round, compared; what stands behind a vehicle. -/
import Derived.Test.YtkjigbbbobijnaaE2
import Derived.Test.YtkjigbbbobijnaaAmS
namespace Go.Am
open Go
/-- A result that is an array given up, and data. -/
theorem ret_own2 {T : TypeId → Option TI} {fn : Func} {ins : List In} {r1 r2 : ResultVar} {id off len ty sz : Nat} {rows rows' : List (List D)} {d d' : D} {sp : Bool} {σ : S} (hr : fn.results.toList = [r1, r2]) (hm : mutIdx ins = []) (hp : σ.pm = []) (hv : retAV T σ r1 = .own id off len)
    (hmm : σ.m id = some (.arr ty sz rows')) (hd : (rows'.drop off).take len = rows) (hg : ∀ x ∈ rows, x.all D.gr = true) (hv2 : retAV T σ r2 = .imm d') (hd2 : d' = d) (hg2 : d.gr' = true) :
    retQ T fn ins { res := [.imm (.list rows), .imm d], sep := sp } .ret σ := by
  refine ret_all (avs := [.own id off len, .imm d']) (by rw [hr]; simp only [List.map_cons, List.map_nil, hv, hv2]) ⟨ret1_own' hmm hd hg (by rw [hp]; simp), ret1_imm hd2 hg2, trivial⟩ (by simp [ownIds]) (by rw [hp]; exact List.nodup_nil) (by rw [hm, hp]; trivial)
end Go.Am
namespace Go.Proofs.Ytkjigbbbobijnaa
open Go Go.Am
set_option maxRecDepth 100000
set_option maxHeartbeats 8000000
attribute [local irreducible] amOps amC opCall opIndexAddr opPick retQ opMake opStore amDraw opAppend opLoad opNilCmp opIndex opSlice

theorem ints_one (xs : List Int) : ∀ r ∈ xs.map intRow, r.length = 1 ∧ r.all D.one = true := by
  intro r hr
  obtain ⟨_, _, rfl⟩ := List.mem_map.1 hr
  exact ⟨rfl, rfl⟩
theorem o34 (xs : List Int) (hl : xs.length ≤ 1048576) : CallOk Try.prog 34 [.imm (.list (xs.map intRow))] { res := [.arr 3 1 (xs.map intRow)] } := by
  refine callOk_of tyOk Try.func34 rfl rfl (le_of_ble rfl) (le_of_ble rfl) (mutOk_imm rfl _) ?_
  have hbd : (List.replicate 0 (ty3.zero)).length + (xs.map intRow).length ≤ 1073741824 := by simp; omega
  repeat' first | refine go_seq ?_ | refine go_region ?_ | ((first | refine go_op rfl ?_ | refine go_nil ?_ | refine go_nilImm rfl rfl (fun b hb => ?_) | refine go_appImm rfl rfl rfl rfl rfl rfl rfl rfl rfl (ints_one _) rfl rfl hbd ?_) <;> conv => whnf) | ((first | refine ⟨by kernel_rfl, ?_⟩ | refine go_ret ?_) <;> conv => whnf) | ((first | refine go_skip ?_) <;> conv => whnf) | refine go_true rfl ?_ | refine go_false rfl ?_ | refine go_cond rfl (fun h => ?_) (fun h => ?_) | refine ⟨rfl, ?_⟩ | ((first | refine ⟨trivial, ?_⟩ | refine ⟨le_of_ble rfl, ?_⟩) <;> conv => whnf) | fail
  · have hnil : xs.map intRow = [] := by
      by_cases e : xs.map intRow = []
      · exact e
      · rw [hb e] at h; cases h
    exact ret_arr rfl rfl rfl rfl rfl (by rw [hnil]; rfl) (int_gr _)
  · exact ret_arr rfl rfl rfl rfl rfl (by simp only [List.replicate_zero, List.nil_append, Nat.zero_add, List.drop_zero, List.take_length]) (int_gr _)
theorem o42 (xs : List Int) (hl : xs.length ≤ 1048576) : CallOk Try.prog 42 [.imm (.list (xs.map intRow))] { res := [.arr 3 1 (xs.map intRow)] } := by
  refine callOk_of tyOk Try.func42 rfl rfl (le_of_ble rfl) (le_of_ble rfl) (mutOk_imm rfl _) ?_
  have hbd : (List.replicate 0 (ty3.zero)).length + (xs.map intRow).length ≤ 1073741824 := by simp; omega
  repeat' first | refine go_seq ?_ | refine go_region ?_ | ((first | refine go_op rfl ?_ | refine go_nil ?_ | refine go_appImm rfl rfl rfl rfl rfl rfl rfl rfl rfl (ints_one _) rfl rfl hbd ?_) <;> conv => whnf) | ((first | refine ⟨by kernel_rfl, ?_⟩ | refine go_ret ?_) <;> conv => whnf) | ((first | refine go_skip ?_) <;> conv => whnf) | refine ⟨rfl, ?_⟩ | ((first | refine ⟨trivial, ?_⟩ | refine ⟨le_of_ble rfl, ?_⟩) <;> conv => whnf) | fail
  all_goals first
    | exact ret_arr rfl rfl rfl rfl rfl (by simp only [List.replicate_zero, List.nil_append, Nat.zero_add, List.drop_zero, List.take_length]) (int_gr _)
    | trace_state

/-- A list half turned round. -/
def revH (xs : List Int) (i : Nat) : List Int := (List.range xs.length).map fun p => if p < i ∨ xs.length - i ≤ p then xs.getD (xs.length - 1 - p) 0 else xs.getD p 0
theorem revH_len (xs : List Int) (i : Nat) : (revH xs i).length = xs.length := by simp [revH]
theorem revH_at {xs : List Int} {i p : Nat} (hp : p < xs.length) : (revH xs i)[p]? = some (if p < i ∨ xs.length - i ≤ p then xs.getD (xs.length - 1 - p) 0 else xs.getD p 0) := by simp [revH, hp]
theorem revH_0 (xs : List Int) : revH xs 0 = xs := by
  refine List.ext_getElem? fun p => ?_
  by_cases hp : p < xs.length
  · rw [revH_at hp, if_neg (by omega), List.getD_eq_getElem?_getD, List.getElem?_eq_getElem hp]; rfl
  · rw [List.getElem?_eq_none (by rw [revH_len]; omega), List.getElem?_eq_none (by omega)]
theorem revH_end {xs : List Int} {i : Nat} (h : xs.length ≤ 2 * i + 1) : revH xs i = xs.reverse := by
  refine List.ext_getElem? fun p => ?_
  by_cases hp : p < xs.length
  · have hq : xs.length - 1 - p < xs.length := by omega
    rw [revH_at hp, List.getElem?_reverse hp]
    split
    · rw [List.getD_eq_getElem?_getD, List.getElem?_eq_getElem hq]; rfl
    · have e : xs.length - 1 - p = p := by omega
      rw [e, List.getD_eq_getElem?_getD, List.getElem?_eq_getElem hp]; rfl
  · rw [List.getElem?_eq_none (by rw [revH_len]; omega), List.getElem?_eq_none (by simp; omega)]
theorem revH_set {xs : List Int} {i : Nat} (h : 2 * i + 1 < xs.length) : ((revH xs i).set i (xs.getD (xs.length - 1 - i) 0)).set (xs.length - 1 - i) (xs.getD i 0) = revH xs (i + 1) := by
  refine List.ext_getElem? fun p => ?_
  rw [List.getElem?_set, List.getElem?_set, List.length_set, revH_len]
  by_cases hp : p < xs.length
  · rw [revH_at hp, revH_at hp]
    by_cases e1 : xs.length - 1 - i = p
    · rw [if_pos e1, if_pos (by omega), if_pos (by omega)]
      congr 2; omega
    · rw [if_neg e1]
      by_cases e2 : i = p
      · rw [if_pos e2, if_pos (by omega), if_pos (by omega)]
        congr 2; omega
      · rw [if_neg e2]
        by_cases e3 : p < i ∨ xs.length - i ≤ p
        · rw [if_pos e3, if_pos (by omega)]
        · rw [if_neg e3, if_neg (by omega)]
  · rw [if_neg (by omega), if_neg (by omega), List.getElem?_eq_none (by rw [revH_len]; omega), List.getElem?_eq_none (by rw [revH_len]; omega)]

theorem c40 (xs : List Int) (hl : xs.length ≤ 1048576) : CallOk Try.prog 40 [.arr 3 1 (xs.map intRow)] { res := [], muts := [.arr 3 1 (xs.reverse.map intRow)] } := by
  refine callOk_of tyOk Try.func40 rfl rfl (le_of_ble rfl) (le_of_ble rfl) (mutOk_arr0 rfl (by simp)) ?_
  have hw0 : AV.imm (.int .i64 (IntKind.i64.wrap (((xs.map intRow).length : Int) - 1))) = .imm (.int .i64 ((xs.length : Int) - 1 - (0 : Nat))) := by
    rw [List.length_map, wrap_small (by omega) (by omega)]; congr 2; omega
  repeat' first | refine go_seq ?_ | refine go_region ?_ | refine go_draw drawsOk ?_ | ((first | refine go_op rfl ?_ | refine go_nil ?_ | refine go_storeBox rfl rfl rfl rfl rfl rfl ?_ | refine go_dop rfl ?_ | refine go_dend (by kernel_rfl) ?_) <;> conv => whnf) | ((first | refine go_loadB ?_ | refine ⟨by kernel_rfl, ?_⟩ | refine go_ret ?_) <;> conv => whnf) | refine go_block ?_ | ((first | refine go_skip ?_ | refine go_exit ?_) <;> conv => whnf) | refine go_true rfl ?_ | refine go_false rfl ?_ | refine go_cond rfl (fun h => ?_) (fun h => ?_) | refine ⟨rfl, ?_⟩ | ((first | refine ⟨trivial, ?_⟩ | refine ⟨le_of_ble rfl, ?_⟩) <;> conv => whnf) | fail
  refine go_loop (α := Nat) (fun i => 2 * i ≤ xs.length + 1) (fun i => xs.length + 1 - i)
    (fun i => st Try.f40.ntmps [(0, .own 1000 0 (xs.map intRow).length), (2, .imm (.int .i64 (i : Nat))), (3, .imm (.int .i64 ((xs.length : Int) - 1 - (i : Nat))))]
      [(1000, .arr 3 1 ((revH xs i).map intRow))] [1000]) 0 (by omega) ?_ ?_
  · refine ref_st (fun _ => 0) rfl ⟨⟨rfl, rfl⟩, rfl, hw0, trivial⟩ ⟨?_, trivial⟩ (by simp) rfl (by simp [lookM])
    rw [revH_0]; rfl
  intro i hi
  by_cases hgo : 2 * i + 1 < xs.length
  · have e1 : IntKind.i64.wrap (((i : Nat) : Int) + 1) = ((i + 1 : Nat) : Int) := by rw [wrap_small (by omega) (by omega)]; omega
    have e2 : AV.imm (.int .i64 (IntKind.i64.wrap ((xs.length : Int) - 1 - (i : Nat) - 1))) = .imm (.int .i64 ((xs.length : Int) - 1 - ((i + 1 : Nat) : Int))) := by rw [wrap_small (by omega) (by omega)]; congr 2; omega
    have hj : (xs.length : Int) - 1 - (i : Nat) = ((xs.length - 1 - i : Nat) : Int) := by omega
    have hil : i < (xs.map intRow).length := by rw [List.length_map]; omega
    have hjl : xs.length - 1 - i < (xs.map intRow).length := by rw [List.length_map]; omega
    have ai : ((revH xs i).map intRow)[i]? = some (intRow (xs.getD i 0)) := by rw [List.getElem?_map, revH_at (by omega), if_neg (by omega)]; rfl
    have aj : ((revH xs i).map intRow)[xs.length - 1 - i]? = some (intRow (xs.getD (xs.length - 1 - i) 0)) := by rw [List.getElem?_map, revH_at (by omega), if_neg (by omega)]; rfl
    have s1 : ((revH xs i).map intRow).set i (setAt (intRow (xs.getD i 0)) 0 [.int .i64 (xs.getD (xs.length - 1 - i) 0)]) = ((revH xs i).set i (xs.getD (xs.length - 1 - i) 0)).map intRow := by rw [List.map_set]; rfl
    have aj2 : (((revH xs i).set i (xs.getD (xs.length - 1 - i) 0)).map intRow)[xs.length - 1 - i]? = some (intRow (xs.getD (xs.length - 1 - i) 0)) := by rw [List.getElem?_map, List.getElem?_set, if_neg (by omega), revH_at (by omega), if_neg (by omega)]; rfl
    have s2 : (((revH xs i).set i (xs.getD (xs.length - 1 - i) 0)).map intRow).set (xs.length - 1 - i) (setAt (intRow (xs.getD (xs.length - 1 - i) 0)) 0 [.int .i64 (xs.getD i 0)]) = (revH xs (i + 1)).map intRow := by rw [← revH_set hgo, List.map_set (i := xs.length - 1 - i)]; rfl
    have hcond : decide (((i : Nat) : Int) < (xs.length : Int) - 1 - (i : Nat)) = true := by simp; omega
    repeat' first | refine go_seq ?_ | refine go_region ?_ | refine go_draw drawsOk ?_ | ((first | refine go_op rfl ?_ | refine go_nil ?_ | refine go_storeBox rfl rfl rfl rfl rfl rfl ?_ | refine go_dop rfl ?_ | refine go_dend (by kernel_rfl) ?_ | refine go_idxOwn rfl rfl rfl rfl rfl rfl hil ?_ | refine go_idxOwnI (j := xs.length - 1 - i) rfl rfl hj rfl rfl rfl rfl hjl ?_ | refine go_loadEl rfl rfl rfl aj ?_ | refine go_loadEl rfl rfl rfl ai ?_ | refine go_storeEl rfl rfl rfl rfl ai rfl rfl s1 ?_ | refine go_storeEl rfl rfl rfl rfl aj2 rfl rfl s2 ?_) <;> conv => whnf) | ((first | refine go_loadB ?_ | refine ⟨by kernel_rfl, ?_⟩ | refine go_ret ?_) <;> conv => whnf) | refine go_block ?_ | ((first | refine go_skip ?_ | refine go_exit ?_) <;> conv => whnf) | refine go_true rfl ?_ | refine go_false rfl ?_ | refine go_cond rfl (fun h => ?_) (fun h => ?_) | refine ⟨rfl, ?_⟩ | ((first | refine ⟨trivial, ?_⟩ | refine ⟨le_of_ble rfl, ?_⟩) <;> conv => whnf) | fail
    all_goals first
      | exact go_next (i + 1) (by omega) (by omega) (ref_st id rfl ⟨⟨rfl, rfl⟩, next_i (by omega), e2, trivial⟩ ⟨rfl, trivial⟩ (by simp) rfl (by simp [lookM]))
      | (exfalso; rw [hcond] at h; cases h)
      | trace_state
  · have hcond : decide (((i : Nat) : Int) < (xs.length : Int) - 1 - (i : Nat)) = false := by simp; omega
    rw [← revH_end (xs := xs) (i := i) (by omega)]
    repeat' first | refine go_seq ?_ | refine go_region ?_ | refine go_draw drawsOk ?_ | ((first | refine go_op rfl ?_ | refine go_nil ?_ | refine go_storeBox rfl rfl rfl rfl rfl rfl ?_ | refine go_dop rfl ?_ | refine go_dend (by kernel_rfl) ?_) <;> conv => whnf) | ((first | refine go_loadB ?_ | refine ⟨by kernel_rfl, ?_⟩ | refine go_ret ?_) <;> conv => whnf) | refine go_block ?_ | ((first | refine go_skip ?_ | refine go_exit ?_) <;> conv => whnf) | refine go_true rfl ?_ | refine go_false rfl ?_ | refine go_cond rfl (fun h => ?_) (fun h => ?_) | refine ⟨rfl, ?_⟩ | ((first | refine ⟨trivial, ?_⟩ | refine ⟨le_of_ble rfl, ?_⟩) <;> conv => whnf) | fail
    all_goals first
      | exact ret_mutU rfl rfl rfl rfl (int_gr _)
      | (exfalso; rw [hcond] at h; cases h)
      | trace_state

/-- What a valid depot tells of the vehicles behind one. -/
def bkT (d : Depot) (v : Int) : Bool := depOk d && (plc d.tracks v).isSome
def bkL (d : Depot) (v : Int) : List Int := if depOk d then blkL d v else []

theorem blkL_some {d : Depot} {v : Int} {i k : Nat} (h : plc d.tracks v = some (i, k)) : blkL d v = ((trk d.tracks i).drop (k + 1)).reverse := by unfold blkL; rw [h]
theorem blkL_none {d : Depot} {v : Int} (h : plc d.tracks v = none) : blkL d v = [] := by unfold blkL; rw [h]
theorem c28 (d : Depot) (hf : d.fit) (v : Int) : CallOk Try.prog 28 [.imm (.agg d.enc), .imm (.int .i64 v)] { res := [.imm (.list ((blkL d v).map intRow)), .imm (.int .i64 (plI (plc d.tracks v)))] } := by
  refine callOk_of tyOk Try.func28 rfl rfl (le_of_ble rfl) (le_of_ble rfl) (mutOk_imm rfl _) ?_
  obtain ⟨_, f2, f3⟩ := hf
  have hP := c36 d.tracks f2 f3 v
  cases hp : plc d.tracks v with
  | none =>
    rw [hp] at hP
    rw [blkL_none hp]
    repeat' first | refine go_seq ?_ | refine go_region ?_ | ((first | refine go_op rfl ?_ | refine go_nil ?_ | refine go_call [] (hP) rfl rfl rfl rfl ?_) <;> conv => whnf) | ((first | refine go_loadB ?_ | refine ⟨by kernel_rfl, ?_⟩ | refine go_ret ?_) <;> conv => whnf) | ((first | refine go_skip ?_) <;> conv => whnf) | refine go_true rfl ?_ | refine go_false rfl ?_ | refine go_cond rfl (fun h => ?_) (fun h => ?_) | refine ⟨rfl, ?_⟩ | ((first | refine ⟨trivial, ?_⟩ | refine ⟨le_of_ble rfl, ?_⟩) <;> conv => whnf) | fail
    all_goals first
      | exact ret_own2 rfl rfl rfl rfl rfl rfl (by intro x hx; cases hx) rfl rfl rfl
      | (exfalso; simp [plI] at h; done)
      | trace_state
  | some x =>
    obtain ⟨i, k⟩ := x
    rw [hp] at hP
    rw [blkL_some hp]
    have hP : CallOk Try.prog 36 [.imm (.list (d.tracks.map intsRow)), .imm (.int .i64 v)] { res := [.imm (.int .i64 ((i : Nat) : Int)), .imm (.int .i64 ((k : Nat) : Int))] } := hP
    obtain ⟨_, h2, _, h4⟩ := plcF_some hp
    rw [Nat.sub_zero] at h2 h4
    have ht := trk_at h2
    have htf := f3 _ (List.mem_of_getElem? ht)
    generalize trk d.tracks i = tr at *
    have hr := ints_row ht
    have hsz : ∀ r ∈ tr.map intRow, r.length = ty3.size := fun r hr => by obtain ⟨_, _, rfl⟩ := List.mem_map.1 hr; rfl
    have hk : AV.imm (.int .i64 (IntKind.i64.wrap (((k : Nat) : Int) + 1))) = .imm (.int .i64 ((k + 1 : Nat) : Int)) := by rw [wrap_small (by omega) (by omega)]; congr 2
    have hk1 : k + 1 ≤ (tr.map intRow).length := by rw [List.length_map]; omega
    have hC : CallOk Try.prog 34 [.imm (.list ((tr.map intRow).drop (k + 1)))] { res := [.arr 3 1 ((tr.drop (k + 1)).map intRow)] } := by
      rw [← List.map_drop]; exact o34 _ (by rw [List.length_drop]; omega)
    have hR := c40 (tr.drop (k + 1)) (by rw [List.length_drop]; omega)
    repeat' first | refine go_seq ?_ | refine go_region ?_ | ((first | refine go_op rfl ?_ | refine go_nil ?_ | refine go_call [] (hP) rfl rfl rfl rfl ?_ | refine go_call [] (hC) rfl rfl rfl rfl ?_ | refine go_call [2] hR (argsIn_lent rfl rfl rfl) rfl rfl rfl ?_ | refine go_idx rfl rfl rfl rfl (by omega) hr rfl ?_ | refine go_sliceFromI (k := k + 1) rfl rfl rfl hsz hk hk1 ?_) <;> conv => whnf) | ((first | refine go_loadB ?_ | refine ⟨by kernel_rfl, ?_⟩ | refine go_ret ?_) <;> conv => whnf) | ((first | refine go_skip ?_) <;> conv => whnf) | refine go_true rfl ?_ | refine go_false rfl ?_ | refine go_cond rfl (fun h => ?_) (fun h => ?_) | refine ⟨rfl, ?_⟩ | ((first | refine ⟨trivial, ?_⟩ | refine ⟨le_of_ble rfl, ?_⟩) <;> conv => whnf) | fail
    all_goals first
      | exact ret_own2 rfl rfl rfl rfl rfl (by rw [List.drop_zero, List.take_of_length_le (by simp)]) (int_gr _) rfl rfl rfl
      | (exfalso; simp [plI] at h; omega)
      | trace_state

theorem c11 (d : Depot) (hf : d.fit) (v : Int) : CallOk Try.prog 11 [.imm (.agg d.enc), .imm (.int .i64 v)] { res := [.imm (.list ((bkL d v).map intRow)), .imm (.bool (bkT d v))], sep := false } := by
  refine callOk_of tyOk Try.func11 rfl rfl (le_of_ble rfl) (le_of_ble rfl) (mutOk_imm rfl _) ?_
  have hV := c12 d hf
  have hB := c28 d hf v
  unfold bkL bkT
  cases hok : depOk d with
  | false =>
    rw [hok] at hV
    repeat' first | refine go_seq ?_ | refine go_region ?_ | ((first | refine go_op rfl ?_ | refine go_nil ?_ | refine go_call [] (hV) rfl rfl rfl rfl ?_) <;> conv => whnf) | ((first | refine go_loadB ?_ | refine ⟨by kernel_rfl, ?_⟩ | refine go_ret ?_) <;> conv => whnf) | ((first | refine go_skip ?_) <;> conv => whnf) | refine go_true rfl ?_ | refine go_false rfl ?_ | refine go_cond rfl (fun h => ?_) (fun h => ?_) | refine ⟨rfl, ?_⟩ | ((first | refine ⟨trivial, ?_⟩ | refine ⟨le_of_ble rfl, ?_⟩) <;> conv => whnf) | fail
    all_goals first
      | exact ret_own2 rfl rfl rfl rfl rfl rfl (by intro x hx; cases hx) rfl rfl rfl
      | (exfalso; simp at h; done)
      | trace_state
  | true =>
    rw [hok] at hV
    rw [if_pos rfl, Bool.true_and]
    have e : decide (0 ≤ plI (plc d.tracks v)) = (plc d.tracks v).isSome := by
      cases hp : plc d.tracks v with
      | none => rfl
      | some x => simp [plI]
    repeat' first | refine go_seq ?_ | refine go_region ?_ | ((first | refine go_op rfl ?_ | refine go_nil ?_ | refine go_call [] (hV) rfl rfl rfl rfl ?_ | refine go_call [] (hB) rfl rfl rfl rfl ?_) <;> conv => whnf) | ((first | refine go_loadB ?_ | refine ⟨by kernel_rfl, ?_⟩ | refine go_ret ?_) <;> conv => whnf) | ((first | refine go_skip ?_) <;> conv => whnf) | refine go_true rfl ?_ | refine go_false rfl ?_ | refine go_cond rfl (fun h => ?_) (fun h => ?_) | refine ⟨rfl, ?_⟩ | ((first | refine ⟨trivial, ?_⟩ | refine ⟨le_of_ble rfl, ?_⟩) <;> conv => whnf) | fail
    all_goals first
      | (refine ret_all rfl ⟨⟨rfl, fun h => by cases h⟩, ret1_imm ?_ rfl, trivial⟩ List.nodup_nil List.nodup_nil trivial
         rw [e]
         done)
      | (exfalso; simp at h; done)
      | trace_state
end Go.Proofs.Ytkjigbbbobijnaa

