/- Timetables of the reference: copied, trips looked for, put in, taken out. -/
import Derived.Test.YtfjphbjbobojbaaV5
namespace Go.Proofs.Ytfjphbjbobojbaa
open Go Go.Am
set_option maxRecDepth 100000
set_option maxHeartbeats 8000000
attribute [local irreducible] amOps amC opCall opIndexAddr opPick retQ opMake opStore amDraw opAppend opLoad opNilCmp opIndex opSlice

theorem c37 (t : Timetable) (hf : t.fit) : CallOk Try.prog 37 [.imm (.agg t.enc)] { res := [.imm (.list (t.net.stops.map strRow)), .imm (.list (t.net.lines.map Line.enc)), .arr 54 3 (t.trips.map Trip.enc)], sep := false, agg := true } := by
  refine callOk_of tyOk Try.func37 rfl rfl (le_of_ble rfl) (le_of_ble rfl) (mutOk_imm rfl _) ?_
  have h1 := c66 t.net hf.1
  have hl := hf.2.1
  have hbd : (List.replicate 0 (ty54.zero)).length + (t.trips.map Trip.enc).length ≤ 1073741824 := by simp; omega
  repeat' first | refine go_seq ?_ | refine go_region ?_ | refine go_draw drawsOk ?_ | ((first | refine go_op rfl ?_ | refine go_nil ?_ | refine go_storeBox rfl rfl rfl rfl rfl rfl ?_ | refine go_dop rfl ?_ | refine go_dend (by kernel_rfl) ?_ | refine go_call [] (h1) rfl rfl rfl rfl ?_ | refine go_appImm rfl rfl rfl rfl rfl rfl rfl rfl rfl (trip_one' _) rfl rfl hbd ?_ | refine Or.inr ?_) <;> conv => whnf) | ((first | refine Or.inl ?_ | refine go_loadB ?_ | refine ⟨by kernel_rfl, ?_⟩ | refine go_ret ?_) <;> conv => whnf) | ((first | refine go_skip ?_) <;> conv => whnf) | refine ⟨rfl, ?_⟩ | ((first | refine ⟨trivial, ?_⟩ | refine ⟨le_of_ble rfl, ?_⟩) <;> conv => whnf) | fail
  all_goals first
    | (refine ret_agg rfl rfl rfl ⟨⟨rfl, fun h => by cases h⟩, ⟨rfl, fun h => by cases h⟩, ret1_arr rfl ?_ (trip_gr _) (by show _ ∉ ([] : List Nat); simp), trivial⟩ ?_ List.nodup_nil trivial
       · simp only [List.replicate_zero, List.nil_append, Nat.zero_add, List.drop_zero, List.take_length]
       · exact List.nodup_cons.2 ⟨by simp [ownIds], List.nodup_nil⟩
       done)
    | trace_state

theorem c38 (t : Timetable) (hl : t.trips.length ≤ 1048576) (k : Int) : CallOk Try.prog 38 [.imm (.agg t.enc), .imm (.int .i64 k)] { res := [.imm (.int .i64 (findT t.trips k))] } := by
  refine callOk_of tyOk Try.func38 rfl rfl (le_of_ble rfl) (le_of_ble rfl) (mutOk_imm rfl _) ?_
  repeat' first | refine go_seq ?_ | refine go_region ?_ | ((first | refine go_op rfl ?_ | refine go_nil ?_) <;> conv => whnf) | ((first | refine go_loadB ?_ | refine ⟨by kernel_rfl, ?_⟩ | refine go_ret ?_) <;> conv => whnf) | refine go_block ?_ | ((first | refine go_skip ?_ | refine go_exit ?_) <;> conv => whnf) | refine go_true rfl ?_ | refine go_false rfl ?_ | refine go_cond rfl (fun h => ?_) (fun h => ?_) | refine ⟨rfl, ?_⟩ | ((first | refine ⟨trivial, ?_⟩ | refine ⟨le_of_ble rfl, ?_⟩) <;> conv => whnf) | fail
  refine go_loop (α := Nat) (fun i => i ≤ t.trips.length ∧ (t.trips.take i).any (fun y => decide (y.id = k)) = false) (fun i => t.trips.length - i) (fun i => st Try.f38.ntmps [(1, .imm (.int .i64 k)), (2, .box 1000 0), (5, .imm (.int .i64 (i : Nat)))] [(1000, .box 37 (t.enc.map .imm))] []) 0
    ⟨Nat.zero_le _, rfl⟩ (ref_st (fun _ => nid 1 2) rfl ⟨rfl, ⟨rfl, rfl⟩, rfl, trivial⟩ ⟨⟨rfl, wavs_imm _⟩, trivial⟩ (by simp) rfl (by simp)) ?_
  rintro i ⟨hi, ha⟩
  unfold findT
  cases hx : t.trips[i]? with
  | none =>
    have hge := le_of_at hx
    rw [List.take_of_length_le hge] at ha
    repeat' first | refine go_seq ?_ | refine go_region ?_ | ((first | refine go_op rfl ?_ | refine go_nil ?_) <;> conv => whnf) | ((first | refine go_loadB ?_ | refine ⟨by kernel_rfl, ?_⟩ | refine go_ret ?_) <;> conv => whnf) | refine go_block ?_ | ((first | refine go_skip ?_ | refine go_exit ?_) <;> conv => whnf) | refine go_true rfl ?_ | refine go_false rfl ?_ | refine go_cond rfl (fun h => ?_) (fun h => ?_) | refine ⟨rfl, ?_⟩ | ((first | refine ⟨trivial, ?_⟩ | refine ⟨le_of_ble rfl, ?_⟩) <;> conv => whnf) | fail
    all_goals first
      | exact ret_imm rfl rfl rfl rfl (by rw [idxF_miss ha]) rfl
      | (exfalso; simp at h; omega)
  | some v =>
    have hlt := lt_of_at hx
    have hr := row_at Trip.enc hx
    repeat' first | refine go_seq ?_ | refine go_region ?_ | ((first | refine go_op rfl ?_ | refine go_nil ?_ | refine go_idx rfl rfl rfl rfl (by omega) hr rfl ?_) <;> conv => whnf) | ((first | refine go_loadB ?_ | refine ⟨by kernel_rfl, ?_⟩ | refine go_ret ?_) <;> conv => whnf) | refine go_block ?_ | ((first | refine go_skip ?_ | refine go_exit ?_) <;> conv => whnf) | refine go_true rfl ?_ | refine go_false rfl ?_ | refine go_cond rfl (fun h => ?_) (fun h => ?_) | refine ⟨rfl, ?_⟩ | ((first | refine ⟨trivial, ?_⟩ | refine ⟨le_of_ble rfl, ?_⟩) <;> conv => whnf) | fail
    all_goals first
      | exact ret_imm rfl rfl rfl rfl (by rw [idxF_hit hx h ha]) rfl
      | exact go_next (i + 1) ⟨by omega, any_next hx ha h⟩ (by omega) (ref_st id rfl ⟨rfl, ⟨rfl, rfl⟩, next_i (by omega), trivial⟩ ⟨⟨rfl, wavs_imm _⟩, trivial⟩ (by simp) rfl (by simp))
      | (exfalso; simp at h; omega)
      | trace_state

theorem trip_sz (xs : List Trip) : ∀ r ∈ xs.map Trip.enc, r.length = 3 := fun r hr => (trip_one' xs r hr).1
theorem trip_take (xs : List Trip) (i : Nat) : ∀ r ∈ (xs.map Trip.enc).take i, r.length = 3 ∧ r.all D.one = true := fun r hr => trip_one' xs r (List.mem_of_mem_take hr)
theorem trip_drop (xs : List Trip) (i : Nat) : ∀ r ∈ (xs.map Trip.enc).drop i, r.length = 3 ∧ r.all D.one = true := fun r hr => trip_one' xs r (List.mem_of_mem_drop hr)

theorem c39 (t : Timetable) (hf : t.fit) (x : Trip) : CallOk Try.prog 39 [.imm (.agg t.enc), .imm (.agg x.enc)]
    { res := [.imm (.list (t.net.stops.map strRow)), .imm (.list (t.net.lines.map Line.enc)), .arr 54 3 ((insT t.trips x).map Trip.enc)], sep := false, agg := true } := by
  refine callOk_of tyOk Try.func39 rfl rfl (le_of_ble rfl) (le_of_ble rfl) (mutOk_imm rfl _) ?_
  have h1 := c37 t hf
  have hl := hf.2.1
  repeat' first | refine go_seq ?_ | refine go_region ?_ | refine go_miss rfl rfl rfl ?_ | refine go_undef rfl rfl rfl ?_ | refine go_draw drawsOk ?_ | ((first | refine go_op rfl ?_ | refine go_nil ?_ | refine go_hit rfl rfl rfl ?_ | refine go_splitT rfl rfl rfl (fun h => ?_) (fun h => ?_) | refine go_splitF rfl rfl rfl (fun h => ?_) (fun h => ?_) | refine go_storeBox rfl rfl rfl rfl rfl rfl ?_ | refine go_dop rfl ?_ | refine go_dhit rfl rfl ?_ | refine go_dmiss rfl rfl ?_ | refine go_dundef rfl rfl ?_ | refine go_dend (by kernel_rfl) ?_ | refine go_pickT rfl ?_ | refine go_pickF rfl ?_ | refine go_pick rfl (fun h => ?_) (fun h => ?_)) <;> conv => whnf) | ((first | refine go_dsplit2 rfl (fun h => ?_) (fun h => ?_) | refine go_loadB ?_ | refine ⟨by kernel_rfl, ?_⟩ | refine go_ret ?_) <;> conv => whnf) | refine go_block ?_ | ((first | refine go_skip ?_ | refine go_exit ?_) <;> conv => whnf) | refine go_true rfl ?_ | refine go_false rfl ?_ | refine go_cond rfl (fun h => ?_) (fun h => ?_) | refine ⟨rfl, ?_⟩ | ((first | refine ⟨trivial, ?_⟩ | refine ⟨le_of_ble rfl, ?_⟩) <;> conv => whnf) | fail
  refine go_loop (α := Nat) (fun i => i ≤ t.trips.length ∧ ∀ z ∈ t.trips.take i, ltB x z = true) (fun i => t.trips.length - i)
    (fun i => st Try.f39.ntmps [(2, .box 1000 0), (3, .box 1001 0), (4, .box 1002 0), (5, .imm (.int .i64 (i : Nat)))]
      [(1000, .box 37 (t.enc.map .imm)), (1001, .box 54 (x.enc.map .imm)), (1002, .box 37 ([.list [], .list [], .list []].map .imm))] []) 0 ⟨Nat.zero_le _, fun z hz => by simp at hz⟩ ?_ ?_
  · exact ref_st (fun i => if i = 1000 then nid 1 2 else if i = 1001 then nid 1 3 else nid 1 4) rfl ⟨⟨rfl, rfl⟩, ⟨rfl, rfl⟩, ⟨rfl, rfl⟩, rfl, trivial⟩ ⟨⟨rfl, wavs_imm _⟩, ⟨rfl, wavs_imm _⟩, ⟨rfl, wavs_imm _⟩, trivial⟩ (by simp [nid]) rfl (by simp)
  rintro i ⟨hi, ha⟩
  have hfin : (∀ y, t.trips[i]? = some y → ltB x y = false) → insAt t.trips x = i := fun hn => ins_here hi ha hn
  have hki : i ≤ (t.trips.map Trip.enc).length := by rw [List.length_map]; omega
  have hB1 : (List.replicate 0 (ty54.zero)).length + ((t.trips.map Trip.enc).take i).length ≤ 1073741824 := by simp; omega
  have hone := trip_one [x]
  have hB2 : (0 + ((t.trips.map Trip.enc).take i).length) + 1 ≤ 1073741824 := by simp; omega
  have hL1 : 0 + ((t.trips.map Trip.enc).take i).length = (List.replicate 0 (ty54.zero) ++ (t.trips.map Trip.enc).take i).length := by simp
  have hL2 : 0 + ((t.trips.map Trip.enc).take i).length + 1 = (List.replicate 0 (ty54.zero) ++ (t.trips.map Trip.enc).take i ++ [x].map Trip.enc).length := by simp
  have hB3 : (List.replicate 0 (ty54.zero) ++ (t.trips.map Trip.enc).take i ++ [x].map Trip.enc).length + ((t.trips.map Trip.enc).drop i).length ≤ 1073741824 := by simp; omega
  have hrows : List.replicate 0 (ty54.zero) ++ (t.trips.map Trip.enc).take i ++ [x].map Trip.enc ++ (t.trips.map Trip.enc).drop i = (t.trips.take i ++ x :: t.trips.drop i).map Trip.enc := by simp
  cases hx : t.trips[i]? with
  | none =>
    have hge := le_of_at hx
    have hie : i = t.trips.length := by omega
    have hia := hfin (fun y hy => by rw [hx] at hy; cases hy)
    have hres : insT t.trips x = t.trips.take i ++ x :: t.trips.drop i := by unfold insT; rw [hia]
    rw [hres]
    repeat' first | refine go_seq ?_ | refine go_region ?_ | refine go_miss rfl rfl rfl ?_ | refine go_undef rfl rfl rfl ?_ | refine go_draw drawsOk ?_ | ((first | refine go_op rfl ?_ | refine go_nil ?_ | refine go_hit rfl rfl rfl ?_ | refine go_splitT rfl rfl rfl (fun h => ?_) (fun h => ?_) | refine go_splitF rfl rfl rfl (fun h => ?_) (fun h => ?_) | refine go_storeBox rfl rfl rfl rfl rfl rfl ?_ | refine go_dop rfl ?_ | refine go_dhit rfl rfl ?_ | refine go_dmiss rfl rfl ?_ | refine go_dundef rfl rfl ?_ | refine go_dend (by kernel_rfl) ?_ | refine go_pickT rfl ?_ | refine go_pickF rfl ?_ | refine go_pick rfl (fun h => ?_) (fun h => ?_) | refine go_call [] (h1) rfl rfl rfl rfl ?_ | refine go_sliceToI (k := i) rfl rfl rfl (trip_sz _) rfl hki ?_ | refine go_sliceFromI (k := i) rfl rfl rfl (trip_sz _) rfl hki ?_ | refine go_appImm rfl rfl rfl rfl rfl rfl rfl rfl rfl (trip_take _ _) rfl rfl hB1 ?_ | refine go_append (rows2 := [x].map Trip.enc) rfl rfl rfl rfl rfl rfl rfl rfl rfl rfl rfl rfl hone rfl hL1 rfl hB2 ?_ | refine go_appImm rfl rfl rfl rfl rfl rfl rfl rfl rfl (trip_drop _ _) rfl hL2 hB3 ?_) <;> conv => whnf) | ((first | refine go_dsplit2 rfl (fun h => ?_) (fun h => ?_) | refine go_loadB ?_ | refine ⟨by kernel_rfl, ?_⟩ | refine go_ret ?_) <;> conv => whnf) | refine go_block ?_ | ((first | refine go_skip ?_ | refine go_exit ?_) <;> conv => whnf) | refine go_true rfl ?_ | refine go_false rfl ?_ | refine go_cond rfl (fun h => ?_) (fun h => ?_) | refine ⟨rfl, ?_⟩ | ((first | refine ⟨trivial, ?_⟩ | refine ⟨le_of_ble rfl, ?_⟩) <;> conv => whnf) | fail
    all_goals first
      | (refine ret_agg rfl rfl rfl ⟨⟨rfl, fun h => by cases h⟩, ⟨rfl, fun h => by cases h⟩, ret1_arr rfl ?_ (trip_gr _) (by show _ ∉ ([] : List Nat); simp), trivial⟩ ?_ List.nodup_nil trivial
         · rw [← hrows, List.drop_zero, List.take_of_length_le (by simp; omega)]; try rfl
         · exact List.nodup_cons.2 ⟨by simp [ownIds], List.nodup_nil⟩
         done)
      | (exfalso; simp at h; done)
      | (exfalso; simp at h; omega)
      | trace_state
  | some y =>
    have hlt := lt_of_at hx
    have hr := row_at Trip.enc hx
    cases hb : ltB x y with
    | true =>
      have hb' : y.id < x.id := by simpa [ltB] using hb
      repeat' first | refine go_seq ?_ | refine go_region ?_ | refine go_miss rfl rfl rfl ?_ | refine go_undef rfl rfl rfl ?_ | refine go_draw drawsOk ?_ | ((first | refine go_op rfl ?_ | refine go_nil ?_ | refine go_hit rfl rfl rfl ?_ | refine go_splitT rfl rfl rfl (fun h => ?_) (fun h => ?_) | refine go_splitF rfl rfl rfl (fun h => ?_) (fun h => ?_) | refine go_storeBox rfl rfl rfl rfl rfl rfl ?_ | refine go_dop rfl ?_ | refine go_dhit rfl rfl ?_ | refine go_dmiss rfl rfl ?_ | refine go_dundef rfl rfl ?_ | refine go_dend (by kernel_rfl) ?_ | refine go_pickT rfl ?_ | refine go_pickF rfl ?_ | refine go_pick rfl (fun h => ?_) (fun h => ?_) | refine go_idx rfl rfl rfl rfl (by omega) hr rfl ?_) <;> conv => whnf) | ((first | refine go_dsplit2 rfl (fun h => ?_) (fun h => ?_) | refine go_loadB ?_ | refine ⟨by kernel_rfl, ?_⟩ | refine go_ret ?_) <;> conv => whnf) | refine go_block ?_ | ((first | refine go_skip ?_ | refine go_exit ?_) <;> conv => whnf) | refine go_true rfl ?_ | refine go_false rfl ?_ | refine go_cond rfl (fun h => ?_) (fun h => ?_) | refine ⟨rfl, ?_⟩ | ((first | refine ⟨trivial, ?_⟩ | refine ⟨le_of_ble rfl, ?_⟩) <;> conv => whnf) | fail
      all_goals first
        | (exact go_next (i + 1) ⟨by omega, ins_next hx ha hb⟩ (by omega) (ref_st id rfl ⟨⟨rfl, rfl⟩, ⟨rfl, rfl⟩, ⟨rfl, rfl⟩, next_i (by omega), trivial⟩ ⟨⟨rfl, wavs_imm _⟩, ⟨rfl, wavs_imm _⟩, ⟨rfl, wavs_imm _⟩, trivial⟩ (by simp) rfl (by simp)))
        | (exfalso; simp at h; omega)
        | (exfalso; have h' := of_decide_eq_false h; omega)
        | (exfalso; have h' := of_decide_eq_true h; omega)
        | (exfalso; rename_i hq; have h' := of_decide_eq_true hq; omega)
        | (exfalso; rename_i hq; have h' := of_decide_eq_false hq; omega)
        | (exfalso; rename_i hq _; have h' := of_decide_eq_true hq; omega)
        | (exfalso; rename_i hq _; have h' := of_decide_eq_false hq; omega)
        | trace_state
    | false =>
      have hb' : ¬ y.id < x.id := by simpa [ltB] using hb
      have hia := hfin (fun z hz => by rw [hx] at hz; injection hz with hz; rw [← hz]; exact hb)
      have hres : insT t.trips x = t.trips.take i ++ x :: t.trips.drop i := by unfold insT; rw [hia]
      rw [hres]
      repeat' first | refine go_seq ?_ | refine go_region ?_ | refine go_miss rfl rfl rfl ?_ | refine go_undef rfl rfl rfl ?_ | refine go_draw drawsOk ?_ | ((first | refine go_op rfl ?_ | refine go_nil ?_ | refine go_hit rfl rfl rfl ?_ | refine go_splitT rfl rfl rfl (fun h => ?_) (fun h => ?_) | refine go_splitF rfl rfl rfl (fun h => ?_) (fun h => ?_) | refine go_storeBox rfl rfl rfl rfl rfl rfl ?_ | refine go_dop rfl ?_ | refine go_dhit rfl rfl ?_ | refine go_dmiss rfl rfl ?_ | refine go_dundef rfl rfl ?_ | refine go_dend (by kernel_rfl) ?_ | refine go_pickT rfl ?_ | refine go_pickF rfl ?_ | refine go_pick rfl (fun h => ?_) (fun h => ?_) | refine go_call [] (h1) rfl rfl rfl rfl ?_ | refine go_idx rfl rfl rfl rfl (by omega) hr rfl ?_ | refine go_sliceToI (k := i) rfl rfl rfl (trip_sz _) rfl hki ?_ | refine go_sliceFromI (k := i) rfl rfl rfl (trip_sz _) rfl hki ?_ | refine go_appImm rfl rfl rfl rfl rfl rfl rfl rfl rfl (trip_take _ _) rfl rfl hB1 ?_ | refine go_append (rows2 := [x].map Trip.enc) rfl rfl rfl rfl rfl rfl rfl rfl rfl rfl rfl rfl hone rfl hL1 rfl hB2 ?_ | refine go_appImm rfl rfl rfl rfl rfl rfl rfl rfl rfl (trip_drop _ _) rfl hL2 hB3 ?_) <;> conv => whnf) | ((first | refine go_dsplit2 rfl (fun h => ?_) (fun h => ?_) | refine go_loadB ?_ | refine ⟨by kernel_rfl, ?_⟩ | refine go_ret ?_) <;> conv => whnf) | refine go_block ?_ | ((first | refine go_skip ?_ | refine go_exit ?_) <;> conv => whnf) | refine go_true rfl ?_ | refine go_false rfl ?_ | refine go_cond rfl (fun h => ?_) (fun h => ?_) | refine ⟨rfl, ?_⟩ | ((first | refine ⟨trivial, ?_⟩ | refine ⟨le_of_ble rfl, ?_⟩) <;> conv => whnf) | fail
      all_goals first
        | (refine ret_agg rfl rfl rfl ⟨⟨rfl, fun h => by cases h⟩, ⟨rfl, fun h => by cases h⟩, ret1_arr rfl ?_ (trip_gr _) (by show _ ∉ ([] : List Nat); simp), trivial⟩ ?_ List.nodup_nil trivial
           · rw [← hrows, List.drop_zero, List.take_of_length_le (by simp; omega)]; try rfl
           · exact List.nodup_cons.2 ⟨by simp [ownIds], List.nodup_nil⟩
           done)
        | (exfalso; simp at h; omega)
        | (exfalso; have h' := of_decide_eq_false h; omega)
        | (exfalso; have h' := of_decide_eq_true h; omega)
        | (exfalso; rename_i hq; have h' := of_decide_eq_true hq; omega)
        | (exfalso; rename_i hq; have h' := of_decide_eq_false hq; omega)
        | (exfalso; rename_i hq _; have h' := of_decide_eq_true hq; omega)
        | (exfalso; rename_i hq _; have h' := of_decide_eq_false hq; omega)
        | trace_state

theorem c40 (t : Timetable) (hf : t.fit) (i : Nat) (hi : i < t.trips.length) : CallOk Try.prog 40 [.imm (.agg t.enc), .imm (.int .i64 (i : Int))]
    { res := [.imm (.list (t.net.stops.map strRow)), .imm (.list (t.net.lines.map Line.enc)), .arr 54 3 ((delAt t.trips i).map Trip.enc)], sep := false, agg := true } := by
  refine callOk_of tyOk Try.func40 rfl rfl (le_of_ble rfl) (le_of_ble rfl) (mutOk_imm rfl _) ?_
  have h1 := c37 t hf
  have hl := hf.2.1
  have e1 : IntKind.i64.wrap ((i : Int) + 1) = ((i + 1 : Nat) : Int) := by rw [wrap_small (by omega) (by omega)]; omega
  have hki : i ≤ (t.trips.map Trip.enc).length := by rw [List.length_map]; omega
  have hki1 : i + 1 ≤ (t.trips.map Trip.enc).length := by rw [List.length_map]; omega
  have hB1 : (List.replicate 0 (ty54.zero)).length + ((t.trips.map Trip.enc).take i).length ≤ 1073741824 := by simp; omega
  have hL1 : 0 + ((t.trips.map Trip.enc).take i).length = (List.replicate 0 (ty54.zero) ++ (t.trips.map Trip.enc).take i).length := by simp
  have hB2 : (List.replicate 0 (ty54.zero) ++ (t.trips.map Trip.enc).take i).length + ((t.trips.map Trip.enc).drop (i + 1)).length ≤ 1073741824 := by simp; omega
  have hrows : List.replicate 0 (ty54.zero) ++ (t.trips.map Trip.enc).take i ++ (t.trips.map Trip.enc).drop (i + 1) = (delAt t.trips i).map Trip.enc := by simp [delAt]
  repeat' first | refine go_seq ?_ | refine go_region ?_ | refine go_draw drawsOk ?_ | ((first | refine go_op rfl ?_ | refine go_nil ?_ | refine go_storeBox rfl rfl rfl rfl rfl rfl ?_ | refine go_dop rfl ?_ | refine go_dend (by kernel_rfl) ?_ | refine go_call [] (h1) rfl rfl rfl rfl ?_ | refine go_sliceToI (k := i) rfl rfl rfl (trip_sz _) rfl hki ?_ | refine go_sliceFromI (k := i + 1) rfl rfl rfl (trip_sz _) (congrArg (fun z => AV.imm (.int .i64 z)) e1) hki1 ?_ | refine go_appImm rfl rfl rfl rfl rfl rfl rfl rfl rfl (trip_take _ _) rfl rfl hB1 ?_ | refine go_appImm rfl rfl rfl rfl rfl rfl rfl rfl rfl (trip_drop _ _) rfl hL1 hB2 ?_) <;> conv => whnf) | ((first | refine go_loadB ?_ | refine ⟨by kernel_rfl, ?_⟩ | refine go_ret ?_) <;> conv => whnf) | ((first | refine go_skip ?_) <;> conv => whnf) | refine ⟨rfl, ?_⟩ | ((first | refine ⟨trivial, ?_⟩ | refine ⟨le_of_ble rfl, ?_⟩) <;> conv => whnf) | fail
  all_goals first
    | (refine ret_agg rfl rfl rfl ⟨⟨rfl, fun h => by cases h⟩, ⟨rfl, fun h => by cases h⟩, ret1_arr rfl ?_ (trip_gr _) (by show _ ∉ ([] : List Nat); simp), trivial⟩ ?_ List.nodup_nil trivial
       · rw [← hrows, List.drop_zero, List.take_of_length_le (by rw [List.length_append, List.length_append, List.length_replicate]; omega)]; try rfl
       · exact List.nodup_cons.2 ⟨by simp [ownIds], List.nodup_nil⟩
       done)
    | trace_state
end Go.Proofs.Ytfjphbjbobojbaa

