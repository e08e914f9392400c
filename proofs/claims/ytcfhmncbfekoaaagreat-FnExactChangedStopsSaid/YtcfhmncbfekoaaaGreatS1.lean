/- The calls at a stop: program and reference, and lists compared. -/
import Derived.Test.YtcfhmncbfekoaaaGreatS0
import Derived.Test.YtcfhmncbfekoaaaGreatAmO
import Derived.Test.YtcfhmncbfekoaaaGreatRC
namespace Go.Proofs.YtcfhmncbfekoaaaGreat
open Go Go.Am Go.Proofs
set_option maxRecDepth 100000
set_option maxHeartbeats 8000000

def calRen : Go.Shelf.Ren := ⟨fun | 6 => 78 | 15 => 61 | 14 => 111 | 28 => 104 | 29 => 105 | 20 => 138 | 21 => 139 | 22 => 140 | 23 => 141 | 24 => 142 | 25 => 143 | 26 => 144 | 27 => 145 | 46 => 155 | 47 => 133 | 48 => 134 | 49 => 156 | 50 => 157 | 57 => 160 | n => n, fun | 22 => 82 | 24 => 83 | 25 => 115 | 3 => 3 | 39 => 97 | 0 => 0 | 53 => 134 | 55 => 136 | 4 => 4 | 46 => 127 | 45 => 126 | 50 => 131 | 5 => 5 | 9 => 9 | 66 => 157 | 70 => 161 | 76 => 172 | 77 => 173 | n => n, fun n => n⟩
theorem calLays : SlLaysF0.n6 Tryz.prog calRen := {
  mixed := by kernel_rfl
  f6 := ⟨Tryz.f78.name, by kernel_rfl, Tryz.func78.trans (congrArg some (by kernel_rfl))⟩
  f14 := ⟨Tryz.f111.name, by kernel_rfl, Tryz.func111.trans (congrArg some (by kernel_rfl))⟩
  f15 := Tryz.func61.trans (congrArg some (by kernel_rfl))
  f20 := ⟨Tryz.f138.name, by kernel_rfl, Tryz.func138.trans (congrArg some (by kernel_rfl))⟩
  f21 := ⟨Tryz.f139.name, by kernel_rfl, Tryz.func139.trans (congrArg some (by kernel_rfl))⟩
  f22 := ⟨Tryz.f140.name, by kernel_rfl, Tryz.func140.trans (congrArg some (by kernel_rfl))⟩
  f23 := ⟨Tryz.f141.name, by kernel_rfl, Tryz.func141.trans (congrArg some (by kernel_rfl))⟩
  f24 := ⟨Tryz.f142.name, by kernel_rfl, Tryz.func142.trans (congrArg some (by kernel_rfl))⟩
  f25 := ⟨Tryz.f143.name, by kernel_rfl, Tryz.func143.trans (congrArg some (by kernel_rfl))⟩
  f26 := ⟨Tryz.f144.name, by kernel_rfl, Tryz.func144.trans (congrArg some (by kernel_rfl))⟩
  f27 := ⟨Tryz.f145.name, by kernel_rfl, Tryz.func145.trans (congrArg some (by kernel_rfl))⟩
  f28 := Tryz.func104.trans (congrArg some (by kernel_rfl))
  f29 := Tryz.func105.trans (congrArg some (by kernel_rfl))
  f46 := ⟨Tryz.f155.name, by kernel_rfl, Tryz.func155.trans (congrArg some (by kernel_rfl))⟩
  f47 := Tryz.func133.trans (congrArg some (by kernel_rfl))
  f48 := Tryz.func134.trans (congrArg some (by kernel_rfl))
  f49 := ⟨Tryz.f156.name, by kernel_rfl, Tryz.func156.trans (congrArg some (by kernel_rfl))⟩
  f50 := ⟨Tryz.f157.name, by kernel_rfl, Tryz.func157.trans (congrArg some (by kernel_rfl))⟩
  f57 := ⟨Tryz.f160.name, by kernel_rfl, Tryz.func160.trans (congrArg some (by kernel_rfl))⟩
  t0 := Tryz.underlying0
  a0 := Tryz.isAgg0
  z0 := Tryz.sizeOf0
  v0 := Tryz.zeroValue0
  t3 := Tryz.underlying3
  a3 := Tryz.isAgg3
  z3 := Tryz.sizeOf3
  v3 := Tryz.zeroValue3
  t4 := Tryz.underlying4
  a4 := Tryz.isAgg4
  z4 := Tryz.sizeOf4
  v4 := Tryz.zeroValue4
  t5 := Tryz.underlying5
  a5 := Tryz.isAgg5
  z5 := Tryz.sizeOf5
  v5 := Tryz.zeroValue5
  t9 := Tryz.underlying9
  a9 := Tryz.isAgg9
  z9 := Tryz.sizeOf9
  v9 := Tryz.zeroValue9
  t22 := Tryz.underlying82
  a22 := Tryz.isAgg82
  z22 := Tryz.sizeOf82
  v22 := Tryz.zeroValue82
  t25 := Tryz.underlying115
  a25 := Tryz.isAgg115
  z25 := Tryz.sizeOf115
  v25 := Tryz.zeroValue115
  t39 := Tryz.underlying97
  a39 := Tryz.isAgg97
  z39 := Tryz.sizeOf97
  v39 := Tryz.zeroValue97
  t45 := Tryz.underlying126
  a45 := Tryz.isAgg126
  z45 := Tryz.sizeOf126
  v45 := Tryz.zeroValue126
  t46 := Tryz.underlying127
  a46 := Tryz.isAgg127
  z46 := Tryz.sizeOf127
  v46 := Tryz.zeroValue127
  t50 := Tryz.underlying131
  a50 := Tryz.isAgg131
  z50 := Tryz.sizeOf131
  v50 := Tryz.zeroValue131
  t53 := Tryz.underlying134
  a53 := Tryz.isAgg134
  z53 := Tryz.sizeOf134
  v53 := Tryz.zeroValue134
  t55 := Tryz.underlying136
  a55 := Tryz.isAgg136
  z55 := Tryz.sizeOf136
  v55 := Tryz.zeroValue136
  t66 := Tryz.underlying157
  a66 := Tryz.isAgg157
  z66 := Tryz.sizeOf157
  v66 := Tryz.zeroValue157
  t70 := Tryz.underlying161
  a70 := Tryz.isAgg161
  z70 := Tryz.sizeOf161
  v70 := Tryz.zeroValue161
  t76 := Tryz.underlying172
  a76 := Tryz.isAgg172
  z76 := Tryz.sizeOf172
  v76 := Tryz.zeroValue172
  t77 := Tryz.underlying173
  a77 := Tryz.isAgg173
  z77 := Tryz.sizeOf173
  v77 := Tryz.zeroValue173 }

attribute [local irreducible] amOps amC opCall opIndexAddr opPick retQ opMake opStore amDraw opAppend opLoad opNilCmp opIndex opSlice

theorem c80 (x y : Cal) : CallOk Tryz.prog 80 [.imm (.list [[.int .i64 x.at'], [.int .i64 x.id]]), .imm (.list [[.int .i64 y.at'], [.int .i64 y.id]])] { res := [.imm (.int .i64 (calC x y))] } := by
  refine callOk_of tyOk Tryz.func80 rfl rfl (le_of_ble rfl) (le_of_ble rfl) (mutOk_imm rfl _) ?_
  have hc1 := c62 x.at' y.at'
  have hc2 := c62 x.id y.id
  have hC : calC x y = if cmpI x.at' y.at' = 0 then cmpI x.id y.id else cmpI x.at' y.at' := by
    unfold calC cmpI
    (repeat' split) <;> omega
  repeat' first | refine go_seq ?_ | refine go_region ?_ | ((first | refine go_op rfl ?_ | refine go_nil ?_) <;> conv => whnf) | ((first | refine go_loadB ?_ | refine ⟨by kernel_rfl, ?_⟩ | refine go_ret ?_) <;> conv => whnf) | refine go_block ?_ | ((first | refine go_skip ?_ | refine go_exit ?_) <;> conv => whnf) | refine go_true rfl ?_ | refine go_false rfl ?_ | refine go_cond rfl (fun h => ?_) (fun h => ?_) | refine ⟨rfl, ?_⟩ | ((first | refine ⟨trivial, ?_⟩ | refine ⟨le_of_ble rfl, ?_⟩) <;> conv => whnf) | fail
  refine go_loop (α := Nat) (fun i => i ≤ 2 ∧ (0 < i → cmpI x.at' y.at' = 0) ∧ (1 < i → cmpI x.id y.id = 0)) (fun i => 2 - i)
    (fun i => st Tryz.f80.ntmps [(0, .imm (.list [[.int .i64 x.at'], [.int .i64 x.id]])), (1, .imm (.list [[.int .i64 y.at'], [.int .i64 y.id]])), (9, .imm (.list [[.int .i64 x.at'], [.int .i64 x.id]])), (10, .imm (.int .i64 2)), (11, .imm (.int .i64 (i : Nat)))] [] []) 0 ⟨by omega, by omega, by omega⟩
    (ref_st0 rfl ⟨rfl, rfl, rfl, rfl, rfl, trivial⟩ rfl) ?_
  rintro i ⟨hi, h0, h1⟩
  match i, hi with
  | 0, _ =>
    repeat' first | refine go_seq ?_ | refine go_region ?_ | ((first | refine go_op rfl ?_ | refine go_nil ?_ | refine go_call [] (hc1) rfl rfl rfl rfl ?_ | refine go_idx (i := 0) rfl rfl rfl rfl (by omega) rfl rfl ?_) <;> conv => whnf) | ((first | refine go_loadB ?_ | refine ⟨by kernel_rfl, ?_⟩ | refine go_ret ?_) <;> conv => whnf) | refine go_block ?_ | ((first | refine go_skip ?_ | refine go_exit ?_) <;> conv => whnf) | refine go_true rfl ?_ | refine go_false rfl ?_ | refine go_cond rfl (fun h => ?_) (fun h => ?_) | refine ⟨rfl, ?_⟩ | ((first | refine ⟨trivial, ?_⟩ | refine ⟨le_of_ble rfl, ?_⟩) <;> conv => whnf) | fail
    all_goals first
      | (refine ret_imm rfl rfl rfl rfl ?_ rfl; rw [hC, if_neg (by simpa using h)]; done)
      | (exact go_next 1 ⟨by omega, fun _ => by simpa using h, by omega⟩ (by omega) (ref_st0 rfl ⟨rfl, rfl, rfl, rfl, rfl, trivial⟩ rfl))
      | (exfalso; have h' := of_decide_eq_false h; omega)
      | (exfalso; have h' := of_decide_eq_true h; omega)
      | (exfalso; rename_i hq; have h' := of_decide_eq_true hq; omega)
      | (exfalso; rename_i hq; have h' := of_decide_eq_false hq; omega)
      | (exfalso; rename_i hq _; have h' := of_decide_eq_true hq; omega)
      | (exfalso; rename_i hq _; have h' := of_decide_eq_false hq; omega)
      | trace_state
  | 1, _ =>
    repeat' first | refine go_seq ?_ | refine go_region ?_ | ((first | refine go_op rfl ?_ | refine go_nil ?_ | refine go_call [] (hc2) rfl rfl rfl rfl ?_ | refine go_idx (i := 1) rfl rfl rfl rfl (by omega) rfl rfl ?_) <;> conv => whnf) | ((first | refine go_loadB ?_ | refine ⟨by kernel_rfl, ?_⟩ | refine go_ret ?_) <;> conv => whnf) | refine go_block ?_ | ((first | refine go_skip ?_ | refine go_exit ?_) <;> conv => whnf) | refine go_true rfl ?_ | refine go_false rfl ?_ | refine go_cond rfl (fun h => ?_) (fun h => ?_) | refine ⟨rfl, ?_⟩ | ((first | refine ⟨trivial, ?_⟩ | refine ⟨le_of_ble rfl, ?_⟩) <;> conv => whnf) | fail
    all_goals first
      | (refine ret_imm rfl rfl rfl rfl ?_ rfl; rw [hC, if_pos (h0 (by omega))]; done)
      | (exact go_next 2 ⟨by omega, fun _ => h0 (by omega), fun _ => by simpa using h⟩ (by omega) (ref_st0 rfl ⟨rfl, rfl, rfl, rfl, rfl, trivial⟩ rfl))
      | (exfalso; have h' := of_decide_eq_false h; omega)
      | (exfalso; have h' := of_decide_eq_true h; omega)
      | (exfalso; rename_i hq; have h' := of_decide_eq_true hq; omega)
      | (exfalso; rename_i hq; have h' := of_decide_eq_false hq; omega)
      | (exfalso; rename_i hq _; have h' := of_decide_eq_true hq; omega)
      | (exfalso; rename_i hq _; have h' := of_decide_eq_false hq; omega)
      | trace_state
  | 2, _ =>
    repeat' first | refine go_seq ?_ | refine go_region ?_ | ((first | refine go_op rfl ?_ | refine go_nil ?_) <;> conv => whnf) | ((first | refine go_loadB ?_ | refine ⟨by kernel_rfl, ?_⟩ | refine go_ret ?_) <;> conv => whnf) | refine go_block ?_ | ((first | refine go_skip ?_ | refine go_exit ?_) <;> conv => whnf) | refine go_true rfl ?_ | refine go_false rfl ?_ | refine go_cond rfl (fun h => ?_) (fun h => ?_) | refine ⟨rfl, ?_⟩ | ((first | refine ⟨trivial, ?_⟩ | refine ⟨le_of_ble rfl, ?_⟩) <;> conv => whnf) | fail
    all_goals first
      | (refine ret_imm rfl rfl rfl rfl ?_ rfl; rw [hC, if_pos (h0 (by omega)), h1 (by omega)]; done)
      | (exfalso; have h' := of_decide_eq_false h; omega)
      | (exfalso; have h' := of_decide_eq_true h; omega)
      | (exfalso; rename_i hq; have h' := of_decide_eq_true hq; omega)
      | (exfalso; rename_i hq; have h' := of_decide_eq_false hq; omega)
      | (exfalso; rename_i hq _; have h' := of_decide_eq_true hq; omega)
      | (exfalso; rename_i hq _; have h' := of_decide_eq_false hq; omega)
      | trace_state

theorem c79 (x y : Cal) : CallOk Tryz.prog 79 [.imm (.agg x.enc), .imm (.agg y.enc)] { res := [.imm (.int .i64 (calC x y))] } := by
  refine callOk_of tyOk Tryz.func79 rfl rfl (le_of_ble rfl) (le_of_ble rfl) (mutOk_imm rfl _) ?_
  have hc := c80 x y
  repeat' first | refine go_seq ?_ | refine go_region ?_ | refine go_draw drawsOk ?_ | ((first | refine go_op rfl ?_ | refine go_nil ?_ | refine go_dop rfl ?_ | refine go_dend (by kernel_rfl) ?_ | refine go_call [] (hc) rfl rfl rfl rfl ?_ | refine go_sliceArr rfl rfl rfl rfl rfl rfl rfl ?_) <;> conv => whnf) | ((first | refine ⟨by kernel_rfl, ?_⟩ | refine go_ret ?_) <;> conv => whnf) | ((first | refine go_skip ?_) <;> conv => whnf) | refine ⟨rfl, ?_⟩ | ((first | refine ⟨trivial, ?_⟩ | refine ⟨le_of_ble rfl, ?_⟩) <;> conv => whnf) | fail
  all_goals exact ret_imm rfl rfl rfl rfl rfl rfl

theorem c78 (xs : List Cal) (hl : xs.length ≤ 1048576) : CallOk Tryz.prog 78 [.arr 83 2 (xs.map Cal.enc), .imm (.fn 79 [])]
    { res := [], muts := [.arr 83 2 ((sortL calLt xs).map Cal.enc)] } := by
  cases hx : xs with
  | nil => exact callOk_sortFn0 calLays ⟨_, Tryz.func78, rfl, rfl⟩ 83 2 (.fn 79 [])
  | cons x r =>
    have h := callOk_sortFn calLays ⟨_, Tryz.func78, rfl, rfl⟩ (k := 2) Tryz.isAgg83 Tryz.sizeOf83 (enc := Cal.enc) (fun _ => rfl) cal_pl (cf := calC) (g := 79) (by rw [calLt_eq]; exact calWeak) (caps := []) c79 rfl 83 (x :: r) (by simp) (by rw [← hx]; omega)
    rw [calLt_eq, pdqL_eq calWeak cal_anti] at h
    exact h

theorem c48 (t : Timetable) (hf : t.fit) (hok : ttOk t = true) (stop : Int) : CallOk Tryz.prog 48 [.imm (.agg t.enc), .imm (.int .i64 stop)] { res := [.imm (.list ((sortL calLt (cals t stop)).map Cal.enc))] } := by
  refine callOk_of tyOk Tryz.func48 rfl rfl (le_of_ble rfl) (le_of_ble rfl) (mutOk_imm rfl _) ?_
  have hnt : t.trips.length ≤ 1048576 := hf.2.1
  have htl : (t.trips.map Trip.enc).length = t.trips.length := List.length_map _
  have han := cals_len t stop
  repeat' first | refine go_seq ?_ | refine go_region ?_ | refine go_draw drawsOk ?_ | ((first | refine go_op rfl ?_ | refine go_nil ?_ | refine go_storeBox rfl rfl rfl rfl rfl rfl ?_ | refine go_dop rfl ?_ | refine go_dend (by kernel_rfl) ?_) <;> conv => whnf) | ((first | refine Or.inl ?_ | refine go_loadB ?_ | refine ⟨by kernel_rfl, ?_⟩ | refine go_ret ?_) <;> conv => whnf) | refine go_block ?_ | ((first | refine go_skip ?_ | refine go_exit ?_) <;> conv => whnf) | refine go_true rfl ?_ | refine go_false rfl ?_ | refine go_cond rfl (fun h => ?_) (fun h => ?_) | refine ⟨rfl, ?_⟩ | ((first | refine ⟨trivial, ?_⟩ | refine ⟨le_of_ble rfl, ?_⟩) <;> conv => whnf) | fail
  refine go_loop (α := Nat) (fun i => i ≤ t.trips.length) (fun i => t.trips.length - i)
    (fun i => st Tryz.f48.ntmps [(1, .imm (.int .i64 stop)), (2, .box 1000 0), (5, .own 1001 0 ((calsN t stop i).map Cal.enc).length), (10, .imm (.list (t.trips.map Trip.enc))), (11, .imm (.int .i64 (t.trips.map Trip.enc).length)), (12, .imm (.int .i64 (i : Nat)))]
      [(1000, .box 40 (t.enc.map .imm)), (1001, .arr 83 2 ((calsN t stop i).map Cal.enc))] []) 0 (Nat.zero_le _) ?_ ?_
  · exact ref_st (fun y => if y = 1000 then nid 1 2 else nid 2 5) rfl ⟨rfl, ⟨rfl, rfl⟩, ⟨rfl, rfl⟩, rfl, rfl, rfl, trivial⟩ ⟨⟨rfl, wavs_imm _⟩, rfl, trivial⟩ (by simp [nid]) rfl (by simp)
  intro i hi
  cases hx : t.trips[i]? with
  | none =>
    have hge := le_of_at hx
    rw [cals_all stop hge]
    have hcs := c78 (cals t stop) (by omega)
    have hsl : (sortL calLt (cals t stop)).length = (cals t stop).length := sortL_len calWeak _
    repeat' first | refine go_seq ?_ | refine go_region ?_ | refine go_draw drawsOk ?_ | ((first | refine go_op rfl ?_ | refine go_nil ?_ | refine go_storeBox rfl rfl rfl rfl rfl rfl ?_ | refine go_dop rfl ?_ | refine go_dend (by kernel_rfl) ?_ | refine go_call [2, 0] hcs (argsIn_lent rfl rfl rfl) rfl rfl rfl ?_) <;> conv => whnf) | ((first | refine Or.inl ?_ | refine go_loadB ?_ | refine ⟨by kernel_rfl, ?_⟩ | refine go_ret ?_) <;> conv => whnf) | refine go_block ?_ | ((first | refine go_skip ?_ | refine go_exit ?_) <;> conv => whnf) | refine go_true rfl ?_ | refine go_false rfl ?_ | refine go_cond rfl (fun h => ?_) (fun h => ?_) | refine ⟨rfl, ?_⟩ | ((first | refine ⟨trivial, ?_⟩ | refine ⟨le_of_ble rfl, ?_⟩) <;> conv => whnf) | fail
    all_goals first
      | exact ret_own rfl rfl rfl rfl rfl (by rw [List.drop_zero, List.take_of_length_le (by simp [hsl])]) (cal_gr _)
      | (exfalso; have h' := of_decide_eq_false h; omega)
      | (exfalso; have h' := of_decide_eq_true h; omega)
      | (exfalso; rename_i hq; have h' := of_decide_eq_true hq; omega)
      | (exfalso; rename_i hq; have h' := of_decide_eq_false hq; omega)
      | (exfalso; rename_i hq _; have h' := of_decide_eq_true hq; omega)
      | (exfalso; rename_i hq _; have h' := of_decide_eq_false hq; omega)
      | trace_state
  | some x =>
    have hlt := lt_of_at hx
    have hr := row_at Trip.enc hx
    obtain ⟨l, hg⟩ := good_of hok hx
    have hlf := hf.1.2.2.2 l (List.mem_of_getElem? hg.on.ln)
    have hol := calsN_len t stop i
    have hb : ((calsN t stop i).map Cal.enc).length + 1 ≤ 1073741824 := by rw [List.length_map]; omega
    have hnx := calsN_next stop hx
    have hd : calOf t stop x = if 0 ≤ plAt l stop then some ⟨stopAt x l (plAt l stop).toNat, x.id⟩ else none := by unfold calOf; rw [hg.on.ln]
    rw [hd] at hnx
    have hc1 := c76 t x l hg.on.lo hg.on.ln
    have hc2 := c77 t x l hg.on.lo hg.on.ln hg.st hlf.2.2
    have hc3 := c75 l.stops stop hlf.2.1
    change CallOk _ _ _ { res := [.imm (.int .i64 (plAt l stop))] } at hc3
    have hrs := hg.rs
    have hpl := plAt_lt l stop
    have hone := cal_one [⟨stopAt x l (plAt l stop).toNat, x.id⟩]
    by_cases hp0 : 0 ≤ plAt l stop
    · have hrow : ((stopsT x l (l.runs.length + 1)).map intRow)[(plAt l stop).toNat]? = some (intRow (stopAt x l (plAt l stop).toNat)) := stopsT_at (by omega)
      rw [if_pos hp0] at hnx
      change _ = _ ++ [_] at hnx
      repeat' first | refine go_seq ?_ | refine go_region ?_ | refine go_draw drawsOk ?_ | ((first | refine go_op rfl ?_ | refine go_nil ?_ | refine go_storeBox rfl rfl rfl rfl rfl rfl ?_ | refine go_dop rfl ?_ | refine go_dend (by kernel_rfl) ?_ | refine go_call [] (hc1) rfl rfl rfl rfl ?_ | refine go_call [] (hc2) rfl rfl rfl rfl ?_ | refine go_call [] (hc3) rfl rfl rfl rfl ?_ | refine go_idx rfl rfl rfl rfl (by omega) hr rfl ?_ | refine go_idx rfl rfl rfl rfl hp0 hrow rfl ?_ | refine go_append (rows2 := [(⟨stopAt x l (plAt l stop).toNat, x.id⟩ : Cal)].map Cal.enc) rfl rfl rfl rfl rfl rfl rfl rfl rfl rfl rfl rfl hone rfl rfl rfl hb ?_) <;> conv => whnf) | ((first | refine Or.inl ?_ | refine go_loadB ?_ | refine ⟨by kernel_rfl, ?_⟩ | refine go_ret ?_) <;> conv => whnf) | refine go_block ?_ | ((first | refine go_skip ?_ | refine go_exit ?_) <;> conv => whnf) | refine go_true rfl ?_ | refine go_false rfl ?_ | refine go_cond rfl (fun h => ?_) (fun h => ?_) | refine ⟨rfl, ?_⟩ | ((first | refine ⟨trivial, ?_⟩ | refine ⟨le_of_ble rfl, ?_⟩) <;> conv => whnf) | fail
      all_goals first
        | (refine go_next (i + 1) (by omega) (by omega) (ref_st (fun y => if y = 1001 then nid 6 35 else y) rfl ⟨rfl, ⟨rfl, rfl⟩, ⟨?_, rfl⟩, rfl, rfl, next_i (by omega), trivial⟩ ⟨⟨rfl, wavs_imm _⟩, ?_, trivial⟩ (by simp [nid]) rfl (by simp))
           · show AV.own _ _ _ = AV.own _ _ _
             rw [hnx, List.map_append, List.length_append]; try rfl
           · show some _ = some _
             rw [hnx, List.map_append]; try rfl
           done)
        | (exfalso; have h' := of_decide_eq_false h; omega)
        | (exfalso; have h' := of_decide_eq_true h; omega)
        | (exfalso; rename_i hq; have h' := of_decide_eq_true hq; omega)
        | (exfalso; rename_i hq; have h' := of_decide_eq_false hq; omega)
        | (exfalso; rename_i hq _; have h' := of_decide_eq_true hq; omega)
        | (exfalso; rename_i hq _; have h' := of_decide_eq_false hq; omega)
        | (exfalso; simp at h; omega)
        | trace_state
    · rw [if_neg hp0] at hnx
      change _ = _ ++ [] at hnx
      repeat' first | refine go_seq ?_ | refine go_region ?_ | refine go_draw drawsOk ?_ | ((first | refine go_op rfl ?_ | refine go_nil ?_ | refine go_storeBox rfl rfl rfl rfl rfl rfl ?_ | refine go_dop rfl ?_ | refine go_dend (by kernel_rfl) ?_ | refine go_call [] (hc1) rfl rfl rfl rfl ?_ | refine go_call [] (hc2) rfl rfl rfl rfl ?_ | refine go_call [] (hc3) rfl rfl rfl rfl ?_ | refine go_idx rfl rfl rfl rfl (by omega) hr rfl ?_) <;> conv => whnf) | ((first | refine Or.inl ?_ | refine go_loadB ?_ | refine ⟨by kernel_rfl, ?_⟩ | refine go_ret ?_) <;> conv => whnf) | refine go_block ?_ | ((first | refine go_skip ?_ | refine go_exit ?_) <;> conv => whnf) | refine go_true rfl ?_ | refine go_false rfl ?_ | refine go_cond rfl (fun h => ?_) (fun h => ?_) | refine ⟨rfl, ?_⟩ | ((first | refine ⟨trivial, ?_⟩ | refine ⟨le_of_ble rfl, ?_⟩) <;> conv => whnf) | fail
      all_goals first
        | (refine go_next (i + 1) (by omega) (by omega) (ref_st id rfl ⟨rfl, ⟨rfl, rfl⟩, ⟨?_, rfl⟩, rfl, rfl, next_i (by omega), trivial⟩ ⟨⟨rfl, wavs_imm _⟩, ?_, trivial⟩ (by simp) rfl (by simp))
           · show AV.own _ _ _ = AV.own _ _ _
             rw [hnx, List.append_nil]; try rfl
           · show some _ = some _
             rw [hnx, List.append_nil]; try rfl
           done)
        | (exfalso; have h' := of_decide_eq_false h; omega)
        | (exfalso; have h' := of_decide_eq_true h; omega)
        | (exfalso; rename_i hq; have h' := of_decide_eq_true hq; omega)
        | (exfalso; rename_i hq; have h' := of_decide_eq_false hq; omega)
        | (exfalso; rename_i hq _; have h' := of_decide_eq_true hq; omega)
        | (exfalso; rename_i hq _; have h' := of_decide_eq_false hq; omega)
        | (exfalso; simp at h; omega)
        | trace_state

theorem c45 (t : Timetable) (hf : t.fit) (hok : ttOk t = true) (stop : Int) : CallOk Tryz.prog 45 [.imm (.agg t.enc), .imm (.int .i64 stop)] { res := [.imm (.list ((flat2 (cals t stop)).map intRow))] } := by
  refine callOk_of tyOk Tryz.func45 rfl rfl (le_of_ble rfl) (le_of_ble rfl) (mutOk_imm rfl _) ?_
  have hnt : t.trips.length ≤ 1048576 := hf.2.1
  have htl : (t.trips.map Trip.enc).length = t.trips.length := List.length_map _
  repeat' first | refine go_seq ?_ | refine go_region ?_ | refine go_draw drawsOk ?_ | ((first | refine go_op rfl ?_ | refine go_nil ?_ | refine go_dop rfl ?_ | refine go_dend (by kernel_rfl) ?_) <;> conv => whnf) | ((first | refine go_loadB ?_ | refine ⟨by kernel_rfl, ?_⟩ | refine go_ret ?_) <;> conv => whnf) | refine go_block ?_ | ((first | refine go_skip ?_ | refine go_exit ?_) <;> conv => whnf) | refine go_true rfl ?_ | refine go_false rfl ?_ | refine go_cond rfl (fun h => ?_) (fun h => ?_) | refine ⟨rfl, ?_⟩ | ((first | refine ⟨trivial, ?_⟩ | refine ⟨le_of_ble rfl, ?_⟩) <;> conv => whnf) | fail
  refine go_loop (α := Nat) (fun i => i ≤ t.trips.length) (fun i => t.trips.length - i)
    (fun i => st Tryz.f45.ntmps [(1, .imm (.int .i64 stop)), (2, .box 1000 0), (5, .own 1001 0 ((flat2 (calsN t stop i)).map intRow).length), (6, .imm (.int .i64 (i : Nat)))]
      [(1000, .box 40 (t.enc.map .imm)), (1001, .arr 3 1 ((flat2 (calsN t stop i)).map intRow))] []) 0 (Nat.zero_le _) ?_ ?_
  · exact ref_st (fun y => if y = 1000 then nid 1 2 else nid 2 8) rfl ⟨rfl, ⟨rfl, rfl⟩, ⟨rfl, rfl⟩, rfl, trivial⟩ ⟨⟨rfl, wavs_imm _⟩, rfl, trivial⟩ (by simp [nid]) rfl (by simp)
  intro i hi
  cases hx : t.trips[i]? with
  | none =>
    have hge := le_of_at hx
    rw [cals_all stop hge]
    repeat' first | refine go_seq ?_ | refine go_region ?_ | refine go_draw drawsOk ?_ | ((first | refine go_op rfl ?_ | refine go_nil ?_ | refine go_dop rfl ?_ | refine go_dend (by kernel_rfl) ?_) <;> conv => whnf) | ((first | refine go_loadB ?_ | refine ⟨by kernel_rfl, ?_⟩ | refine go_ret ?_) <;> conv => whnf) | refine go_block ?_ | ((first | refine go_skip ?_ | refine go_exit ?_) <;> conv => whnf) | refine go_true rfl ?_ | refine go_false rfl ?_ | refine go_cond rfl (fun h => ?_) (fun h => ?_) | refine ⟨rfl, ?_⟩ | ((first | refine ⟨trivial, ?_⟩ | refine ⟨le_of_ble rfl, ?_⟩) <;> conv => whnf) | fail
    all_goals first
      | exact ret_own rfl rfl rfl rfl rfl (by rw [List.drop_zero, List.take_length]) (int_gr _)
      | (exfalso; have h' := of_decide_eq_false h; omega)
      | (exfalso; have h' := of_decide_eq_true h; omega)
      | (exfalso; rename_i hq; have h' := of_decide_eq_true hq; omega)
      | (exfalso; rename_i hq; have h' := of_decide_eq_false hq; omega)
      | (exfalso; rename_i hq _; have h' := of_decide_eq_true hq; omega)
      | (exfalso; rename_i hq _; have h' := of_decide_eq_false hq; omega)
      | (exfalso; simp at h; omega)
      | trace_state
  | some x =>
    have hlt := lt_of_at hx
    have hr := row_at Trip.enc hx
    obtain ⟨l, hg⟩ := good_of hok hx
    have hlf := hf.1.2.2.2 l (List.mem_of_getElem? hg.on.ln)
    have hol := calsN_len t stop i
    have hb : ((flat2 (calsN t stop i)).map intRow).length + 2 ≤ 1073741824 := by rw [List.length_map, flat2_len]; omega
    have hnx := calsN_next stop hx
    have hd : calOf t stop x = if 0 ≤ plAt l stop then some ⟨stopAt x l (plAt l stop).toNat, x.id⟩ else none := by unfold calOf; rw [hg.on.ln]
    rw [hd] at hnx
    have hc1 := c73 hg.on
    have hc2 := c72 l stop hlf.2.1
    change CallOk _ _ _ { res := [.imm (.int .i64 (plAt l stop))] } at hc2
    have hrs := hg.rs
    have hpl := plAt_lt l stop
    by_cases hp0 : 0 ≤ plAt l stop
    · obtain ⟨k, hk⟩ : ∃ k : Nat, plAt l stop = k := ⟨(plAt l stop).toNat, by omega⟩
      have hc3 := c74 hg.on k (by omega) hlf.2.2
      rw [hk] at hc2
      rw [if_pos hp0, hk] at hnx
      change _ = _ ++ [(⟨stopAt x l k, x.id⟩ : Cal)] at hnx
      have hone := int_one [x.id, stopAt x l k]
      repeat' first | refine go_seq ?_ | refine go_region ?_ | refine go_draw drawsOk ?_ | ((first | refine go_op rfl ?_ | refine go_nil ?_ | refine go_dop rfl ?_ | refine go_dend (by kernel_rfl) ?_ | refine go_call [] (hc1) rfl rfl rfl rfl ?_ | refine go_call [] (hc2) rfl rfl rfl rfl ?_ | refine go_call [] (hc3) rfl rfl rfl rfl ?_ | refine go_idx rfl rfl rfl rfl (by omega) hr rfl ?_ | refine go_append (rows2 := [x.id, stopAt x l k].map intRow) rfl rfl rfl rfl rfl rfl rfl rfl rfl rfl rfl rfl hone rfl rfl rfl hb ?_) <;> conv => whnf) | ((first | refine go_loadB ?_ | refine ⟨by kernel_rfl, ?_⟩ | refine go_ret ?_) <;> conv => whnf) | refine go_block ?_ | ((first | refine go_skip ?_ | refine go_exit ?_) <;> conv => whnf) | refine go_true rfl ?_ | refine go_false rfl ?_ | refine go_cond rfl (fun h => ?_) (fun h => ?_) | refine ⟨rfl, ?_⟩ | ((first | refine ⟨trivial, ?_⟩ | refine ⟨le_of_ble rfl, ?_⟩) <;> conv => whnf) | fail
      all_goals first
        | (refine go_next (i + 1) (by omega) (by omega) (ref_st (fun y => if y = 1001 then nid 5 35 else y) rfl ⟨rfl, ⟨rfl, rfl⟩, ⟨?_, rfl⟩, next_i (by omega), trivial⟩ ⟨⟨rfl, wavs_imm _⟩, ?_, trivial⟩ (by simp [nid]) rfl (by simp))
           · show AV.own _ _ _ = AV.own _ _ _
             rw [hnx, flat2_append, List.map_append, List.length_append]; try rfl
           · show some _ = some _
             rw [hnx, flat2_append, List.map_append]; try rfl
           done)
        | (exfalso; have h' := of_decide_eq_false h; omega)
        | (exfalso; have h' := of_decide_eq_true h; omega)
        | (exfalso; rename_i hq; have h' := of_decide_eq_true hq; omega)
        | (exfalso; rename_i hq; have h' := of_decide_eq_false hq; omega)
        | (exfalso; rename_i hq _; have h' := of_decide_eq_true hq; omega)
        | (exfalso; rename_i hq _; have h' := of_decide_eq_false hq; omega)
        | (exfalso; simp at h; omega)
        | trace_state
    · rw [if_neg hp0] at hnx
      change _ = _ ++ [] at hnx
      repeat' first | refine go_seq ?_ | refine go_region ?_ | refine go_draw drawsOk ?_ | ((first | refine go_op rfl ?_ | refine go_nil ?_ | refine go_dop rfl ?_ | refine go_dend (by kernel_rfl) ?_ | refine go_call [] (hc1) rfl rfl rfl rfl ?_ | refine go_call [] (hc2) rfl rfl rfl rfl ?_ | refine go_idx rfl rfl rfl rfl (by omega) hr rfl ?_) <;> conv => whnf) | ((first | refine go_loadB ?_ | refine ⟨by kernel_rfl, ?_⟩ | refine go_ret ?_) <;> conv => whnf) | refine go_block ?_ | ((first | refine go_skip ?_ | refine go_exit ?_) <;> conv => whnf) | refine go_true rfl ?_ | refine go_false rfl ?_ | refine go_cond rfl (fun h => ?_) (fun h => ?_) | refine ⟨rfl, ?_⟩ | ((first | refine ⟨trivial, ?_⟩ | refine ⟨le_of_ble rfl, ?_⟩) <;> conv => whnf) | fail
      all_goals first
        | (refine go_next (i + 1) (by omega) (by omega) (ref_st id rfl ⟨rfl, ⟨rfl, rfl⟩, ⟨?_, rfl⟩, next_i (by omega), trivial⟩ ⟨⟨rfl, wavs_imm _⟩, ?_, trivial⟩ (by simp) rfl (by simp))
           · show AV.own _ _ _ = AV.own _ _ _
             rw [hnx, List.append_nil]; try rfl
           · show some _ = some _
             rw [hnx, List.append_nil]; try rfl
           done)
        | (exfalso; have h' := of_decide_eq_false h; omega)
        | (exfalso; have h' := of_decide_eq_true h; omega)
        | (exfalso; rename_i hq; have h' := of_decide_eq_true hq; omega)
        | (exfalso; rename_i hq; have h' := of_decide_eq_false hq; omega)
        | (exfalso; rename_i hq _; have h' := of_decide_eq_true hq; omega)
        | (exfalso; rename_i hq _; have h' := of_decide_eq_false hq; omega)
        | (exfalso; simp at h; omega)
        | trace_state

/-! Lists compared. -/

theorem eq_all {α : Type} [DecidableEq α] {xs ys : List α} (hl : xs.length = ys.length) (h : xs.take xs.length = ys.take xs.length) : decide (xs = ys) = true := by
  rw [List.take_length, List.take_of_length_le (by omega)] at h
  exact decide_eq_true h
theorem eq_no {α : Type} [DecidableEq α] {xs ys : List α} {i : Nat} {x y : α} (hx : xs[i]? = some x) (hy : ys[i]? = some y) (h : x ≠ y) : decide (xs = ys) = false := by
  refine decide_eq_false fun e => h ?_
  rw [e, hy] at hx
  injection hx with hx
  exact hx.symm
theorem eq_next {α : Type} {xs ys : List α} {i : Nat} {x : α} (hx : xs[i]? = some x) (hy : ys[i]? = some x) (h : xs.take i = ys.take i) : xs.take (i + 1) = ys.take (i + 1) := by
  rw [List.take_add_one, List.take_add_one, hx, hy, h]

theorem c47 (xs ys : List Cal) (_ : xs.length ≤ 1048576) (hly : ys.length ≤ 1048576) : CallOk Tryz.prog 47 [.imm (.list (xs.map Cal.enc)), .imm (.list (ys.map Cal.enc))] { res := [.imm (.bool (decide (xs = ys)))] } := by
  refine callOk_of tyOk Tryz.func47 rfl rfl (le_of_ble rfl) (le_of_ble rfl) (mutOk_imm rfl _) ?_
  have m1 : (xs.map Cal.enc).length = xs.length := List.length_map _
  have m2 : (ys.map Cal.enc).length = ys.length := List.length_map _
  by_cases hlen : xs.length = ys.length
  case neg =>
    have hne : decide (xs = ys) = false := decide_eq_false fun e => hlen (by rw [e])
    rw [hne]
    repeat' first | refine go_seq ?_ | refine go_region ?_ | refine go_draw drawsOk ?_ | ((first | refine go_op rfl ?_ | refine go_nil ?_ | refine go_dop rfl ?_ | refine go_dend (by kernel_rfl) ?_) <;> conv => whnf) | ((first | refine go_loadB ?_ | refine ⟨by kernel_rfl, ?_⟩ | refine go_ret ?_) <;> conv => whnf) | refine go_block ?_ | ((first | refine go_skip ?_ | refine go_exit ?_) <;> conv => whnf) | refine go_true rfl ?_ | refine go_false rfl ?_ | refine go_cond rfl (fun h => ?_) (fun h => ?_) | refine ⟨rfl, ?_⟩ | ((first | refine ⟨trivial, ?_⟩ | refine ⟨le_of_ble rfl, ?_⟩) <;> conv => whnf) | fail
    all_goals first
      | exact ret_imm rfl rfl rfl rfl rfl rfl
      | (exfalso; have h' := of_decide_eq_false h; omega)
      | (exfalso; have h' := of_decide_eq_true h; omega)
      | (exfalso; rename_i hq; have h' := of_decide_eq_true hq; omega)
      | (exfalso; rename_i hq; have h' := of_decide_eq_false hq; omega)
      | (exfalso; rename_i hq _; have h' := of_decide_eq_true hq; omega)
      | (exfalso; rename_i hq _; have h' := of_decide_eq_false hq; omega)
      | (exfalso; simp at h; omega)
      | trace_state
  repeat' first | refine go_seq ?_ | refine go_region ?_ | refine go_draw drawsOk ?_ | ((first | refine go_op rfl ?_ | refine go_nil ?_ | refine go_dop rfl ?_ | refine go_dend (by kernel_rfl) ?_) <;> conv => whnf) | ((first | refine go_loadB ?_ | refine ⟨by kernel_rfl, ?_⟩ | refine go_ret ?_) <;> conv => whnf) | refine go_block ?_ | ((first | refine go_skip ?_ | refine go_exit ?_) <;> conv => whnf) | refine go_true rfl ?_ | refine go_false rfl ?_ | refine go_cond rfl (fun h => ?_) (fun h => ?_) | refine ⟨rfl, ?_⟩ | ((first | refine ⟨trivial, ?_⟩ | refine ⟨le_of_ble rfl, ?_⟩) <;> conv => whnf) | fail
  all_goals try first
    | (exfalso; have h' := of_decide_eq_false h; omega)
    | (exfalso; have h' := of_decide_eq_true h; omega)
    | (exfalso; rename_i hq; have h' := of_decide_eq_true hq; omega)
    | (exfalso; rename_i hq; have h' := of_decide_eq_false hq; omega)
    | (exfalso; rename_i hq _; have h' := of_decide_eq_true hq; omega)
    | (exfalso; rename_i hq _; have h' := of_decide_eq_false hq; omega)
    | (exfalso; simp at h; omega)
  refine go_loop (α := Nat) (fun i => i ≤ xs.length ∧ xs.take i = ys.take i) (fun i => xs.length - i)
    (fun i => st Tryz.f47.ntmps [(0, .imm (.list (xs.map Cal.enc))), (1, .imm (.list (ys.map Cal.enc))), (12, .imm (.int .i64 (xs.map Cal.enc).length)), (13, .imm (.int .i64 (i : Nat)))] [] []) 0 ⟨Nat.zero_le _, rfl⟩
    (ref_st0 rfl ⟨rfl, rfl, rfl, rfl, trivial⟩ rfl) ?_
  rintro i ⟨hi, ht⟩
  cases hx : xs[i]? with
  | none =>
    have hge := le_of_at hx
    have hin : i = xs.length := by omega
    rw [hin] at ht
    rw [eq_all hlen ht]
    repeat' first | refine go_seq ?_ | refine go_region ?_ | refine go_draw drawsOk ?_ | ((first | refine go_op rfl ?_ | refine go_nil ?_ | refine go_dop rfl ?_ | refine go_dend (by kernel_rfl) ?_) <;> conv => whnf) | ((first | refine go_loadB ?_ | refine ⟨by kernel_rfl, ?_⟩ | refine go_ret ?_) <;> conv => whnf) | refine go_block ?_ | ((first | refine go_skip ?_ | refine go_exit ?_) <;> conv => whnf) | refine go_true rfl ?_ | refine go_false rfl ?_ | refine go_cond rfl (fun h => ?_) (fun h => ?_) | refine ⟨rfl, ?_⟩ | ((first | refine ⟨trivial, ?_⟩ | refine ⟨le_of_ble rfl, ?_⟩) <;> conv => whnf) | fail
    all_goals first
      | exact ret_imm rfl rfl rfl rfl rfl rfl
      | (exfalso; have h' := of_decide_eq_false h; omega)
      | (exfalso; have h' := of_decide_eq_true h; omega)
      | (exfalso; rename_i hq; have h' := of_decide_eq_true hq; omega)
      | (exfalso; rename_i hq; have h' := of_decide_eq_false hq; omega)
      | (exfalso; rename_i hq _; have h' := of_decide_eq_true hq; omega)
      | (exfalso; rename_i hq _; have h' := of_decide_eq_false hq; omega)
      | (exfalso; simp at h; omega)
      | trace_state
  | some x =>
    have hlt := lt_of_at hx
    obtain ⟨y, hy⟩ : ∃ y, ys[i]? = some y := ⟨_, List.getElem?_eq_getElem (by omega)⟩
    have hrx := row_at Cal.enc hx
    have hry := row_at Cal.enc hy
    by_cases hxy : x = y
    · subst hxy
      repeat' first | refine go_seq ?_ | refine go_region ?_ | refine go_draw drawsOk ?_ | ((first | refine go_op rfl ?_ | refine go_nil ?_ | refine go_dop rfl ?_ | refine go_dend (by kernel_rfl) ?_ | refine go_idx (r := x.enc) rfl rfl rfl rfl (by omega) hrx rfl ?_ | refine go_idx (r := x.enc) rfl rfl rfl rfl (by omega) hry rfl ?_) <;> conv => whnf) | ((first | refine go_loadB ?_ | refine ⟨by kernel_rfl, ?_⟩ | refine go_ret ?_) <;> conv => whnf) | refine go_block ?_ | ((first | refine go_skip ?_ | refine go_exit ?_) <;> conv => whnf) | refine go_true rfl ?_ | refine go_false rfl ?_ | refine go_cond rfl (fun h => ?_) (fun h => ?_) | refine ⟨rfl, ?_⟩ | ((first | refine ⟨trivial, ?_⟩ | refine ⟨le_of_ble rfl, ?_⟩) <;> conv => whnf) | fail
      all_goals first
        | exact go_next (i + 1) ⟨by omega, eq_next hx hy ht⟩ (by omega) (ref_st0 rfl ⟨rfl, rfl, rfl, next_i (by omega), trivial⟩ rfl)
        | (exfalso; have h' := of_decide_eq_false h; omega)
        | (exfalso; have h' := of_decide_eq_true h; omega)
        | (exfalso; rename_i hq; have h' := of_decide_eq_true hq; omega)
        | (exfalso; rename_i hq; have h' := of_decide_eq_false hq; omega)
        | (exfalso; rename_i hq _; have h' := of_decide_eq_true hq; omega)
        | (exfalso; rename_i hq _; have h' := of_decide_eq_false hq; omega)
        | (exfalso; simp at h; done)
        | (exfalso; simp at h; omega)
        | trace_state
    · rw [eq_no hx hy hxy]
      rw [cal_eq] at hxy
      repeat' first | refine go_seq ?_ | refine go_region ?_ | refine go_draw drawsOk ?_ | ((first | refine go_op rfl ?_ | refine go_nil ?_ | refine go_dop rfl ?_ | refine go_dend (by kernel_rfl) ?_ | refine go_idx (r := x.enc) rfl rfl rfl rfl (by omega) hrx rfl ?_ | refine go_idx (r := y.enc) rfl rfl rfl rfl (by omega) hry rfl ?_) <;> conv => whnf) | ((first | refine go_loadB ?_ | refine ⟨by kernel_rfl, ?_⟩ | refine go_ret ?_) <;> conv => whnf) | refine go_block ?_ | ((first | refine go_skip ?_ | refine go_exit ?_) <;> conv => whnf) | refine go_true rfl ?_ | refine go_false rfl ?_ | refine go_cond rfl (fun h => ?_) (fun h => ?_) | refine ⟨rfl, ?_⟩ | ((first | refine ⟨trivial, ?_⟩ | refine ⟨le_of_ble rfl, ?_⟩) <;> conv => whnf) | fail
      all_goals first
        | exact ret_imm rfl rfl rfl rfl rfl rfl
        | (exfalso; simp at h; exact hxy h)
        | (exfalso; simp at h; omega)
        | (exfalso; have h' := of_decide_eq_false h; omega)
        | (exfalso; have h' := of_decide_eq_true h; omega)
        | (exfalso; rename_i hq; have h' := of_decide_eq_true hq; omega)
        | (exfalso; rename_i hq; have h' := of_decide_eq_false hq; omega)
        | (exfalso; rename_i hq _; have h' := of_decide_eq_true hq; omega)
        | (exfalso; rename_i hq _; have h' := of_decide_eq_false hq; omega)
        | trace_state

theorem c44 (xs ys : List Int) (_ : xs.length ≤ 4194304) (hly : ys.length ≤ 4194304) : CallOk Tryz.prog 44 [.imm (.list (xs.map intRow)), .imm (.list (ys.map intRow))] { res := [.imm (.bool (decide (xs = ys)))] } := by
  refine callOk_of tyOk Tryz.func44 rfl rfl (le_of_ble rfl) (le_of_ble rfl) (mutOk_imm rfl _) ?_
  have m1 : (xs.map intRow).length = xs.length := List.length_map _
  have m2 : (ys.map intRow).length = ys.length := List.length_map _
  by_cases hlen : xs.length = ys.length
  case neg =>
    have hne : decide (xs = ys) = false := decide_eq_false fun e => hlen (by rw [e])
    rw [hne]
    repeat' first | refine go_seq ?_ | refine go_region ?_ | refine go_draw drawsOk ?_ | ((first | refine go_op rfl ?_ | refine go_nil ?_ | refine go_dop rfl ?_ | refine go_dend (by kernel_rfl) ?_) <;> conv => whnf) | ((first | refine go_loadB ?_ | refine ⟨by kernel_rfl, ?_⟩ | refine go_ret ?_) <;> conv => whnf) | refine go_block ?_ | ((first | refine go_skip ?_ | refine go_exit ?_) <;> conv => whnf) | refine go_true rfl ?_ | refine go_false rfl ?_ | refine go_cond rfl (fun h => ?_) (fun h => ?_) | refine ⟨rfl, ?_⟩ | ((first | refine ⟨trivial, ?_⟩ | refine ⟨le_of_ble rfl, ?_⟩) <;> conv => whnf) | fail
    all_goals first
      | exact ret_imm rfl rfl rfl rfl rfl rfl
      | (exfalso; have h' := of_decide_eq_false h; omega)
      | (exfalso; have h' := of_decide_eq_true h; omega)
      | (exfalso; rename_i hq; have h' := of_decide_eq_true hq; omega)
      | (exfalso; rename_i hq; have h' := of_decide_eq_false hq; omega)
      | (exfalso; rename_i hq _; have h' := of_decide_eq_true hq; omega)
      | (exfalso; rename_i hq _; have h' := of_decide_eq_false hq; omega)
      | (exfalso; simp at h; omega)
      | trace_state
  repeat' first | refine go_seq ?_ | refine go_region ?_ | refine go_draw drawsOk ?_ | ((first | refine go_op rfl ?_ | refine go_nil ?_ | refine go_dop rfl ?_ | refine go_dend (by kernel_rfl) ?_) <;> conv => whnf) | ((first | refine go_loadB ?_ | refine ⟨by kernel_rfl, ?_⟩ | refine go_ret ?_) <;> conv => whnf) | refine go_block ?_ | ((first | refine go_skip ?_ | refine go_exit ?_) <;> conv => whnf) | refine go_true rfl ?_ | refine go_false rfl ?_ | refine go_cond rfl (fun h => ?_) (fun h => ?_) | refine ⟨rfl, ?_⟩ | ((first | refine ⟨trivial, ?_⟩ | refine ⟨le_of_ble rfl, ?_⟩) <;> conv => whnf) | fail
  all_goals try first
    | (exfalso; have h' := of_decide_eq_false h; omega)
    | (exfalso; have h' := of_decide_eq_true h; omega)
    | (exfalso; rename_i hq; have h' := of_decide_eq_true hq; omega)
    | (exfalso; rename_i hq; have h' := of_decide_eq_false hq; omega)
    | (exfalso; rename_i hq _; have h' := of_decide_eq_true hq; omega)
    | (exfalso; rename_i hq _; have h' := of_decide_eq_false hq; omega)
    | (exfalso; simp at h; omega)
  refine go_loop (α := Nat) (fun i => i ≤ xs.length ∧ xs.take i = ys.take i) (fun i => xs.length - i)
    (fun i => st Tryz.f44.ntmps [(0, .imm (.list (xs.map intRow))), (1, .imm (.list (ys.map intRow))), (5, .imm (.int .i64 (i : Nat)))] [] []) 0 ⟨Nat.zero_le _, rfl⟩
    (ref_st0 rfl ⟨rfl, rfl, rfl, trivial⟩ rfl) ?_
  rintro i ⟨hi, ht⟩
  cases hx : xs[i]? with
  | none =>
    have hge := le_of_at hx
    have hin : i = xs.length := by omega
    rw [hin] at ht
    rw [eq_all hlen ht]
    repeat' first | refine go_seq ?_ | refine go_region ?_ | refine go_draw drawsOk ?_ | ((first | refine go_op rfl ?_ | refine go_nil ?_ | refine go_dop rfl ?_ | refine go_dend (by kernel_rfl) ?_) <;> conv => whnf) | ((first | refine go_loadB ?_ | refine ⟨by kernel_rfl, ?_⟩ | refine go_ret ?_) <;> conv => whnf) | refine go_block ?_ | ((first | refine go_skip ?_ | refine go_exit ?_) <;> conv => whnf) | refine go_true rfl ?_ | refine go_false rfl ?_ | refine go_cond rfl (fun h => ?_) (fun h => ?_) | refine ⟨rfl, ?_⟩ | ((first | refine ⟨trivial, ?_⟩ | refine ⟨le_of_ble rfl, ?_⟩) <;> conv => whnf) | fail
    all_goals first
      | exact ret_imm rfl rfl rfl rfl rfl rfl
      | (exfalso; have h' := of_decide_eq_false h; omega)
      | (exfalso; have h' := of_decide_eq_true h; omega)
      | (exfalso; rename_i hq; have h' := of_decide_eq_true hq; omega)
      | (exfalso; rename_i hq; have h' := of_decide_eq_false hq; omega)
      | (exfalso; rename_i hq _; have h' := of_decide_eq_true hq; omega)
      | (exfalso; rename_i hq _; have h' := of_decide_eq_false hq; omega)
      | (exfalso; simp at h; omega)
      | trace_state
  | some x =>
    have hlt := lt_of_at hx
    obtain ⟨y, hy⟩ : ∃ y, ys[i]? = some y := ⟨_, List.getElem?_eq_getElem (by omega)⟩
    have hrx := row_at intRow hx
    have hry := row_at intRow hy
    by_cases hxy : x = y
    · subst hxy
      repeat' first | refine go_seq ?_ | refine go_region ?_ | refine go_draw drawsOk ?_ | ((first | refine go_op rfl ?_ | refine go_nil ?_ | refine go_dop rfl ?_ | refine go_dend (by kernel_rfl) ?_ | refine go_idx (r := intRow x) rfl rfl rfl rfl (by omega) hrx rfl ?_ | refine go_idx (r := intRow x) rfl rfl rfl rfl (by omega) hry rfl ?_) <;> conv => whnf) | ((first | refine go_loadB ?_ | refine ⟨by kernel_rfl, ?_⟩ | refine go_ret ?_) <;> conv => whnf) | refine go_block ?_ | ((first | refine go_skip ?_ | refine go_exit ?_) <;> conv => whnf) | refine go_true rfl ?_ | refine go_false rfl ?_ | refine go_cond rfl (fun h => ?_) (fun h => ?_) | refine ⟨rfl, ?_⟩ | ((first | refine ⟨trivial, ?_⟩ | refine ⟨le_of_ble rfl, ?_⟩) <;> conv => whnf) | fail
      all_goals first
        | exact go_next (i + 1) ⟨by omega, eq_next hx hy ht⟩ (by omega) (ref_st0 rfl ⟨rfl, rfl, next_i (by omega), trivial⟩ rfl)
        | (exfalso; have h' := of_decide_eq_false h; omega)
        | (exfalso; have h' := of_decide_eq_true h; omega)
        | (exfalso; rename_i hq; have h' := of_decide_eq_true hq; omega)
        | (exfalso; rename_i hq; have h' := of_decide_eq_false hq; omega)
        | (exfalso; rename_i hq _; have h' := of_decide_eq_true hq; omega)
        | (exfalso; rename_i hq _; have h' := of_decide_eq_false hq; omega)
        | (exfalso; simp at h; done)
        | (exfalso; simp at h; omega)
        | trace_state
    · rw [eq_no hx hy hxy]
      repeat' first | refine go_seq ?_ | refine go_region ?_ | refine go_draw drawsOk ?_ | ((first | refine go_op rfl ?_ | refine go_nil ?_ | refine go_dop rfl ?_ | refine go_dend (by kernel_rfl) ?_ | refine go_idx (r := intRow x) rfl rfl rfl rfl (by omega) hrx rfl ?_ | refine go_idx (r := intRow y) rfl rfl rfl rfl (by omega) hry rfl ?_) <;> conv => whnf) | ((first | refine go_loadB ?_ | refine ⟨by kernel_rfl, ?_⟩ | refine go_ret ?_) <;> conv => whnf) | refine go_block ?_ | ((first | refine go_skip ?_ | refine go_exit ?_) <;> conv => whnf) | refine go_true rfl ?_ | refine go_false rfl ?_ | refine go_cond rfl (fun h => ?_) (fun h => ?_) | refine ⟨rfl, ?_⟩ | ((first | refine ⟨trivial, ?_⟩ | refine ⟨le_of_ble rfl, ?_⟩) <;> conv => whnf) | fail
      all_goals first
        | exact ret_imm rfl rfl rfl rfl rfl rfl
        | (exfalso; simp at h; exact hxy h)
        | (exfalso; have h' := of_decide_eq_false h; omega)
        | (exfalso; have h' := of_decide_eq_true h; omega)
        | (exfalso; rename_i hq; have h' := of_decide_eq_true hq; omega)
        | (exfalso; rename_i hq; have h' := of_decide_eq_false hq; omega)
        | (exfalso; rename_i hq _; have h' := of_decide_eq_true hq; omega)
        | (exfalso; rename_i hq _; have h' := of_decide_eq_false hq; omega)
        | (exfalso; simp at h; omega)
        | trace_state
end Go.Proofs.YtcfhmncbfekoaaaGreat

