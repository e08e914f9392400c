/- Timetables copied, trips put in and taken out: the program. -/
import Derived.Test.YtcfhmncbfekoaaaGreatDoorT1
import Derived.Test.YtcfhmncbfekoaaaGreatDoorAmK
namespace Go.Proofs.YtcfhmncbfekoaaaGreatDoor
open Go Go.Am
set_option maxRecDepth 100000
set_option maxHeartbeats 4000000

def insRen : Go.Shelf.Ren := ⟨fun | 22 => 145 | 29 => 171 | 30 => 172 | n => n, fun | 24 => 39 | 9 => 43 | n => n, fun n => n⟩
def delRen : Go.Shelf.Ren := ⟨fun | 24 => 146 | n => n, fun | 24 => 39 | 9 => 43 | n => n, fun n => n⟩

theorem insLays : ∃ i0 z0, InsL Tryz.prog insRen 3 i0 z0 ∧ z0.cells.size = 3 ∧ i0.bytes = 24 := by
  obtain ⟨i0, z0, hi, hs, hb, hz, hza⟩ := TOk.info tyOk (t := 43) rfl
  refine ⟨i0, z0, ?_, ?_, hb⟩
  · exact {
      mixed := by kernel_rfl
      f22 := ⟨Tryz.f145.name, by kernel_rfl, Tryz.func145.trans (congrArg some (by kernel_rfl))⟩
      ovr := fun vs w => run_callFunc_extern Tryz.func171 (by kernel_rfl) (by kernel_rfl) (by kernel_rfl) (e := Extern.SlicesOverlaps.overlaps #[39, 39] #[4]) (by kernel_rfl) vs w
      t0 := Tryz.underlying0
      a0 := Tryz.isAgg0
      z0 := Tryz.sizeOf0
      v0 := Tryz.zeroValue0
      t3 := Tryz.underlying3
      a3 := Tryz.isAgg3
      z3 := Tryz.sizeOf3
      v3 := Tryz.zeroValue3
      t4 := Tryz.underlying4
      a4 := Tryz.isAgg4
      z4 := Tryz.sizeOf4
      v4 := Tryz.zeroValue4
      z9 := Tryz.sizeOf43
      t24 := Tryz.underlying39
      a24 := Tryz.isAgg39
      z24 := Tryz.sizeOf39
      v24 := Tryz.zeroValue39
      i9 := hi
      i9z := hz
      i9s := hs
      pos := by decide }
  · have h1 := (zall_rep default (fun _ => False) _ _ hza).1
    exact (show z0.cells.size = z0.cells.toList.length by simp).trans h1

theorem delLays : ∃ i0 z0, DelL Tryz.prog delRen 3 i0 z0 ∧ z0.cells.size = 3 ∧ ∀ v ∈ z0.cells.toList, v.oneCell' = true := by
  obtain ⟨i0, z0, hi, hs, hb, hz, hza⟩ := TOk.info tyOk (t := 43) rfl
  refine ⟨i0, _, {
      mixed := by kernel_rfl
      f24 := ⟨Tryz.f146.name, by kernel_rfl, Tryz.func146.trans (congrArg some (by kernel_rfl))⟩
      t0 := Tryz.underlying0
      a0 := Tryz.isAgg0
      z0 := Tryz.sizeOf0
      v0 := Tryz.zeroValue0
      t3 := Tryz.underlying3
      a3 := Tryz.isAgg3
      z3 := Tryz.sizeOf3
      v3 := Tryz.zeroValue3
      t4 := Tryz.underlying4
      a4 := Tryz.isAgg4
      z4 := Tryz.sizeOf4
      v4 := Tryz.zeroValue4
      z9 := Tryz.sizeOf43
      v9 := Tryz.zeroValue43
      t24 := Tryz.underlying39
      a24 := Tryz.isAgg39
      z24 := Tryz.sizeOf39
      v24 := Tryz.zeroValue39
      i9 := hi
      i9s := hs
      pos := by decide }, by rfl, by decide⟩

theorem trip_one' (xs : List Trip) : ∀ r ∈ xs.map Trip.enc, r.length = 3 ∧ r.all D.one = true := by
  intro r hr
  obtain ⟨v, _, rfl⟩ := List.mem_map.1 hr
  exact ⟨rfl, rfl⟩
theorem int_one' (xs : List Int) : ∀ r ∈ xs.map intRow, r.length = 1 ∧ r.all D.one = true := by
  intro r hr
  obtain ⟨v, _, rfl⟩ := List.mem_map.1 hr
  exact ⟨rfl, rfl⟩
theorem str_one' (xs : List ByteArray) : ∀ r ∈ xs.map strRow, r.length = 1 ∧ r.all D.one = true := by
  intro r hr
  obtain ⟨v, _, rfl⟩ := List.mem_map.1 hr
  exact ⟨rfl, rfl⟩

attribute [local irreducible] amOps amC opCall opIndexAddr opPick retQ opMake opStore amDraw opAppend opLoad opNilCmp opIndex opSlice

/-- slices.Insert of one trip ahead of another. -/
theorem c145 (xs : List Trip) (x : Trip) (i : Nat) (hi : i < xs.length) (hl : xs.length ≤ 1048576) :
    CallOk Tryz.prog 145 [.arr 43 3 (xs.map Trip.enc), .imm (.int .i64 (i : Int)), .arr 43 3 [x.enc]] { res := [.arr 43 3 ((xs.take i ++ x :: xs.drop i).map Trip.enc)] } := by
  obtain ⟨i0, z0, L, hz, hb⟩ := insLays
  have := callOk_insert L ⟨_, Tryz.func145, by kernel_rfl, rfl⟩ hz (by omega) (rows := xs.map Trip.enc) (x := x.enc) (i := i) (by simpa using hi) (by simpa using hl) rfl (fun r hr => (trip_one' xs r hr).2) rfl (trip_gr xs) rfl
  rw [← List.map_take, ← List.map_drop, show x.enc :: (xs.drop i).map Trip.enc = (x :: xs.drop i).map Trip.enc from rfl, ← List.map_append] at this
  exact this

/-- slices.Insert of one trip behind all others. -/
theorem c145e (xs : List Trip) (x : Trip) (hl : xs.length ≤ 1048576) :
    CallOk Tryz.prog 145 [.arr 43 3 (xs.map Trip.enc), .imm (.int .i64 (xs.length : Int)), .arr 43 3 ([x].map Trip.enc)] { res := [.arr 43 3 ((xs ++ [x]).map Trip.enc)], muts := [.gone, .gone, .arr 43 3 ([x].map Trip.enc)] } := by
  refine callOk_of tyOk Tryz.func145 rfl rfl (le_of_ble rfl) (le_of_ble rfl) ?_ ?_
  · intro k o hk
    match k with
    | 0 => cases hk; exact ⟨O.sub_gone _, .inr (.inr (.inl rfl))⟩
    | 1 => cases hk
    | 2 => cases hk; exact ⟨O.sub_refl _, .inl ⟨_, _, _, rfl⟩⟩
    | k + 3 => cases hk
  have hk : xs.length ≤ (xs.map Trip.enc).length := by rw [List.length_map]; exact Nat.le_refl _
  have hone := trip_one [x]
  have hb : (xs.map Trip.enc).length + 1 ≤ 1073741824 := by rw [List.length_map]; omega
  repeat' first | refine go_seq ?_ | refine go_region ?_ | refine go_draw drawsOk ?_ | ((first | refine go_op rfl ?_ | refine go_nil ?_ | refine go_dop rfl ?_ | refine go_dend (by kernel_rfl) ?_ | refine go_sliceFrom (k := xs.length) rfl rfl rfl rfl rfl rfl hk ?_ | refine go_append (rows2 := [x].map Trip.enc) rfl rfl rfl rfl rfl rfl rfl rfl rfl rfl rfl rfl hone rfl rfl rfl hb ?_) <;> conv => whnf) | ((first | refine ⟨by kernel_rfl, ?_⟩ | refine go_ret ?_) <;> conv => whnf) | ((first | refine go_skip ?_) <;> conv => whnf) | refine go_true rfl ?_ | refine go_false rfl ?_ | refine go_cond rfl (fun h => ?_) (fun h => ?_) | refine ⟨rfl, ?_⟩ | ((first | refine ⟨trivial, ?_⟩ | refine ⟨le_of_ble rfl, ?_⟩) <;> conv => whnf) | fail
  all_goals first
    | (refine ret_all rfl ⟨ret1_arr rfl ?_ ?_ ?_, trivial⟩ ?_ ?_ ?_
       · rw [List.drop_zero, ← List.map_append, List.take_of_length_le (by simp)]
       · exact trip_gr _
       · show nid _ _ ∉ [0, 2]
         simp [nid]
       · exact List.nodup_cons.2 ⟨by simp [ownIds], List.nodup_nil⟩
       · show [0, 2].Nodup
         decide
       · exact ⟨rfl, fun _ => rfl, rfl, fun _ => rfl, trivial⟩
       done)
    | (exfalso; simp at h; done)
    | (exfalso; have h' := of_decide_eq_false h; omega)
    | (exfalso; have h' := of_decide_eq_true h; omega)
    | (exfalso; rename_i hq; have h' := of_decide_eq_true hq; omega)
    | (exfalso; rename_i hq; have h' := of_decide_eq_false hq; omega)
    | (exfalso; rename_i hq _; have h' := of_decide_eq_true hq; omega)
    | (exfalso; rename_i hq _; have h' := of_decide_eq_false hq; omega)
    | trace_state

theorem c146 (xs : List Trip) (i : Nat) (hi : i < xs.length) :
    CallOk Tryz.prog 146 [.arr 43 3 (xs.map Trip.enc), .imm (.int .i64 (i : Int)), .imm (.int .i64 ((i + 1 : Nat) : Int))] { res := [.arr 43 3 ((xs.take i ++ xs.drop (i + 1)).map Trip.enc)] } := by
  obtain ⟨i0, z0, L, hz, hz1⟩ := delLays
  have := callOk_delete L ⟨_, Tryz.func146, by kernel_rfl, rfl⟩ hz hz1 (rows := xs.map Trip.enc) (i := i) (by simpa using hi) (fun r hr => (trip_one' xs r hr).2) (trip_gr xs)
  rw [← List.map_take, ← List.map_drop, ← List.map_append] at this
  exact this

theorem c184 (xs : List Int) (hl : xs.length ≤ 1048576) : CallOk Tryz.prog 184 [.imm (.list (xs.map intRow))] { res := [.imm (.list (xs.map intRow))] } := by
  refine callOk_of tyOk Tryz.func184 rfl rfl (le_of_ble rfl) (le_of_ble rfl) (mutOk_imm rfl _) ?_
  have hbd : (List.replicate 0 (ty3.zero)).length + (xs.map intRow).length ≤ 1073741824 := by simp; omega
  repeat' first | refine go_seq ?_ | refine go_region ?_ | ((first | refine go_op rfl ?_ | refine go_nil ?_ | refine go_nilImm rfl rfl (fun b hb => ?_) | refine go_appImm rfl rfl rfl rfl rfl rfl rfl rfl rfl (int_one' _) rfl rfl hbd ?_) <;> conv => whnf) | ((first | refine ⟨by kernel_rfl, ?_⟩ | refine go_ret ?_) <;> conv => whnf) | ((first | refine go_skip ?_) <;> conv => whnf) | refine go_true rfl ?_ | refine go_false rfl ?_ | refine go_cond rfl (fun h => ?_) (fun h => ?_) | refine ⟨rfl, ?_⟩ | ((first | refine ⟨trivial, ?_⟩ | refine ⟨le_of_ble rfl, ?_⟩) <;> conv => whnf) | fail
  · have hnil : xs.map intRow = [] := by
      by_cases e : xs.map intRow = []
      · exact e
      · rw [hb e] at h; cases h
    exact ret_own rfl rfl rfl rfl rfl (by rw [hnil]; rfl) (int_gr _)
  · exact ret_own rfl rfl rfl rfl rfl (by simp only [List.replicate_zero, List.nil_append, Nat.zero_add, List.drop_zero, List.take_length]) (int_gr _)

theorem c169 (xs : List ByteArray) (hl : xs.length ≤ 1048576) : CallOk Tryz.prog 169 [.imm (.list (xs.map strRow))] { res := [.imm (.list (xs.map strRow))] } := by
  refine callOk_of tyOk Tryz.func169 rfl rfl (le_of_ble rfl) (le_of_ble rfl) (mutOk_imm rfl _) ?_
  have hbd : (List.replicate 0 (ty9.zero)).length + (xs.map strRow).length ≤ 1073741824 := by simp; omega
  repeat' first | refine go_seq ?_ | refine go_region ?_ | ((first | refine go_op rfl ?_ | refine go_nil ?_ | refine go_nilImm rfl rfl (fun b hb => ?_) | refine go_appImm rfl rfl rfl rfl rfl rfl rfl rfl rfl (str_one' _) rfl rfl hbd ?_) <;> conv => whnf) | ((first | refine ⟨by kernel_rfl, ?_⟩ | refine go_ret ?_) <;> conv => whnf) | ((first | refine go_skip ?_) <;> conv => whnf) | refine go_true rfl ?_ | refine go_false rfl ?_ | refine go_cond rfl (fun h => ?_) (fun h => ?_) | refine ⟨rfl, ?_⟩ | ((first | refine ⟨trivial, ?_⟩ | refine ⟨le_of_ble rfl, ?_⟩) <;> conv => whnf) | fail
  · have hnil : xs.map strRow = [] := by
      by_cases e : xs.map strRow = []
      · exact e
      · rw [hb e] at h; cases h
    exact ret_own rfl rfl rfl rfl rfl (by rw [hnil]; rfl) (str_gr _)
  · exact ret_own rfl rfl rfl rfl rfl (by simp only [List.replicate_zero, List.nil_append, Nat.zero_add, List.drop_zero, List.take_length]) (str_gr _)

theorem c144 (xs : List Trip) (hl : xs.length ≤ 1048576) : CallOk Tryz.prog 144 [.imm (.list (xs.map Trip.enc))] { res := [.arr 43 3 (xs.map Trip.enc)] } := by
  refine callOk_of tyOk Tryz.func144 rfl rfl (le_of_ble rfl) (le_of_ble rfl) (mutOk_imm rfl _) ?_
  have hbd : (List.replicate 0 (ty43.zero)).length + (xs.map Trip.enc).length ≤ 1073741824 := by simp; omega
  repeat' first | refine go_seq ?_ | refine go_region ?_ | ((first | refine go_op rfl ?_ | refine go_nil ?_ | refine go_nilImm rfl rfl (fun b hb => ?_) | refine go_appImm rfl rfl rfl rfl rfl rfl rfl rfl rfl (trip_one' _) rfl rfl hbd ?_) <;> conv => whnf) | ((first | refine ⟨by kernel_rfl, ?_⟩ | refine go_ret ?_) <;> conv => whnf) | ((first | refine go_skip ?_) <;> conv => whnf) | refine go_true rfl ?_ | refine go_false rfl ?_ | refine go_cond rfl (fun h => ?_) (fun h => ?_) | refine ⟨rfl, ?_⟩ | ((first | refine ⟨trivial, ?_⟩ | refine ⟨le_of_ble rfl, ?_⟩) <;> conv => whnf) | fail
  · have hnil : xs.map Trip.enc = [] := by
      by_cases e : xs.map Trip.enc = []
      · exact e
      · rw [hb e] at h; cases h
    exact ret_arr rfl rfl rfl rfl rfl (by rw [hnil]; rfl) (trip_gr _)
  · exact ret_arr rfl rfl rfl rfl rfl (by simp only [List.replicate_zero, List.nil_append, Nat.zero_add, List.drop_zero, List.take_length]) (trip_gr _)

theorem c170 (l : Line) (hf : l.fit) : CallOk Tryz.prog 170 [.imm (.agg l.enc)] { res := [.imm (.agg l.enc)], sep := false } := by
  refine callOk_of tyOk Tryz.func170 rfl rfl (le_of_ble rfl) (le_of_ble rfl) (mutOk_imm rfl _) ?_
  have h1 := c184 l.stops hf.2.1
  have h2 := c184 l.runs hf.2.2
  repeat' first | refine go_seq ?_ | refine go_region ?_ | refine go_draw drawsOk ?_ | ((first | refine go_op rfl ?_ | refine go_nil ?_ | refine go_storeBox rfl rfl rfl rfl rfl rfl ?_ | refine go_dop rfl ?_ | refine go_dend (by kernel_rfl) ?_ | refine go_call [] (h1) rfl rfl rfl rfl ?_ | refine go_call [] (h2) rfl rfl rfl rfl ?_) <;> conv => whnf) | ((first | refine Or.inl ?_ | refine go_loadB ?_ | refine ⟨by kernel_rfl, ?_⟩ | refine go_ret ?_) <;> conv => whnf) | ((first | refine go_skip ?_) <;> conv => whnf) | refine ⟨rfl, ?_⟩ | ((first | refine ⟨trivial, ?_⟩ | refine ⟨le_of_ble rfl, ?_⟩) <;> conv => whnf) | fail
  all_goals exact ret_immN rfl rfl rfl rfl rfl

theorem c143 (n : Network) (hf : n.fit) : CallOk Tryz.prog 143 [.imm (.agg n.enc)] { res := [.imm (.list (n.stops.map strRow)), .imm (.list (n.lines.map Line.enc))], sep := false, agg := true } := by
  refine callOk_of tyOk Tryz.func143 rfl rfl (le_of_ble rfl) (le_of_ble rfl) (mutOk_imm rfl _) ?_
  have h1 := c169 n.stops hf.1
  have hl : n.lines.length ≤ 1048576 := hf.2.2.1
  repeat' first | refine go_seq ?_ | refine go_region ?_ | refine go_draw drawsOk ?_ | ((first | refine go_op rfl ?_ | refine go_nil ?_ | refine go_storeBox rfl rfl rfl rfl rfl rfl ?_ | refine go_dop rfl ?_ | refine go_dend (by kernel_rfl) ?_ | refine go_call [] (h1) rfl rfl rfl rfl ?_ | refine go_makeN rfl rfl rfl rfl rfl rfl rfl rfl rfl (by omega) (by simp; omega) ?_ | refine Or.inr ?_) <;> conv => whnf) | ((first | refine Or.inl ?_ | refine go_loadB ?_ | refine ⟨by kernel_rfl, ?_⟩ | refine go_ret ?_) <;> conv => whnf) | refine go_block ?_ | ((first | refine go_skip ?_ | refine go_exit ?_) <;> conv => whnf) | refine go_true rfl ?_ | refine go_false rfl ?_ | refine go_cond rfl (fun h => ?_) (fun h => ?_) | refine ⟨rfl, ?_⟩ | ((first | refine ⟨trivial, ?_⟩ | refine ⟨le_of_ble rfl, ?_⟩) <;> conv => whnf) | fail
  refine go_loop (α := Nat) (fun i => i ≤ n.lines.length) (fun i => n.lines.length - i)
    (fun i => st Tryz.f143.ntmps [(2, .box 1000 0), (3, .box 1001 0), (15, .imm (.list (n.lines.map Line.enc))), (16, .imm (.int .i64 (n.lines.map Line.enc).length)), (17, .imm (.int .i64 (i : Nat)))]
      [(1000, .box 38 ([.list [], .list []].map .imm)), (1001, .box 38 [.imm (.list (n.stops.map strRow)), .own 1002 0 (n.lines.map Line.enc).length]), (1002, .arr 69 3 (fill Line.enc ty69.zero n.lines i))] []) 0 (Nat.zero_le _) ?_ ?_
  · refine ref_st (fun i => if i = 1000 then nid 1 2 else if i = 1001 then nid 2 3 else nid 2 12) rfl ⟨⟨rfl, rfl⟩, ⟨rfl, rfl⟩, rfl, rfl, rfl, trivial⟩ ⟨⟨rfl, wavs_imm _⟩, ⟨rfl, rfl, ⟨rfl, rfl⟩, trivial⟩, ?_, trivial⟩ (by simp [nid]) rfl (by simp)
    show some _ = some _
    rw [← fill_0, List.length_map]
    rfl
  intro i hi
  cases hx : n.lines[i]? with
  | none =>
    have hge := le_of_at hx
    repeat' first | refine go_seq ?_ | refine go_region ?_ | refine go_draw drawsOk ?_ | ((first | refine go_op rfl ?_ | refine go_nil ?_ | refine go_storeBox rfl rfl rfl rfl rfl rfl ?_ | refine go_dop rfl ?_ | refine go_dend (by kernel_rfl) ?_) <;> conv => whnf) | ((first | refine Or.inl ?_ | refine go_loadB ?_ | refine ⟨by kernel_rfl, ?_⟩ | refine go_ret ?_) <;> conv => whnf) | refine go_block ?_ | ((first | refine go_skip ?_ | refine go_exit ?_) <;> conv => whnf) | refine go_true rfl ?_ | refine go_false rfl ?_ | refine go_cond rfl (fun h => ?_) (fun h => ?_) | refine ⟨rfl, ?_⟩ | ((first | refine ⟨trivial, ?_⟩ | refine ⟨le_of_ble rfl, ?_⟩) <;> conv => whnf) | fail
    · exfalso; simp at h; omega
    · refine ret_agg rfl rfl rfl ⟨⟨rfl, fun h => by cases h⟩, ⟨?_, (fun h => by cases h), by show _ ∉ ([] : List Nat); simp⟩, trivial⟩ ?_ List.nodup_nil trivial
      · show D.list _ = D.list _
        rw [fill_end _ _ _ hge, List.drop_zero, List.take_length]
      · exact List.nodup_cons.2 ⟨by simp [ownIds], List.nodup_nil⟩
  | some l =>
    have hlt := lt_of_at hx
    have hr := row_at Line.enc hx
    have hC := c170 l (hf.2.2.2 l (List.mem_of_getElem? hx))
    have hil : i < (n.lines.map Line.enc).length := by rw [List.length_map]; exact hlt
    repeat' first | refine go_seq ?_ | refine go_region ?_ | refine go_draw drawsOk ?_ | ((first | refine go_op rfl ?_ | refine go_nil ?_ | refine go_storeBox rfl rfl rfl rfl rfl rfl ?_ | refine go_dop rfl ?_ | refine go_dend (by kernel_rfl) ?_ | refine go_call [] (hC) rfl rfl rfl rfl ?_ | refine go_idx rfl rfl rfl rfl (by omega) hr rfl ?_ | refine go_idxOwn rfl rfl rfl rfl rfl rfl hil ?_ | refine go_storeRow rfl rfl rfl rfl (fill_at _ _ hx) rfl rfl (fill_set _ _ hx) ?_) <;> conv => whnf) | ((first | refine Or.inl ?_ | refine go_loadB ?_ | refine ⟨by kernel_rfl, ?_⟩ | refine go_ret ?_) <;> conv => whnf) | refine go_block ?_ | ((first | refine go_skip ?_ | refine go_exit ?_) <;> conv => whnf) | refine go_true rfl ?_ | refine go_false rfl ?_ | refine go_cond rfl (fun h => ?_) (fun h => ?_) | refine ⟨rfl, ?_⟩ | ((first | refine ⟨trivial, ?_⟩ | refine ⟨le_of_ble rfl, ?_⟩) <;> conv => whnf) | fail
    all_goals first
      | (exact go_next (i + 1) (by omega) (by omega) (ref_st id rfl ⟨⟨rfl, rfl⟩, ⟨rfl, rfl⟩, rfl, rfl, next_i (by omega), trivial⟩ ⟨⟨rfl, wavs_imm _⟩, ⟨rfl, rfl, ⟨rfl, rfl⟩, trivial⟩, rfl, trivial⟩ (by simp) rfl (by simp)))
      | (exfalso; simp at h; omega)
      | trace_state

/-- A copy of a timetable: the trips are an array of its own. -/
theorem c97 (t : Timetable) (hf : t.fit) : CallOk Tryz.prog 97 [.imm (.agg t.enc)] { res := [.imm (.list (t.net.stops.map strRow)), .imm (.list (t.net.lines.map Line.enc)), .arr 43 3 (t.trips.map Trip.enc)], sep := false, agg := true } := by
  refine callOk_of tyOk Tryz.func97 rfl rfl (le_of_ble rfl) (le_of_ble rfl) (mutOk_imm rfl _) ?_
  have h1 := c143 t.net hf.1
  have h2 := c144 t.trips hf.2.1
  repeat' first | refine go_seq ?_ | refine go_region ?_ | refine go_draw drawsOk ?_ | ((first | refine go_op rfl ?_ | refine go_nil ?_ | refine go_storeBox rfl rfl rfl rfl rfl rfl ?_ | refine go_dop rfl ?_ | refine go_dend (by kernel_rfl) ?_ | refine go_call [] (h1) rfl rfl rfl rfl ?_ | refine go_call [] (h2) rfl rfl rfl rfl ?_ | refine Or.inr ?_) <;> conv => whnf) | ((first | refine Or.inl ?_ | refine go_loadB ?_ | refine ⟨by kernel_rfl, ?_⟩ | refine go_ret ?_) <;> conv => whnf) | ((first | refine go_skip ?_) <;> conv => whnf) | refine ⟨rfl, ?_⟩ | ((first | refine ⟨trivial, ?_⟩ | refine ⟨le_of_ble rfl, ?_⟩) <;> conv => whnf) | fail
  all_goals first
    | (refine ret_agg rfl rfl rfl ⟨⟨rfl, fun h => by cases h⟩, ⟨rfl, fun h => by cases h⟩, ret1_arr rfl ?_ (trip_gr _) (by show _ ∉ ([] : List Nat); simp), trivial⟩ ?_ List.nodup_nil trivial
       · rw [List.drop_zero, List.take_length]
       · exact List.nodup_cons.2 ⟨by simp [ownIds], List.nodup_nil⟩
       done)
    | trace_state
end Go.Proofs.YtcfhmncbfekoaaaGreatDoor

