/- Timetables copied, trips put in and taken out: the program. -/
import Derived.Test.YtfjphbjbobojbaaT1
import Derived.Test.YtfjphbjbobojbaaAmK
namespace Go.Proofs.Ytfjphbjbobojbaa
open Go Go.Am
set_option maxRecDepth 100000
set_option maxHeartbeats 4000000

def insRen : Go.Shelf.Ren := ⟨fun | 22 => 79 | 29 => 98 | 30 => 99 | n => n, fun | 24 => 35 | 9 => 54 | n => n, fun n => n⟩
def delRen : Go.Shelf.Ren := ⟨fun | 24 => 80 | n => n, fun | 24 => 35 | 9 => 54 | n => n, fun n => n⟩

theorem insLays : ∃ i0 z0, InsL Try.prog insRen 3 i0 z0 ∧ z0.cells.size = 3 ∧ i0.bytes = 24 := by
  obtain ⟨i0, z0, hi, hs, hb, hz, hza⟩ := TOk.info tyOk (t := 54) rfl
  refine ⟨i0, z0, ?_, ?_, hb⟩
  · exact {
      mixed := by kernel_rfl
      f22 := ⟨Try.f79.name, by kernel_rfl, Try.func79.trans (congrArg some (by kernel_rfl))⟩
      ovr := fun vs w => run_callFunc_extern Try.func98 (by kernel_rfl) (by kernel_rfl) (by kernel_rfl) (e := Extern.SlicesOverlaps.overlaps #[35, 35] #[4]) (by kernel_rfl) vs w
      t0 := Try.underlying0
      a0 := Try.isAgg0
      z0 := Try.sizeOf0
      v0 := Try.zeroValue0
      t3 := Try.underlying3
      a3 := Try.isAgg3
      z3 := Try.sizeOf3
      v3 := Try.zeroValue3
      t4 := Try.underlying4
      a4 := Try.isAgg4
      z4 := Try.sizeOf4
      v4 := Try.zeroValue4
      z9 := Try.sizeOf54
      t24 := Try.underlying35
      a24 := Try.isAgg35
      z24 := Try.sizeOf35
      v24 := Try.zeroValue35
      i9 := hi
      i9z := hz
      i9s := hs
      pos := by decide }
  · have h1 := (zall_rep default (fun _ => False) _ _ hza).1
    exact (show z0.cells.size = z0.cells.toList.length by simp).trans h1

theorem delLays : ∃ i0 z0, DelL Try.prog delRen 3 i0 z0 ∧ z0.cells.size = 3 ∧ ∀ v ∈ z0.cells.toList, v.oneCell' = true := by
  obtain ⟨i0, z0, hi, hs, hb, hz, hza⟩ := TOk.info tyOk (t := 54) rfl
  refine ⟨i0, _, {
      mixed := by kernel_rfl
      f24 := ⟨Try.f80.name, by kernel_rfl, Try.func80.trans (congrArg some (by kernel_rfl))⟩
      t0 := Try.underlying0
      a0 := Try.isAgg0
      z0 := Try.sizeOf0
      v0 := Try.zeroValue0
      t3 := Try.underlying3
      a3 := Try.isAgg3
      z3 := Try.sizeOf3
      v3 := Try.zeroValue3
      t4 := Try.underlying4
      a4 := Try.isAgg4
      z4 := Try.sizeOf4
      v4 := Try.zeroValue4
      z9 := Try.sizeOf54
      v9 := Try.zeroValue54
      t24 := Try.underlying35
      a24 := Try.isAgg35
      z24 := Try.sizeOf35
      v24 := Try.zeroValue35
      i9 := hi
      i9s := hs
      pos := by decide }, by rfl, by decide⟩

theorem trip_one' (xs : List Trip) : ∀ r ∈ xs.map Trip.enc, r.length = 3 ∧ r.all D.one = true := by
  intro r hr
  obtain ⟨v, _, rfl⟩ := List.mem_map.1 hr
  exact ⟨rfl, rfl⟩
theorem int_one' (xs : List Int) : ∀ r ∈ xs.map intRow, r.length = 1 ∧ r.all D.one = true := by
  intro r hr
  obtain ⟨v, _, rfl⟩ := List.mem_map.1 hr
  exact ⟨rfl, rfl⟩
theorem str_one' (xs : List ByteArray) : ∀ r ∈ xs.map strRow, r.length = 1 ∧ r.all D.one = true := by
  intro r hr
  obtain ⟨v, _, rfl⟩ := List.mem_map.1 hr
  exact ⟨rfl, rfl⟩

attribute [local irreducible] amOps amC opCall opIndexAddr opPick retQ opMake opStore amDraw opAppend opLoad opNilCmp opIndex opSlice

/-- slices.Insert of one trip ahead of another. -/
theorem c79 (xs : List Trip) (x : Trip) (i : Nat) (hi : i < xs.length) (hl : xs.length ≤ 1048576) :
    CallOk Try.prog 79 [.arr 54 3 (xs.map Trip.enc), .imm (.int .i64 (i : Int)), .arr 54 3 [x.enc]] { res := [.arr 54 3 ((xs.take i ++ x :: xs.drop i).map Trip.enc)] } := by
  obtain ⟨i0, z0, L, hz, hb⟩ := insLays
  have := callOk_insert L ⟨_, Try.func79, by kernel_rfl, rfl⟩ hz (by omega) (rows := xs.map Trip.enc) (x := x.enc) (i := i) (by simpa using hi) (by simpa using hl) rfl (fun r hr => (trip_one' xs r hr).2) rfl (trip_gr xs) rfl
  rw [← List.map_take, ← List.map_drop, show x.enc :: (xs.drop i).map Trip.enc = (x :: xs.drop i).map Trip.enc from rfl, ← List.map_append] at this
  exact this

/-- slices.Insert of one trip behind all others. -/
theorem c79e (xs : List Trip) (x : Trip) (hl : xs.length ≤ 1048576) :
    CallOk Try.prog 79 [.arr 54 3 (xs.map Trip.enc), .imm (.int .i64 (xs.length : Int)), .arr 54 3 ([x].map Trip.enc)] { res := [.arr 54 3 ((xs ++ [x]).map Trip.enc)], muts := [.gone, .gone, .arr 54 3 ([x].map Trip.enc)] } := by
  refine callOk_of tyOk Try.func79 rfl rfl (le_of_ble rfl) (le_of_ble rfl) ?_ ?_
  · intro k o hk
    match k with
    | 0 => cases hk; exact ⟨O.sub_gone _, .inr (.inr (.inl rfl))⟩
    | 1 => cases hk
    | 2 => cases hk; exact ⟨O.sub_refl _, .inl ⟨_, _, _, rfl⟩⟩
    | k + 3 => cases hk
  have hk : xs.length ≤ (xs.map Trip.enc).length := by rw [List.length_map]; exact Nat.le_refl _
  have hone := trip_one [x]
  have hb : (xs.map Trip.enc).length + 1 ≤ 1073741824 := by rw [List.length_map]; omega
  repeat' first | refine go_seq ?_ | refine go_region ?_ | refine go_draw drawsOk ?_ | ((first | refine go_op rfl ?_ | refine go_nil ?_ | refine go_dop rfl ?_ | refine go_dend (by kernel_rfl) ?_ | refine go_sliceFrom (k := xs.length) rfl rfl rfl rfl rfl rfl hk ?_ | refine go_append (rows2 := [x].map Trip.enc) rfl rfl rfl rfl rfl rfl rfl rfl rfl rfl rfl rfl hone rfl rfl rfl hb ?_) <;> conv => whnf) | ((first | refine ⟨by kernel_rfl, ?_⟩ | refine go_ret ?_) <;> conv => whnf) | ((first | refine go_skip ?_) <;> conv => whnf) | refine go_true rfl ?_ | refine go_false rfl ?_ | refine go_cond rfl (fun h => ?_) (fun h => ?_) | refine ⟨rfl, ?_⟩ | ((first | refine ⟨trivial, ?_⟩ | refine ⟨le_of_ble rfl, ?_⟩) <;> conv => whnf) | fail
  all_goals first
    | (refine ret_all rfl ⟨ret1_arr rfl ?_ ?_ ?_, trivial⟩ ?_ ?_ ?_
       · rw [List.drop_zero, ← List.map_append, List.take_of_length_le (by simp)]
       · exact trip_gr _
       · show nid _ _ ∉ [0, 2]
         simp [nid]
       · exact List.nodup_cons.2 ⟨by simp [ownIds], List.nodup_nil⟩
       · show [0, 2].Nodup
         decide
       · exact ⟨rfl, fun _ => rfl, rfl, fun _ => rfl, trivial⟩
       done)
    | (exfalso; simp at h; done)
    | (exfalso; have h' := of_decide_eq_false h; omega)
    | (exfalso; have h' := of_decide_eq_true h; omega)
    | (exfalso; rename_i hq; have h' := of_decide_eq_true hq; omega)
    | (exfalso; rename_i hq; have h' := of_decide_eq_false hq; omega)
    | (exfalso; rename_i hq _; have h' := of_decide_eq_true hq; omega)
    | (exfalso; rename_i hq _; have h' := of_decide_eq_false hq; omega)
    | trace_state

theorem c80 (xs : List Trip) (i : Nat) (hi : i < xs.length) :
    CallOk Try.prog 80 [.arr 54 3 (xs.map Trip.enc), .imm (.int .i64 (i : Int)), .imm (.int .i64 ((i + 1 : Nat) : Int))] { res := [.arr 54 3 ((xs.take i ++ xs.drop (i + 1)).map Trip.enc)] } := by
  obtain ⟨i0, z0, L, hz, hz1⟩ := delLays
  have := callOk_delete L ⟨_, Try.func80, by kernel_rfl, rfl⟩ hz hz1 (rows := xs.map Trip.enc) (i := i) (by simpa using hi) (fun r hr => (trip_one' xs r hr).2) (trip_gr xs)
  rw [← List.map_take, ← List.map_drop, ← List.map_append] at this
  exact this

theorem c76 (xs : List Trip) (hl : xs.length ≤ 1048576) : CallOk Try.prog 76 [.imm (.list (xs.map Trip.enc))] { res := [.arr 54 3 (xs.map Trip.enc)] } := by
  refine callOk_of tyOk Try.func76 rfl rfl (le_of_ble rfl) (le_of_ble rfl) (mutOk_imm rfl _) ?_
  have hbd : (List.replicate 0 (ty54.zero)).length + (xs.map Trip.enc).length ≤ 1073741824 := by simp; omega
  repeat' first | refine go_seq ?_ | refine go_region ?_ | ((first | refine go_op rfl ?_ | refine go_nil ?_ | refine go_nilImm rfl rfl (fun b hb => ?_) | refine go_appImm rfl rfl rfl rfl rfl rfl rfl rfl rfl (trip_one' _) rfl rfl hbd ?_) <;> conv => whnf) | ((first | refine ⟨by kernel_rfl, ?_⟩ | refine go_ret ?_) <;> conv => whnf) | ((first | refine go_skip ?_) <;> conv => whnf) | refine go_true rfl ?_ | refine go_false rfl ?_ | refine go_cond rfl (fun h => ?_) (fun h => ?_) | refine ⟨rfl, ?_⟩ | ((first | refine ⟨trivial, ?_⟩ | refine ⟨le_of_ble rfl, ?_⟩) <;> conv => whnf) | fail
  · have hnil : xs.map Trip.enc = [] := by
      by_cases e : xs.map Trip.enc = []
      · exact e
      · rw [hb e] at h; cases h
    exact ret_arr rfl rfl rfl rfl rfl (by rw [hnil]; rfl) (trip_gr _)
  · exact ret_arr rfl rfl rfl rfl rfl (by simp only [List.replicate_zero, List.nil_append, Nat.zero_add, List.drop_zero, List.take_length]) (trip_gr _)

end Go.Proofs.Ytfjphbjbobojbaa

