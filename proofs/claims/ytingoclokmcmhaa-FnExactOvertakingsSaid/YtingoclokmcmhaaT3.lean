/- The walks of a trip's line and of its times. -/
import Derived.Test.YtingoclokmcmhaaT1
namespace Go.Proofs.Ytingoclokmcmhaa
open Go Go.Am
set_option maxRecDepth 100000
set_option maxHeartbeats 4000000
attribute [local irreducible] amOps amC opCall opIndexAddr opPick retQ opMake opStore amDraw opAppend opLoad opNilCmp opIndex opSlice

theorem c49 (t : Timetable) (x : Trip) (l : Line) (h0 : 0 ≤ x.line) (hl : t.net.lines[x.line.toNat]? = some l) : CallOk Try.prog 49 [.imm (.agg t.enc), .imm (.agg x.enc)] { res := [.imm (.agg l.enc)], sep := false } := by
  refine callOk_of tyOk Try.func49 rfl rfl (le_of_ble rfl) (le_of_ble rfl) (mutOk_imm rfl _) ?_
  have h2 : (t.net.lines.map Line.enc)[x.line.toNat]? = some l.enc := by rw [List.getElem?_map, hl]; rfl
  repeat' first | refine go_seq ?_ | refine go_region ?_ | ((first | refine go_op rfl ?_ | refine go_nil ?_ | refine go_storeBox rfl rfl rfl rfl rfl rfl ?_ | refine go_idx rfl rfl rfl rfl h0 h2 rfl ?_) <;> conv => whnf) | ((first | refine go_loadB ?_ | refine ⟨by kernel_rfl, ?_⟩ | refine go_ret ?_) <;> conv => whnf) | ((first | refine go_skip ?_) <;> conv => whnf) | refine ⟨rfl, ?_⟩ | ((first | refine ⟨trivial, ?_⟩ | refine ⟨le_of_ble rfl, ?_⟩) <;> conv => whnf) | fail
  all_goals exact ret_immN rfl rfl rfl rfl rfl

/-- When a trip is at a stop of its line. -/
def stopAt (x : Trip) (l : Line) (k : Nat) : Int := IntKind.i64.wrap (x.start + totW (l.runs.take k))
def stopsT (x : Trip) (l : Line) (n : Nat) : List Int := (List.range n).map (stopAt x l)
theorem stopAt_next {x : Trip} {l : Line} {k : Nat} {v : Int} (h : l.runs[k]? = some v) : IntKind.i64.wrap (stopAt x l k + v) = stopAt x l (k + 1) := by
  unfold stopAt
  rw [tot_take h]
  simp only [IntKind.wrap_i64]
  omega
theorem stopAt_0 {x : Trip} (l : Line) (h : timeOk x.start = true) : stopAt x l 0 = x.start := by
  have := (inR_iff _ _ _).1 h
  unfold stopAt
  rw [List.take_zero, show totW [] = 0 from rfl, wrap_small (by omega) (by omega)]
  omega
theorem stopsT_next (x : Trip) (l : Line) (n : Nat) : (stopsT x l (n + 1)).map intRow = (stopsT x l n).map intRow ++ [intRow (stopAt x l n)] := by
  unfold stopsT
  rw [List.range_succ, List.map_append, List.map_append]
  rfl
theorem stopsT_at {x : Trip} {l : Line} {n i : Nat} (h : i < n) : ((stopsT x l n).map intRow)[i]? = some (intRow (stopAt x l i)) := by simp [stopsT, h]
theorem stopsT_len (x : Trip) (l : Line) (n : Nat) : ((stopsT x l n).map intRow).length = n := by simp [stopsT]

theorem c50 (t : Timetable) (x : Trip) (l : Line) (h0 : 0 ≤ x.line) (hl : t.net.lines[x.line.toNat]? = some l) (hs : timeOk x.start = true) (hr : l.runs.length ≤ 1048576) :
    CallOk Try.prog 50 [.imm (.agg t.enc), .imm (.agg x.enc)] { res := [.imm (.list ((stopsT x l (l.runs.length + 1)).map intRow))] } := by
  refine callOk_of tyOk Try.func50 rfl rfl (le_of_ble rfl) (le_of_ble rfl) (mutOk_imm rfl _) ?_
  repeat' first | refine go_seq ?_ | refine go_region ?_ | ((first | refine go_op rfl ?_ | refine go_nil ?_ | refine go_call [] (c49 t x l h0 hl) rfl rfl rfl rfl ?_) <;> conv => whnf) | ((first | refine go_loadB ?_ | refine ⟨by kernel_rfl, ?_⟩ | refine go_ret ?_) <;> conv => whnf) | refine go_block ?_ | ((first | refine go_skip ?_ | refine go_exit ?_) <;> conv => whnf) | refine go_true rfl ?_ | refine go_false rfl ?_ | refine go_cond rfl (fun h => ?_) (fun h => ?_) | refine ⟨rfl, ?_⟩ | ((first | refine ⟨trivial, ?_⟩ | refine ⟨le_of_ble rfl, ?_⟩) <;> conv => whnf) | fail
  refine go_loop (α := Nat) (fun i => i ≤ l.runs.length) (fun i => l.runs.length - i)
    (fun i => st Try.f50.ntmps [(5, .own 1000 0 ((stopsT x l (i + 1)).map intRow).length), (14, .imm (.list (l.runs.map intRow))), (15, .imm (.int .i64 (l.runs.map intRow).length)), (16, .imm (.int .i64 (i : Nat)))]
      [(1000, .arr 3 1 ((stopsT x l (i + 1)).map intRow))] []) 0 (Nat.zero_le _) ?_ ?_
  · refine ref_st (fun _ => nid 2 10) rfl ⟨⟨rfl, rfl⟩, rfl, rfl, rfl, trivial⟩ ⟨?_, trivial⟩ (by simp) rfl (by simp)
    show some _ = some (O.arr _ _ ([stopAt x l 0].map intRow))
    rw [stopAt_0 l hs]; try rfl
  · intro i hi
    cases hx : l.runs[i]? with
    | none =>
      have hge := le_of_at hx
      have hie : i = l.runs.length := by omega
      rw [hie]
      repeat' first | refine go_seq ?_ | refine go_region ?_ | ((first | refine go_op rfl ?_ | refine go_nil ?_) <;> conv => whnf) | ((first | refine go_loadB ?_ | refine ⟨by kernel_rfl, ?_⟩ | refine go_ret ?_) <;> conv => whnf) | refine go_block ?_ | ((first | refine go_skip ?_ | refine go_exit ?_) <;> conv => whnf) | refine go_true rfl ?_ | refine go_false rfl ?_ | refine go_cond rfl (fun h => ?_) (fun h => ?_) | refine ⟨rfl, ?_⟩ | ((first | refine ⟨trivial, ?_⟩ | refine ⟨le_of_ble rfl, ?_⟩) <;> conv => whnf) | fail
      · exfalso; simp at *
      · exact ret_own rfl rfl rfl rfl rfl (by rw [List.drop_zero, List.take_length]) (int_gr _)
    | some v =>
      have hlt := lt_of_at hx
      have hrw := row_at intRow hx
      have hb : ((stopsT x l (i + 1)).map intRow).length + 1 ≤ 1073741824 := by rw [stopsT_len]; omega
      have hat := stopsT_at (x := x) (l := l) (n := i + 1) (i := i) (by omega)
      have hil : i < ((stopsT x l (i + 1)).map intRow).length := by rw [stopsT_len]; omega
      repeat' first | refine go_seq ?_ | refine go_region ?_ | ((first | refine go_op rfl ?_ | refine go_nil ?_ | refine go_idx rfl rfl rfl rfl (by omega) hrw rfl ?_ | refine go_idxOwn rfl rfl rfl rfl rfl rfl hil ?_ | refine go_loadEl rfl rfl rfl hat ?_ | refine go_append (rows2 := [IntKind.i64.wrap (stopAt x l i + v)].map intRow) rfl rfl rfl rfl rfl rfl rfl rfl rfl rfl rfl rfl (int_one [IntKind.i64.wrap (stopAt x l i + v)]) rfl rfl rfl hb ?_) <;> conv => whnf) | ((first | refine go_loadB ?_ | refine ⟨by kernel_rfl, ?_⟩ | refine go_ret ?_) <;> conv => whnf) | refine go_block ?_ | ((first | refine go_skip ?_ | refine go_exit ?_) <;> conv => whnf) | refine go_true rfl ?_ | refine go_false rfl ?_ | refine go_cond rfl (fun h => ?_) (fun h => ?_) | refine ⟨rfl, ?_⟩ | ((first | refine ⟨trivial, ?_⟩ | refine ⟨le_of_ble rfl, ?_⟩) <;> conv => whnf) | fail
      · refine go_next (i + 1) (by omega) (by omega) (ref_st (fun _ => nid 4 29) rfl ⟨⟨?_, rfl⟩, rfl, rfl, next_i (by omega), trivial⟩ ⟨?_, trivial⟩ (by simp) rfl (by simp))
        · show AV.own _ _ _ = AV.own _ _ _
          rw [stopsT_next x l (i + 1), List.length_append]
          rfl
        · show some _ = some _
          rw [stopsT_next x l (i + 1), ← stopAt_next hx]; try rfl
      · exfalso; simp at *; omega
theorem tot_bd {runs : List Int} (hr : ∀ x ∈ runs, 1 ≤ x ∧ x ≤ 60) : ∀ i : Nat, i ≤ 1000 → 0 ≤ totW (runs.take i) ∧ totW (runs.take i) ≤ 60 * i
  | 0, _ => by simp [totW]
  | i + 1, hi => by
    have ih := tot_bd hr i (by omega)
    cases hx : runs[i]? with
    | none =>
      have hl := le_of_at hx
      rw [List.take_of_length_le (by omega)]
      rw [List.take_of_length_le hl] at ih
      omega
    | some v =>
      have hv := hr v (List.mem_of_getElem? hx)
      rw [tot_take hx, wrap_small (by omega) (by omega)]
      omega

theorem runs_bd {k : Nat} {l : Line} (h : lineOk k l = true) : ∀ x ∈ l.runs, 1 ≤ x ∧ x ≤ 60 := by
  unfold lineOk at h
  simp only [Bool.and_eq_true] at h
  intro x hx
  have := List.all_eq_true.1 h.2 x hx
  exact (inR_iff _ _ _).1 this

end Go.Proofs.Ytingoclokmcmhaa

