/- Visits at a stop (as for the other rows over visits; names for numbers: conv.py). -/
import Derived.Test.YtobnoplkpmdeiaaS6
namespace Go.Proofs.Ytobnoplkpmdeiaa
open Go Go.Am
set_option maxRecDepth 100000
set_option maxHeartbeats 4000000
attribute [local irreducible] amOps amC opCall opIndexAddr opPick retQ opMake opStore amDraw opAppend

def atStop (s : Int) (v : Visit) : Bool := decide (v.stop = s)

theorem filter_next {α : Type} {p : α → Bool} {xs : List α} {i : Nat} {x : α} (h : xs[i]? = some x) : (xs.take (i + 1)).filter p = (xs.take i).filter p ++ (if p x then [x] else []) := by
  rw [List.take_add_one, h]
  simp only [Option.toList_some, List.filter_append]
  cases hp : p x <;> simp [hp]

theorem enc_one (xs : List Visit) : (xs.map Visit.enc).all (fun r => r.all D.one) = true := by
  simp only [List.all_map, List.all_eq_true]
  intro v _
  rfl

theorem c41 (xs : List Visit) (s : Int) (hl : xs.length ≤ 1048576) : CallOk Try.prog 41 [.imm (.list (xs.map Visit.enc)), .imm (.int .i64 s)] { res := [.imm (.list ((xs.filter (atStop s)).map Visit.enc))] } := by
  refine callOk_of tyOk Try.func41 rfl rfl (le_of_ble rfl) (le_of_ble rfl) (mutOk_imm rfl _) ?_
  repeat' first | refine go_seq ?_ | refine go_region ?_ | ((first | refine go_op rfl ?_ | refine go_nil ?_ | refine go_storeBox rfl rfl rfl rfl rfl rfl ?_) <;> conv => whnf) | ((first | refine go_loadB ?_ | refine ⟨by kernel_rfl, ?_⟩ | refine go_ret ?_) <;> conv => whnf) | refine go_block ?_ | ((first | refine go_skip ?_ | refine go_exit ?_) <;> conv => whnf) | refine go_true rfl ?_ | refine go_false rfl ?_ | refine go_cond rfl (fun h => ?_) (fun h => ?_) | refine ⟨rfl, ?_⟩ | ((first | refine ⟨trivial, ?_⟩ | refine ⟨le_of_ble rfl, ?_⟩) <;> conv => whnf) | fail
  refine go_loop (α := Nat) (fun i => i ≤ xs.length) (fun i => xs.length - i)
    (fun i => st Try.f41.ntmps [(1, .imm (.int .i64 s)), (5, .own 1000 0 (((xs.take i).filter (atStop s)).map Visit.enc).length), (8, .imm (.list (xs.map Visit.enc))), (9, .imm (.int .i64 (xs.map Visit.enc).length)), (10, .imm (.int .i64 (i : Nat)))]
      [(1000, .arr 63 4 (((xs.take i).filter (atStop s)).map Visit.enc))] []) 0 (Nat.zero_le _) ?_ ?_
  · refine ref_st (fun _ => nid 2 5) rfl ⟨rfl, ⟨rfl, rfl⟩, rfl, rfl, rfl, trivial⟩ ⟨rfl, trivial⟩ (by simp) rfl (by simp)
  · intro i hi
    cases hx : xs[i]? with
    | none =>
      have hge := le_of_at hx
      have hie : xs.take i = xs := List.take_of_length_le hge
      rw [hie]
      repeat' first | refine go_seq ?_ | refine go_region ?_ | ((first | refine go_op rfl ?_ | refine go_nil ?_ | refine go_storeBox rfl rfl rfl rfl rfl rfl ?_) <;> conv => whnf) | ((first | refine go_loadB ?_ | refine ⟨by kernel_rfl, ?_⟩ | refine go_ret ?_) <;> conv => whnf) | refine go_block ?_ | ((first | refine go_skip ?_ | refine go_exit ?_) <;> conv => whnf) | refine go_true rfl ?_ | refine go_false rfl ?_ | refine go_cond rfl (fun h => ?_) (fun h => ?_) | refine ⟨rfl, ?_⟩ | ((first | refine ⟨trivial, ?_⟩ | refine ⟨le_of_ble rfl, ?_⟩) <;> conv => whnf) | fail
      · exfalso; simp at *; omega
      · exact ret_own rfl rfl rfl rfl rfl (by rw [List.drop_zero, List.take_length]) (enc_gr _)
    | some v =>
      have hlt := lt_of_at hx
      have hr := row_at Visit.enc hx
      have hfl : ((xs.take i).filter (atStop s)).length ≤ xs.length := Nat.le_trans (List.length_filter_le _ _) (by rw [List.length_take]; omega)
      have hb : (((xs.take i).filter (atStop s)).map Visit.enc).length + 1 ≤ 1073741824 := by rw [List.length_map]; omega
      repeat' first | refine go_seq ?_ | refine go_region ?_ | ((first | refine go_op rfl ?_ | refine go_nil ?_ | refine go_storeBox rfl rfl rfl rfl rfl rfl ?_ | refine go_idx rfl rfl rfl rfl (by omega) (by assumption) rfl ?_ | refine go_append (rows2 := [v].map Visit.enc) rfl rfl rfl rfl rfl rfl rfl rfl rfl rfl rfl rfl (enc_one [v]) rfl rfl rfl hb ?_) <;> conv => whnf) | ((first | refine go_loadB ?_ | refine ⟨by kernel_rfl, ?_⟩ | refine go_ret ?_) <;> conv => whnf) | refine go_block ?_ | ((first | refine go_skip ?_ | refine go_exit ?_) <;> conv => whnf) | refine go_true rfl ?_ | refine go_false rfl ?_ | refine go_cond rfl (fun h => ?_) (fun h => ?_) | refine ⟨rfl, ?_⟩ | ((first | refine ⟨trivial, ?_⟩ | refine ⟨le_of_ble rfl, ?_⟩) <;> conv => whnf) | fail
      · refine go_next (i + 1) (by omega) (by omega) (ref_st (fun _ => nid 5 21) rfl ⟨rfl, ⟨?_, rfl⟩, rfl, rfl, next_i (by omega), trivial⟩ ⟨?_, trivial⟩ (by simp) rfl (by simp))
        · show AV.own _ _ _ = AV.own _ _ _
          rw [filter_next hx, if_pos (show atStop s v = true from h), List.map_append, List.length_append]
          rfl
        · show some _ = some _
          rw [filter_next hx, if_pos (show atStop s v = true from h), List.map_append]
          rfl
      · refine go_next (i + 1) (by omega) (by omega) (ref_st id rfl ⟨rfl, ⟨?_, rfl⟩, rfl, rfl, next_i (by omega), trivial⟩ ⟨?_, trivial⟩ (by simp) rfl (by simp))
        · show AV.own _ _ _ = AV.own _ _ _
          rw [filter_next hx, if_neg (by simp [atStop, of_decide_eq_false h])]; simp
        · show some _ = some _
          rw [filter_next hx, if_neg (by simp [atStop, of_decide_eq_false h])]; simp
      · exfalso; simp at *; omega

theorem c42 (xs : List Visit) (s : Int) (hl : xs.length ≤ 1048576) : CallOk Try.prog 42 [.imm (.list (xs.map Visit.enc)), .imm (.int .i64 s)] { res := [.imm (.list ((xs.filter (atStop s)).map Visit.enc))] } := by
  refine callOk_of tyOk Try.func42 rfl rfl (le_of_ble rfl) (le_of_ble rfl) (mutOk_imm rfl _) ?_
  repeat' first | refine go_seq ?_ | refine go_region ?_ | ((first | refine go_op rfl ?_ | refine go_nil ?_) <;> conv => whnf) | ((first | refine go_loadB ?_ | refine ⟨by kernel_rfl, ?_⟩ | refine go_ret ?_) <;> conv => whnf) | refine go_block ?_ | ((first | refine go_skip ?_ | refine go_exit ?_) <;> conv => whnf) | refine go_true rfl ?_ | refine go_false rfl ?_ | refine go_cond rfl (fun h => ?_) (fun h => ?_) | refine ⟨rfl, ?_⟩ | ((first | refine ⟨trivial, ?_⟩ | refine ⟨le_of_ble rfl, ?_⟩) <;> conv => whnf) | fail
  refine go_loop (α := Nat) (fun i => i ≤ xs.length) (fun i => xs.length - i)
    (fun i => st Try.f42.ntmps [(0, .imm (.list (xs.map Visit.enc))), (1, .imm (.int .i64 s)), (5, .own 1000 0 (((xs.take i).filter (atStop s)).map Visit.enc).length), (6, .imm (.int .i64 (i : Nat)))]
      [(1000, .arr 63 4 (((xs.take i).filter (atStop s)).map Visit.enc))] []) 0 (Nat.zero_le _) ?_ ?_
  · refine ref_st (fun _ => nid 2 7) rfl ⟨rfl, rfl, ⟨rfl, rfl⟩, rfl, trivial⟩ ⟨rfl, trivial⟩ (by simp) rfl (by simp)
  · intro i hi
    cases hx : xs[i]? with
    | none =>
      have hge := le_of_at hx
      have hie : xs.take i = xs := List.take_of_length_le hge
      rw [hie]
      repeat' first | refine go_seq ?_ | refine go_region ?_ | ((first | refine go_op rfl ?_ | refine go_nil ?_) <;> conv => whnf) | ((first | refine go_loadB ?_ | refine ⟨by kernel_rfl, ?_⟩ | refine go_ret ?_) <;> conv => whnf) | refine go_block ?_ | ((first | refine go_skip ?_ | refine go_exit ?_) <;> conv => whnf) | refine go_true rfl ?_ | refine go_false rfl ?_ | refine go_cond rfl (fun h => ?_) (fun h => ?_) | refine ⟨rfl, ?_⟩ | ((first | refine ⟨trivial, ?_⟩ | refine ⟨le_of_ble rfl, ?_⟩) <;> conv => whnf) | fail
      · exfalso; simp at *; omega
      · exact ret_own rfl rfl rfl rfl rfl (by rw [List.drop_zero, List.take_length]) (enc_gr _)
    | some v =>
      have hlt := lt_of_at hx
      have hr := row_at Visit.enc hx
      have hfl : ((xs.take i).filter (atStop s)).length ≤ xs.length := Nat.le_trans (List.length_filter_le _ _) (by rw [List.length_take]; omega)
      have hb : (((xs.take i).filter (atStop s)).map Visit.enc).length + 1 ≤ 1073741824 := by rw [List.length_map]; omega
      repeat' first | refine go_seq ?_ | refine go_region ?_ | ((first | refine go_op rfl ?_ | refine go_nil ?_ | refine go_idx rfl rfl rfl rfl (by omega) (by assumption) rfl ?_ | refine go_append (rows2 := [v].map Visit.enc) rfl rfl rfl rfl rfl rfl rfl rfl rfl rfl rfl rfl (enc_one [v]) rfl rfl rfl hb ?_) <;> conv => whnf) | ((first | refine go_loadB ?_ | refine ⟨by kernel_rfl, ?_⟩ | refine go_ret ?_) <;> conv => whnf) | refine go_block ?_ | ((first | refine go_skip ?_ | refine go_exit ?_) <;> conv => whnf) | refine go_true rfl ?_ | refine go_false rfl ?_ | refine go_cond rfl (fun h => ?_) (fun h => ?_) | refine ⟨rfl, ?_⟩ | ((first | refine ⟨trivial, ?_⟩ | refine ⟨le_of_ble rfl, ?_⟩) <;> conv => whnf) | fail
      · refine go_next (i + 1) (by omega) (by omega) (ref_st (fun _ => nid 4 27) rfl ⟨rfl, rfl, ⟨?_, rfl⟩, next_i (by omega), trivial⟩ ⟨?_, trivial⟩ (by simp) rfl (by simp))
        · show AV.own _ _ _ = AV.own _ _ _
          rw [filter_next hx, if_pos (show atStop s v = true from h), List.map_append, List.length_append]
          rfl
        · show some _ = some _
          rw [filter_next hx, if_pos (show atStop s v = true from h), List.map_append]
          rfl
      · refine go_next (i + 1) (by omega) (by omega) (ref_st id rfl ⟨rfl, rfl, ⟨?_, rfl⟩, next_i (by omega), trivial⟩ ⟨?_, trivial⟩ (by simp) rfl (by simp))
        · show AV.own _ _ _ = AV.own _ _ _
          rw [filter_next hx, if_neg (by simp [atStop, of_decide_eq_false h])]; simp
        · show some _ = some _
          rw [filter_next hx, if_neg (by simp [atStop, of_decide_eq_false h])]; simp
      · exfalso; simp at *; omega
end Go.Proofs.Ytobnoplkpmdeiaa


