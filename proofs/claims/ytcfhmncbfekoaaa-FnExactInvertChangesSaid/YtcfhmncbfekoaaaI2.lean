/- Changes turned about: program and reference. -/
import Derived.Test.YtcfhmncbfekoaaaV8
namespace Go.Proofs.Ytcfhmncbfekoaaa
open Go Go.Am
set_option maxRecDepth 100000
set_option maxHeartbeats 8000000
attribute [local irreducible] amOps amC opCall opIndexAddr opPick retQ opMake opStore amDraw opAppend opLoad opNilCmp opIndex opSlice

def invC (c : Change) : Change := if c.kind = 1 then ⟨2, c.trip, c.to⟩ else if c.kind = 2 then ⟨1, c.trip, c.to⟩ else ⟨c.kind, ⟨c.trip.id, c.trip.line, c.to⟩, c.trip.start⟩
def invN (cs : List Change) (i : Nat) : List Change := (cs.take i).map invC
def invL (t : Timetable) (cs : List Change) : List Change := if ivOk t cs then cs.map invC else []
theorem invN_all {cs : List Change} {i : Nat} (h : cs.length ≤ i) : invN cs i = cs.map invC := by
  unfold invN; rw [List.take_of_length_le h]
theorem invN_len (cs : List Change) (i : Nat) : (invN cs i).length ≤ i := by
  unfold invN; rw [List.length_map, List.length_take]; omega
theorem invN_next {cs : List Change} {i : Nat} {c : Change} (h : cs[i]? = some c) : invN cs (i + 1) = invN cs i ++ [invC c] := by
  unfold invN
  rw [List.take_add_one, h, List.map_append]; rfl
theorem invL_len (t : Timetable) (cs : List Change) (hl : cs.length ≤ 1048576) : (invL t cs).length ≤ 1048576 := by
  unfold invL
  split
  · rw [List.length_map]; exact hl
  · simp

theorem c16 (t : Timetable) (hf : t.fit) (cs : List Change) (hl : cs.length ≤ 1048576) : CallOk Try.prog 16 [.imm (.agg t.enc), .imm (.list (cs.map Change.enc))] { res := [.arr 71 5 ((invL t cs).map Change.enc), .imm (.bool (ivOk t cs))] } := by
  refine callOk_of tyOk Try.func16 rfl rfl (le_of_ble rfl) (le_of_ble rfl) (mutOk_imm rfl _) ?_
  have h0 := c12 t hf cs hl
  unfold invL
  cases hp : ivOk t cs with
  | false =>
    rw [hp] at h0
    repeat' first | refine go_seq ?_ | refine go_region ?_ | ((first | refine go_op rfl ?_ | refine go_nil ?_ | refine go_storeBox rfl rfl rfl rfl rfl rfl ?_ | refine go_call [] (h0) rfl rfl rfl rfl ?_) <;> conv => whnf) | ((first | refine go_loadB ?_ | refine ⟨by kernel_rfl, ?_⟩ | refine go_ret ?_) <;> conv => whnf) | refine go_block ?_ | ((first | refine go_skip ?_ | refine go_exit ?_) <;> conv => whnf) | refine go_true rfl ?_ | refine go_false rfl ?_ | refine go_cond rfl (fun h => ?_) (fun h => ?_) | refine ⟨rfl, ?_⟩ | ((first | refine ⟨trivial, ?_⟩ | refine ⟨le_of_ble rfl, ?_⟩) <;> conv => whnf) | fail
    all_goals first
      | exact ret_arr2 rfl rfl rfl rfl rfl rfl (by intro r hr; cases hr) rfl rfl rfl
      | (exfalso; simp at h; done)
      | trace_state
  | true =>
    rw [hp] at h0
    rw [if_pos rfl]
    repeat' first | refine go_seq ?_ | refine go_region ?_ | ((first | refine go_op rfl ?_ | refine go_nil ?_ | refine go_storeBox rfl rfl rfl rfl rfl rfl ?_ | refine go_call [] (h0) rfl rfl rfl rfl ?_) <;> conv => whnf) | ((first | refine go_loadB ?_ | refine ⟨by kernel_rfl, ?_⟩ | refine go_ret ?_) <;> conv => whnf) | refine go_block ?_ | ((first | refine go_skip ?_ | refine go_exit ?_) <;> conv => whnf) | refine go_true rfl ?_ | refine go_false rfl ?_ | refine go_cond rfl (fun h => ?_) (fun h => ?_) | refine ⟨rfl, ?_⟩ | ((first | refine ⟨trivial, ?_⟩ | refine ⟨le_of_ble rfl, ?_⟩) <;> conv => whnf) | fail
    all_goals try first
      | (exfalso; simp at h; done)
    refine go_loop (α := Nat) (fun i => i ≤ cs.length) (fun i => cs.length - i)
      (fun i => st Try.f16.ntmps [(6, .own 1000 0 ((invN cs i).map Change.enc).length), (13, .imm (.list (cs.map Change.enc))), (14, .imm (.int .i64 (cs.map Change.enc).length)), (15, .imm (.int .i64 (i : Nat)))]
        [(1000, .arr 71 5 ((invN cs i).map Change.enc))] []) 0 (Nat.zero_le _) ?_ ?_
    · exact ref_st (fun _ => nid 3 6) rfl ⟨⟨rfl, rfl⟩, rfl, rfl, rfl, trivial⟩ ⟨rfl, trivial⟩ (by simp) rfl (by simp)
    intro i hi
    cases hx : cs[i]? with
    | none =>
      have hge := le_of_at hx
      rw [invN_all hge]
      repeat' first | refine go_seq ?_ | refine go_region ?_ | ((first | refine go_op rfl ?_ | refine go_nil ?_ | refine go_storeBox rfl rfl rfl rfl rfl rfl ?_) <;> conv => whnf) | ((first | refine go_loadB ?_ | refine ⟨by kernel_rfl, ?_⟩ | refine go_ret ?_) <;> conv => whnf) | refine go_block ?_ | ((first | refine go_skip ?_ | refine go_exit ?_) <;> conv => whnf) | refine go_true rfl ?_ | refine go_false rfl ?_ | refine go_cond rfl (fun h => ?_) (fun h => ?_) | refine ⟨rfl, ?_⟩ | ((first | refine ⟨trivial, ?_⟩ | refine ⟨le_of_ble rfl, ?_⟩) <;> conv => whnf) | fail
      all_goals first
        | exact ret_arr2 rfl rfl rfl rfl rfl (by rw [List.drop_zero, List.take_length]) (change_gr _) rfl rfl rfl
        | (exfalso; simp at h; done)
        | (exfalso; simp at h; omega)
        | (exfalso; simp_all; done)
        | (exfalso; have h' := of_decide_eq_false h; omega)
        | (exfalso; have h' := of_decide_eq_true h; omega)
        | (exfalso; rename_i hq; have h' := of_decide_eq_true hq; omega)
        | (exfalso; rename_i hq; have h' := of_decide_eq_false hq; omega)
        | (exfalso; rename_i hq _; have h' := of_decide_eq_true hq; omega)
        | (exfalso; rename_i hq _; have h' := of_decide_eq_false hq; omega)
        | trace_state
    | some c =>
      have hlt := lt_of_at hx
      have hr := row_at Change.enc hx
      have hol := invN_len cs i
      have hb : ((invN cs i).map Change.enc).length + 1 ≤ 1073741824 := by rw [List.length_map]; omega
      have hnx := invN_next hx
      have hone := change_one [invC c]
      have hE : (invC c).enc = if c.kind = 1 then [.int .i64 2, .int .i64 c.trip.id, .int .i64 c.trip.line, .int .i64 c.trip.start, .int .i64 c.to] else if c.kind = 2 then [.int .i64 1, .int .i64 c.trip.id, .int .i64 c.trip.line, .int .i64 c.trip.start, .int .i64 c.to] else [.int .i64 c.kind, .int .i64 c.trip.id, .int .i64 c.trip.line, .int .i64 c.to, .int .i64 c.trip.start] := by
        unfold invC
        split
        · rfl
        · split <;> rfl
      by_cases k1 : c.kind = 1
      · rw [if_pos k1] at hE
        have hone' : ([(invC c).enc]).all (fun r => r.all D.one) = true := hone
        rw [hE] at hone'
        repeat' first | refine go_seq ?_ | refine go_region ?_ | ((first | refine go_op rfl ?_ | refine go_nil ?_ | refine go_storeBox rfl rfl rfl rfl rfl rfl ?_ | refine go_idx rfl rfl rfl rfl (by omega) hr rfl ?_ | refine go_append rfl rfl rfl rfl rfl rfl rfl rfl rfl rfl rfl rfl hone' rfl rfl rfl hb ?_) <;> conv => whnf) | ((first | refine go_loadB ?_ | refine ⟨by kernel_rfl, ?_⟩ | refine go_ret ?_) <;> conv => whnf) | refine go_block ?_ | ((first | refine go_skip ?_ | refine go_exit ?_) <;> conv => whnf) | refine go_true rfl ?_ | refine go_false rfl ?_ | refine go_cond rfl (fun h => ?_) (fun h => ?_) | refine ⟨rfl, ?_⟩ | ((first | refine ⟨trivial, ?_⟩ | refine ⟨le_of_ble rfl, ?_⟩) <;> conv => whnf) | fail
        all_goals first
          | (refine go_next (i + 1) (by omega) (by omega) (ref_st (fun y => if y = 1000 then nid 6 38 else y) rfl ⟨⟨?_, rfl⟩, rfl, rfl, next_i (by omega), trivial⟩ ⟨?_, trivial⟩ (by simp) rfl (by simp))
             · show AV.own _ _ _ = AV.own _ _ _
               rw [hnx, List.map_append, List.length_append]; try rfl
             · rw [hnx, List.map_append, List.map_singleton, hE]; rfl)
          | (refine go_next (i + 1) (by omega) (by omega) (ref_st (fun y => if y = 1000 then nid 7 38 else y) rfl ⟨⟨?_, rfl⟩, rfl, rfl, next_i (by omega), trivial⟩ ⟨?_, trivial⟩ (by simp) rfl (by simp))
             · show AV.own _ _ _ = AV.own _ _ _
               rw [hnx, List.map_append, List.length_append]; try rfl
             · rw [hnx, List.map_append, List.map_singleton, hE]; rfl)
          | (refine go_next (i + 1) (by omega) (by omega) (ref_st (fun y => if y = 1000 then nid 8 38 else y) rfl ⟨⟨?_, rfl⟩, rfl, rfl, next_i (by omega), trivial⟩ ⟨?_, trivial⟩ (by simp) rfl (by simp))
             · show AV.own _ _ _ = AV.own _ _ _
               rw [hnx, List.map_append, List.length_append]; try rfl
             · rw [hnx, List.map_append, List.map_singleton, hE]; rfl)
          | (refine go_next (i + 1) (by omega) (by omega) (ref_st (fun y => if y = 1000 then nid 9 38 else y) rfl ⟨⟨?_, rfl⟩, rfl, rfl, next_i (by omega), trivial⟩ ⟨?_, trivial⟩ (by simp) rfl (by simp))
             · show AV.own _ _ _ = AV.own _ _ _
               rw [hnx, List.map_append, List.length_append]; try rfl
             · rw [hnx, List.map_append, List.map_singleton, hE]; rfl)
          | (refine go_next (i + 1) (by omega) (by omega) (ref_st (fun y => if y = 1000 then nid 10 38 else y) rfl ⟨⟨?_, rfl⟩, rfl, rfl, next_i (by omega), trivial⟩ ⟨?_, trivial⟩ (by simp) rfl (by simp))
             · show AV.own _ _ _ = AV.own _ _ _
               rw [hnx, List.map_append, List.length_append]; try rfl
             · rw [hnx, List.map_append, List.map_singleton, hE]; rfl)
          | (exfalso; simp at h; done)
          | (exfalso; simp at h; omega)
          | (exfalso; simp_all; done)
          | (exfalso; have h' := of_decide_eq_false h; omega)
          | (exfalso; have h' := of_decide_eq_true h; omega)
          | (exfalso; rename_i hq; have h' := of_decide_eq_true hq; omega)
          | (exfalso; rename_i hq; have h' := of_decide_eq_false hq; omega)
          | (exfalso; rename_i hq _; have h' := of_decide_eq_true hq; omega)
          | (exfalso; rename_i hq _; have h' := of_decide_eq_false hq; omega)
          | trace_state
      by_cases k2 : c.kind = 2
      · rw [if_neg k1, if_pos k2] at hE
        have hone' : ([(invC c).enc]).all (fun r => r.all D.one) = true := hone
        rw [hE] at hone'
        repeat' first | refine go_seq ?_ | refine go_region ?_ | ((first | refine go_op rfl ?_ | refine go_nil ?_ | refine go_storeBox rfl rfl rfl rfl rfl rfl ?_ | refine go_idx rfl rfl rfl rfl (by omega) hr rfl ?_ | refine go_append rfl rfl rfl rfl rfl rfl rfl rfl rfl rfl rfl rfl hone' rfl rfl rfl hb ?_) <;> conv => whnf) | ((first | refine go_loadB ?_ | refine ⟨by kernel_rfl, ?_⟩ | refine go_ret ?_) <;> conv => whnf) | refine go_block ?_ | ((first | refine go_skip ?_ | refine go_exit ?_) <;> conv => whnf) | refine go_true rfl ?_ | refine go_false rfl ?_ | refine go_cond rfl (fun h => ?_) (fun h => ?_) | refine ⟨rfl, ?_⟩ | ((first | refine ⟨trivial, ?_⟩ | refine ⟨le_of_ble rfl, ?_⟩) <;> conv => whnf) | fail
        all_goals first
          | (refine go_next (i + 1) (by omega) (by omega) (ref_st (fun y => if y = 1000 then nid 6 38 else y) rfl ⟨⟨?_, rfl⟩, rfl, rfl, next_i (by omega), trivial⟩ ⟨?_, trivial⟩ (by simp) rfl (by simp))
             · show AV.own _ _ _ = AV.own _ _ _
               rw [hnx, List.map_append, List.length_append]; try rfl
             · rw [hnx, List.map_append, List.map_singleton, hE]; rfl)
          | (refine go_next (i + 1) (by omega) (by omega) (ref_st (fun y => if y = 1000 then nid 7 38 else y) rfl ⟨⟨?_, rfl⟩, rfl, rfl, next_i (by omega), trivial⟩ ⟨?_, trivial⟩ (by simp) rfl (by simp))
             · show AV.own _ _ _ = AV.own _ _ _
               rw [hnx, List.map_append, List.length_append]; try rfl
             · rw [hnx, List.map_append, List.map_singleton, hE]; rfl)
          | (refine go_next (i + 1) (by omega) (by omega) (ref_st (fun y => if y = 1000 then nid 8 38 else y) rfl ⟨⟨?_, rfl⟩, rfl, rfl, next_i (by omega), trivial⟩ ⟨?_, trivial⟩ (by simp) rfl (by simp))
             · show AV.own _ _ _ = AV.own _ _ _
               rw [hnx, List.map_append, List.length_append]; try rfl
             · rw [hnx, List.map_append, List.map_singleton, hE]; rfl)
          | (refine go_next (i + 1) (by omega) (by omega) (ref_st (fun y => if y = 1000 then nid 9 38 else y) rfl ⟨⟨?_, rfl⟩, rfl, rfl, next_i (by omega), trivial⟩ ⟨?_, trivial⟩ (by simp) rfl (by simp))
             · show AV.own _ _ _ = AV.own _ _ _
               rw [hnx, List.map_append, List.length_append]; try rfl
             · rw [hnx, List.map_append, List.map_singleton, hE]; rfl)
          | (refine go_next (i + 1) (by omega) (by omega) (ref_st (fun y => if y = 1000 then nid 10 38 else y) rfl ⟨⟨?_, rfl⟩, rfl, rfl, next_i (by omega), trivial⟩ ⟨?_, trivial⟩ (by simp) rfl (by simp))
             · show AV.own _ _ _ = AV.own _ _ _
               rw [hnx, List.map_append, List.length_append]; try rfl
             · rw [hnx, List.map_append, List.map_singleton, hE]; rfl)
          | (exfalso; simp at h; done)
          | (exfalso; simp at h; omega)
          | (exfalso; simp_all; done)
          | (exfalso; have h' := of_decide_eq_false h; omega)
          | (exfalso; have h' := of_decide_eq_true h; omega)
          | (exfalso; rename_i hq; have h' := of_decide_eq_true hq; omega)
          | (exfalso; rename_i hq; have h' := of_decide_eq_false hq; omega)
          | (exfalso; rename_i hq _; have h' := of_decide_eq_true hq; omega)
          | (exfalso; rename_i hq _; have h' := of_decide_eq_false hq; omega)
          | trace_state
      rw [if_neg k1, if_neg k2] at hE
      have hone' : ([(invC c).enc]).all (fun r => r.all D.one) = true := hone
      rw [hE] at hone'
      repeat' first | refine go_seq ?_ | refine go_region ?_ | ((first | refine go_op rfl ?_ | refine go_nil ?_ | refine go_storeBox rfl rfl rfl rfl rfl rfl ?_ | refine go_idx rfl rfl rfl rfl (by omega) hr rfl ?_ | refine go_append rfl rfl rfl rfl rfl rfl rfl rfl rfl rfl rfl rfl hone' rfl rfl rfl hb ?_) <;> conv => whnf) | ((first | refine go_loadB ?_ | refine ⟨by kernel_rfl, ?_⟩ | refine go_ret ?_) <;> conv => whnf) | refine go_block ?_ | ((first | refine go_skip ?_ | refine go_exit ?_) <;> conv => whnf) | refine go_true rfl ?_ | refine go_false rfl ?_ | refine go_cond rfl (fun h => ?_) (fun h => ?_) | refine ⟨rfl, ?_⟩ | ((first | refine ⟨trivial, ?_⟩ | refine ⟨le_of_ble rfl, ?_⟩) <;> conv => whnf) | fail
      all_goals first
        | (refine go_next (i + 1) (by omega) (by omega) (ref_st (fun y => if y = 1000 then nid 6 38 else y) rfl ⟨⟨?_, rfl⟩, rfl, rfl, next_i (by omega), trivial⟩ ⟨?_, trivial⟩ (by simp) rfl (by simp))
           · show AV.own _ _ _ = AV.own _ _ _
             rw [hnx, List.map_append, List.length_append]; try rfl
           · rw [hnx, List.map_append, List.map_singleton, hE]; rfl)
        | (refine go_next (i + 1) (by omega) (by omega) (ref_st (fun y => if y = 1000 then nid 7 38 else y) rfl ⟨⟨?_, rfl⟩, rfl, rfl, next_i (by omega), trivial⟩ ⟨?_, trivial⟩ (by simp) rfl (by simp))
           · show AV.own _ _ _ = AV.own _ _ _
             rw [hnx, List.map_append, List.length_append]; try rfl
           · rw [hnx, List.map_append, List.map_singleton, hE]; rfl)
        | (refine go_next (i + 1) (by omega) (by omega) (ref_st (fun y => if y = 1000 then nid 8 38 else y) rfl ⟨⟨?_, rfl⟩, rfl, rfl, next_i (by omega), trivial⟩ ⟨?_, trivial⟩ (by simp) rfl (by simp))
           · show AV.own _ _ _ = AV.own _ _ _
             rw [hnx, List.map_append, List.length_append]; try rfl
           · rw [hnx, List.map_append, List.map_singleton, hE]; rfl)
        | (refine go_next (i + 1) (by omega) (by omega) (ref_st (fun y => if y = 1000 then nid 9 38 else y) rfl ⟨⟨?_, rfl⟩, rfl, rfl, next_i (by omega), trivial⟩ ⟨?_, trivial⟩ (by simp) rfl (by simp))
           · show AV.own _ _ _ = AV.own _ _ _
             rw [hnx, List.map_append, List.length_append]; try rfl
           · rw [hnx, List.map_append, List.map_singleton, hE]; rfl)
        | (refine go_next (i + 1) (by omega) (by omega) (ref_st (fun y => if y = 1000 then nid 10 38 else y) rfl ⟨⟨?_, rfl⟩, rfl, rfl, next_i (by omega), trivial⟩ ⟨?_, trivial⟩ (by simp) rfl (by simp))
           · show AV.own _ _ _ = AV.own _ _ _
             rw [hnx, List.map_append, List.length_append]; try rfl
           · rw [hnx, List.map_append, List.map_singleton, hE]; rfl)
        | (exfalso; simp at h; done)
        | (exfalso; simp at h; omega)
        | (exfalso; simp_all; done)
        | (exfalso; have h' := of_decide_eq_false h; omega)
        | (exfalso; have h' := of_decide_eq_true h; omega)
        | (exfalso; rename_i hq; have h' := of_decide_eq_true hq; omega)
        | (exfalso; rename_i hq; have h' := of_decide_eq_false hq; omega)
        | (exfalso; rename_i hq _; have h' := of_decide_eq_true hq; omega)
        | (exfalso; rename_i hq _; have h' := of_decide_eq_false hq; omega)
        | trace_state

theorem c15 (t : Timetable) (hf : t.fit) (cs : List Change) (hl : cs.length ≤ 1048576) : CallOk Try.prog 15 [.imm (.agg t.enc), .imm (.list (cs.map Change.enc))] { res := [.arr 71 5 ((invL t cs).map Change.enc), .imm (.bool (ivOk t cs))] } := by
  refine callOk_of tyOk Try.func15 rfl rfl (le_of_ble rfl) (le_of_ble rfl) (mutOk_imm rfl _) ?_
  have h0 := c9 t hf cs hl
  unfold invL
  cases hp : ivOk t cs with
  | false =>
    rw [hp] at h0
    repeat' first | refine go_seq ?_ | refine go_region ?_ | ((first | refine go_op rfl ?_ | refine go_nil ?_ | refine go_storeBox rfl rfl rfl rfl rfl rfl ?_ | refine go_call [] (h0) rfl rfl rfl rfl ?_) <;> conv => whnf) | ((first | refine go_loadB ?_ | refine ⟨by kernel_rfl, ?_⟩ | refine go_ret ?_) <;> conv => whnf) | refine go_block ?_ | ((first | refine go_skip ?_ | refine go_exit ?_) <;> conv => whnf) | refine go_true rfl ?_ | refine go_false rfl ?_ | refine go_cond rfl (fun h => ?_) (fun h => ?_) | refine ⟨rfl, ?_⟩ | ((first | refine ⟨trivial, ?_⟩ | refine ⟨le_of_ble rfl, ?_⟩) <;> conv => whnf) | fail
    all_goals first
      | exact ret_arr2 rfl rfl rfl rfl rfl rfl (by intro r hr; cases hr) rfl rfl rfl
      | (exfalso; simp at h; done)
      | trace_state
  | true =>
    rw [hp] at h0
    rw [if_pos rfl]
    repeat' first | refine go_seq ?_ | refine go_region ?_ | ((first | refine go_op rfl ?_ | refine go_nil ?_ | refine go_storeBox rfl rfl rfl rfl rfl rfl ?_ | refine go_call [] (h0) rfl rfl rfl rfl ?_) <;> conv => whnf) | ((first | refine go_loadB ?_ | refine ⟨by kernel_rfl, ?_⟩ | refine go_ret ?_) <;> conv => whnf) | refine go_block ?_ | ((first | refine go_skip ?_ | refine go_exit ?_) <;> conv => whnf) | refine go_true rfl ?_ | refine go_false rfl ?_ | refine go_cond rfl (fun h => ?_) (fun h => ?_) | refine ⟨rfl, ?_⟩ | ((first | refine ⟨trivial, ?_⟩ | refine ⟨le_of_ble rfl, ?_⟩) <;> conv => whnf) | fail
    all_goals try first
      | (exfalso; simp at h; done)
    refine go_loop (α := Nat) (fun i => i ≤ cs.length) (fun i => cs.length - i)
      (fun i => st Try.f15.ntmps [(1, .imm (.list (cs.map Change.enc))), (6, .own 1000 0 ((invN cs i).map Change.enc).length), (7, .imm (.int .i64 (i : Nat)))]
        [(1000, .arr 71 5 ((invN cs i).map Change.enc))] []) 0 (Nat.zero_le _) ?_ ?_
    · exact ref_st (fun _ => nid 2 10) rfl ⟨rfl, ⟨rfl, rfl⟩, rfl, trivial⟩ ⟨rfl, trivial⟩ (by simp) rfl (by simp)
    intro i hi
    cases hx : cs[i]? with
    | none =>
      have hge := le_of_at hx
      rw [invN_all hge]
      repeat' first | refine go_seq ?_ | refine go_region ?_ | ((first | refine go_op rfl ?_ | refine go_nil ?_ | refine go_storeBox rfl rfl rfl rfl rfl rfl ?_) <;> conv => whnf) | ((first | refine go_loadB ?_ | refine ⟨by kernel_rfl, ?_⟩ | refine go_ret ?_) <;> conv => whnf) | refine go_block ?_ | ((first | refine go_skip ?_ | refine go_exit ?_) <;> conv => whnf) | refine go_true rfl ?_ | refine go_false rfl ?_ | refine go_cond rfl (fun h => ?_) (fun h => ?_) | refine ⟨rfl, ?_⟩ | ((first | refine ⟨trivial, ?_⟩ | refine ⟨le_of_ble rfl, ?_⟩) <;> conv => whnf) | fail
      all_goals first
        | exact ret_arr2 rfl rfl rfl rfl rfl (by rw [List.drop_zero, List.take_length]) (change_gr _) rfl rfl rfl
        | (exfalso; simp at h; done)
        | (exfalso; simp at h; omega)
        | (exfalso; simp_all; done)
        | (exfalso; have h' := of_decide_eq_false h; omega)
        | (exfalso; have h' := of_decide_eq_true h; omega)
        | (exfalso; rename_i hq; have h' := of_decide_eq_true hq; omega)
        | (exfalso; rename_i hq; have h' := of_decide_eq_false hq; omega)
        | (exfalso; rename_i hq _; have h' := of_decide_eq_true hq; omega)
        | (exfalso; rename_i hq _; have h' := of_decide_eq_false hq; omega)
        | trace_state
    | some c =>
      have hlt := lt_of_at hx
      have hr := row_at Change.enc hx
      have hol := invN_len cs i
      have hb : ((invN cs i).map Change.enc).length + 1 ≤ 1073741824 := by rw [List.length_map]; omega
      have hnx := invN_next hx
      have hone := change_one [invC c]
      have hE : (invC c).enc = if c.kind = 1 then [.int .i64 2, .int .i64 c.trip.id, .int .i64 c.trip.line, .int .i64 c.trip.start, .int .i64 c.to] else if c.kind = 2 then [.int .i64 1, .int .i64 c.trip.id, .int .i64 c.trip.line, .int .i64 c.trip.start, .int .i64 c.to] else [.int .i64 c.kind, .int .i64 c.trip.id, .int .i64 c.trip.line, .int .i64 c.to, .int .i64 c.trip.start] := by
        unfold invC
        split
        · rfl
        · split <;> rfl
      by_cases k1 : c.kind = 1
      · rw [if_pos k1] at hE
        have hone' : ([(invC c).enc]).all (fun r => r.all D.one) = true := hone
        rw [hE] at hone'
        repeat' first | refine go_seq ?_ | refine go_region ?_ | ((first | refine go_op rfl ?_ | refine go_nil ?_ | refine go_storeBox rfl rfl rfl rfl rfl rfl ?_ | refine go_idx rfl rfl rfl rfl (by omega) hr rfl ?_ | refine go_append rfl rfl rfl rfl rfl rfl rfl rfl rfl rfl rfl rfl hone' rfl rfl rfl hb ?_) <;> conv => whnf) | ((first | refine go_loadB ?_ | refine ⟨by kernel_rfl, ?_⟩ | refine go_ret ?_) <;> conv => whnf) | refine go_block ?_ | ((first | refine go_skip ?_ | refine go_exit ?_) <;> conv => whnf) | refine go_true rfl ?_ | refine go_false rfl ?_ | refine go_cond rfl (fun h => ?_) (fun h => ?_) | refine ⟨rfl, ?_⟩ | ((first | refine ⟨trivial, ?_⟩ | refine ⟨le_of_ble rfl, ?_⟩) <;> conv => whnf) | fail
        all_goals first
          | (refine go_next (i + 1) (by omega) (by omega) (ref_st (fun y => if y = 1000 then nid 6 46 else y) rfl ⟨rfl, ⟨?_, rfl⟩, next_i (by omega), trivial⟩ ⟨?_, trivial⟩ (by simp) rfl (by simp))
             · show AV.own _ _ _ = AV.own _ _ _
               rw [hnx, List.map_append, List.length_append]; try rfl
             · rw [hnx, List.map_append, List.map_singleton, hE]; rfl)
          | (refine go_next (i + 1) (by omega) (by omega) (ref_st (fun y => if y = 1000 then nid 7 46 else y) rfl ⟨rfl, ⟨?_, rfl⟩, next_i (by omega), trivial⟩ ⟨?_, trivial⟩ (by simp) rfl (by simp))
             · show AV.own _ _ _ = AV.own _ _ _
               rw [hnx, List.map_append, List.length_append]; try rfl
             · rw [hnx, List.map_append, List.map_singleton, hE]; rfl)
          | (refine go_next (i + 1) (by omega) (by omega) (ref_st (fun y => if y = 1000 then nid 8 46 else y) rfl ⟨rfl, ⟨?_, rfl⟩, next_i (by omega), trivial⟩ ⟨?_, trivial⟩ (by simp) rfl (by simp))
             · show AV.own _ _ _ = AV.own _ _ _
               rw [hnx, List.map_append, List.length_append]; try rfl
             · rw [hnx, List.map_append, List.map_singleton, hE]; rfl)
          | (refine go_next (i + 1) (by omega) (by omega) (ref_st (fun y => if y = 1000 then nid 9 46 else y) rfl ⟨rfl, ⟨?_, rfl⟩, next_i (by omega), trivial⟩ ⟨?_, trivial⟩ (by simp) rfl (by simp))
             · show AV.own _ _ _ = AV.own _ _ _
               rw [hnx, List.map_append, List.length_append]; try rfl
             · rw [hnx, List.map_append, List.map_singleton, hE]; rfl)
          | (refine go_next (i + 1) (by omega) (by omega) (ref_st (fun y => if y = 1000 then nid 10 46 else y) rfl ⟨rfl, ⟨?_, rfl⟩, next_i (by omega), trivial⟩ ⟨?_, trivial⟩ (by simp) rfl (by simp))
             · show AV.own _ _ _ = AV.own _ _ _
               rw [hnx, List.map_append, List.length_append]; try rfl
             · rw [hnx, List.map_append, List.map_singleton, hE]; rfl)
          | (exfalso; simp at h; done)
          | (exfalso; simp at h; omega)
          | (exfalso; simp_all; done)
          | (exfalso; have h' := of_decide_eq_false h; omega)
          | (exfalso; have h' := of_decide_eq_true h; omega)
          | (exfalso; rename_i hq; have h' := of_decide_eq_true hq; omega)
          | (exfalso; rename_i hq; have h' := of_decide_eq_false hq; omega)
          | (exfalso; rename_i hq _; have h' := of_decide_eq_true hq; omega)
          | (exfalso; rename_i hq _; have h' := of_decide_eq_false hq; omega)
          | trace_state
      by_cases k2 : c.kind = 2
      · rw [if_neg k1, if_pos k2] at hE
        have hone' : ([(invC c).enc]).all (fun r => r.all D.one) = true := hone
        rw [hE] at hone'
        repeat' first | refine go_seq ?_ | refine go_region ?_ | ((first | refine go_op rfl ?_ | refine go_nil ?_ | refine go_storeBox rfl rfl rfl rfl rfl rfl ?_ | refine go_idx rfl rfl rfl rfl (by omega) hr rfl ?_ | refine go_append rfl rfl rfl rfl rfl rfl rfl rfl rfl rfl rfl rfl hone' rfl rfl rfl hb ?_) <;> conv => whnf) | ((first | refine go_loadB ?_ | refine ⟨by kernel_rfl, ?_⟩ | refine go_ret ?_) <;> conv => whnf) | refine go_block ?_ | ((first | refine go_skip ?_ | refine go_exit ?_) <;> conv => whnf) | refine go_true rfl ?_ | refine go_false rfl ?_ | refine go_cond rfl (fun h => ?_) (fun h => ?_) | refine ⟨rfl, ?_⟩ | ((first | refine ⟨trivial, ?_⟩ | refine ⟨le_of_ble rfl, ?_⟩) <;> conv => whnf) | fail
        all_goals first
          | (refine go_next (i + 1) (by omega) (by omega) (ref_st (fun y => if y = 1000 then nid 6 46 else y) rfl ⟨rfl, ⟨?_, rfl⟩, next_i (by omega), trivial⟩ ⟨?_, trivial⟩ (by simp) rfl (by simp))
             · show AV.own _ _ _ = AV.own _ _ _
               rw [hnx, List.map_append, List.length_append]; try rfl
             · rw [hnx, List.map_append, List.map_singleton, hE]; rfl)
          | (refine go_next (i + 1) (by omega) (by omega) (ref_st (fun y => if y = 1000 then nid 7 46 else y) rfl ⟨rfl, ⟨?_, rfl⟩, next_i (by omega), trivial⟩ ⟨?_, trivial⟩ (by simp) rfl (by simp))
             · show AV.own _ _ _ = AV.own _ _ _
               rw [hnx, List.map_append, List.length_append]; try rfl
             · rw [hnx, List.map_append, List.map_singleton, hE]; rfl)
          | (refine go_next (i + 1) (by omega) (by omega) (ref_st (fun y => if y = 1000 then nid 8 46 else y) rfl ⟨rfl, ⟨?_, rfl⟩, next_i (by omega), trivial⟩ ⟨?_, trivial⟩ (by simp) rfl (by simp))
             · show AV.own _ _ _ = AV.own _ _ _
               rw [hnx, List.map_append, List.length_append]; try rfl
             · rw [hnx, List.map_append, List.map_singleton, hE]; rfl)
          | (refine go_next (i + 1) (by omega) (by omega) (ref_st (fun y => if y = 1000 then nid 9 46 else y) rfl ⟨rfl, ⟨?_, rfl⟩, next_i (by omega), trivial⟩ ⟨?_, trivial⟩ (by simp) rfl (by simp))
             · show AV.own _ _ _ = AV.own _ _ _
               rw [hnx, List.map_append, List.length_append]; try rfl
             · rw [hnx, List.map_append, List.map_singleton, hE]; rfl)
          | (refine go_next (i + 1) (by omega) (by omega) (ref_st (fun y => if y = 1000 then nid 10 46 else y) rfl ⟨rfl, ⟨?_, rfl⟩, next_i (by omega), trivial⟩ ⟨?_, trivial⟩ (by simp) rfl (by simp))
             · show AV.own _ _ _ = AV.own _ _ _
               rw [hnx, List.map_append, List.length_append]; try rfl
             · rw [hnx, List.map_append, List.map_singleton, hE]; rfl)
          | (exfalso; simp at h; done)
          | (exfalso; simp at h; omega)
          | (exfalso; simp_all; done)
          | (exfalso; have h' := of_decide_eq_false h; omega)
          | (exfalso; have h' := of_decide_eq_true h; omega)
          | (exfalso; rename_i hq; have h' := of_decide_eq_true hq; omega)
          | (exfalso; rename_i hq; have h' := of_decide_eq_false hq; omega)
          | (exfalso; rename_i hq _; have h' := of_decide_eq_true hq; omega)
          | (exfalso; rename_i hq _; have h' := of_decide_eq_false hq; omega)
          | trace_state
      rw [if_neg k1, if_neg k2] at hE
      have hone' : ([(invC c).enc]).all (fun r => r.all D.one) = true := hone
      rw [hE] at hone'
      repeat' first | refine go_seq ?_ | refine go_region ?_ | ((first | refine go_op rfl ?_ | refine go_nil ?_ | refine go_storeBox rfl rfl rfl rfl rfl rfl ?_ | refine go_idx rfl rfl rfl rfl (by omega) hr rfl ?_ | refine go_append rfl rfl rfl rfl rfl rfl rfl rfl rfl rfl rfl rfl hone' rfl rfl rfl hb ?_) <;> conv => whnf) | ((first | refine go_loadB ?_ | refine ⟨by kernel_rfl, ?_⟩ | refine go_ret ?_) <;> conv => whnf) | refine go_block ?_ | ((first | refine go_skip ?_ | refine go_exit ?_) <;> conv => whnf) | refine go_true rfl ?_ | refine go_false rfl ?_ | refine go_cond rfl (fun h => ?_) (fun h => ?_) | refine ⟨rfl, ?_⟩ | ((first | refine ⟨trivial, ?_⟩ | refine ⟨le_of_ble rfl, ?_⟩) <;> conv => whnf) | fail
      all_goals first
        | (refine go_next (i + 1) (by omega) (by omega) (ref_st (fun y => if y = 1000 then nid 6 46 else y) rfl ⟨rfl, ⟨?_, rfl⟩, next_i (by omega), trivial⟩ ⟨?_, trivial⟩ (by simp) rfl (by simp))
           · show AV.own _ _ _ = AV.own _ _ _
             rw [hnx, List.map_append, List.length_append]; try rfl
           · rw [hnx, List.map_append, List.map_singleton, hE]; rfl)
        | (refine go_next (i + 1) (by omega) (by omega) (ref_st (fun y => if y = 1000 then nid 7 46 else y) rfl ⟨rfl, ⟨?_, rfl⟩, next_i (by omega), trivial⟩ ⟨?_, trivial⟩ (by simp) rfl (by simp))
           · show AV.own _ _ _ = AV.own _ _ _
             rw [hnx, List.map_append, List.length_append]; try rfl
           · rw [hnx, List.map_append, List.map_singleton, hE]; rfl)
        | (refine go_next (i + 1) (by omega) (by omega) (ref_st (fun y => if y = 1000 then nid 8 46 else y) rfl ⟨rfl, ⟨?_, rfl⟩, next_i (by omega), trivial⟩ ⟨?_, trivial⟩ (by simp) rfl (by simp))
           · show AV.own _ _ _ = AV.own _ _ _
             rw [hnx, List.map_append, List.length_append]; try rfl
           · rw [hnx, List.map_append, List.map_singleton, hE]; rfl)
        | (refine go_next (i + 1) (by omega) (by omega) (ref_st (fun y => if y = 1000 then nid 9 46 else y) rfl ⟨rfl, ⟨?_, rfl⟩, next_i (by omega), trivial⟩ ⟨?_, trivial⟩ (by simp) rfl (by simp))
           · show AV.own _ _ _ = AV.own _ _ _
             rw [hnx, List.map_append, List.length_append]; try rfl
           · rw [hnx, List.map_append, List.map_singleton, hE]; rfl)
        | (refine go_next (i + 1) (by omega) (by omega) (ref_st (fun y => if y = 1000 then nid 10 46 else y) rfl ⟨rfl, ⟨?_, rfl⟩, next_i (by omega), trivial⟩ ⟨?_, trivial⟩ (by simp) rfl (by simp))
           · show AV.own _ _ _ = AV.own _ _ _
             rw [hnx, List.map_append, List.length_append]; try rfl
           · rw [hnx, List.map_append, List.map_singleton, hE]; rfl)
        | (exfalso; simp at h; done)
        | (exfalso; simp at h; omega)
        | (exfalso; simp_all; done)
        | (exfalso; have h' := of_decide_eq_false h; omega)
        | (exfalso; have h' := of_decide_eq_true h; omega)
        | (exfalso; rename_i hq; have h' := of_decide_eq_true hq; omega)
        | (exfalso; rename_i hq; have h' := of_decide_eq_false hq; omega)
        | (exfalso; rename_i hq _; have h' := of_decide_eq_true hq; omega)
        | (exfalso; rename_i hq _; have h' := of_decide_eq_false hq; omega)
        | trace_state

end Go.Proofs.Ytcfhmncbfekoaaa

