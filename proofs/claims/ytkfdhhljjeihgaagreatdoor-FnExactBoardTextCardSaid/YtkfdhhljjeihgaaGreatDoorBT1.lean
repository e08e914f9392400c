/- The text of a board: the program's. -/
import Derived.Test.YtkfdhhljjeihgaaGreatDoorBT0
import Derived.Test.YtkfdhhljjeihgaaGreatDoorAmZ
namespace Go.Proofs.YtkfdhhljjeihgaaGreatDoor
open Go Go.Am
set_option maxRecDepth 100000
set_option maxHeartbeats 4000000
attribute [local irreducible] amOps amC opCall opIndexAddr opPick retQ opMake opStore amDraw opAppend opLoad opNilCmp opIndex opSlice

theorem lays166 : Go.Proofs.Lays.n166 Tryz.prog lays105_ren := { lays105 with }

/-- What the builder holds when i rows are written. -/
theorem lines_str {now : Int} {rs : List BoardRow} {i : Nat} {r : BoardRow} (h : rs[i]? = some r) : linesT now (rs.take i) ++ (ofL (rowT r now) ++ ofL [10]).data.toList = linesT now (rs.take (i + 1)) := by
  rw [linesT_next h, ofL_app]
  rfl

theorem c21 (t : Timetable) (hf : t.fit) (ds : List TripDelay) (hl : ds.length ≤ 1048576) (stop now count : Int) (hnb : nbOk t ds stop now = true) :
    CallOk Tryz.prog 21 [.imm (.agg t.enc), .imm (.list (ds.map TripDelay.enc)), .imm (.int .i64 stop), .imm (.int .i64 now), .imm (.int .i64 count)] { res := [.imm (.str (ofL (linesT now (brR t ds stop now count))))] } := by
  refine callOk_of tyOk Tryz.func21 rfl rfl (le_of_ble rfl) (le_of_ble rfl) (mutOk_imm rfl _) ?_
  have hc1 := c41 t hf (nb_ok hnb) ds hl stop now count
  have hfit := brR_fit (count := count) hnb
  have hlen := brR_len t hf ds stop now count
  generalize brR t ds stop now count = rs at *
  have hml : (rs.map BoardRow.enc).length = rs.length := List.length_map _
  repeat' first | (refine go_bldA (e := 5) Tryz.zeroValue85 rfl rfl ?_; intro b; conv => whnf) | refine go_seq ?_ | refine go_region ?_ | ((first | refine go_op rfl ?_ | refine go_nil ?_ | refine go_storeBox rfl rfl rfl rfl rfl rfl ?_ | refine go_call [] (hc1) rfl rfl rfl rfl ?_) <;> conv => whnf) | ((first | refine go_loadB ?_ | refine ⟨by kernel_rfl, ?_⟩ | refine go_ret ?_) <;> conv => whnf) | refine go_block ?_ | ((first | refine go_skip ?_ | refine go_exit ?_) <;> conv => whnf) | refine go_true rfl ?_ | refine go_false rfl ?_ | refine go_cond rfl (fun h => ?_) (fun h => ?_) | refine ⟨rfl, ?_⟩ | ((first | refine ⟨trivial, ?_⟩ | refine ⟨le_of_ble rfl, ?_⟩) <;> conv => whnf) | fail
  refine go_loop (α := Nat) (fun i => i ≤ rs.length) (fun i => rs.length - i)
    (fun i => st Tryz.f21.ntmps [(3, .imm (.int .i64 now)), (11, .imm (.other (.pointer (some ⟨b, 0, none⟩)))), (19, .own 1001 0 (rs.map BoardRow.enc).length), (20, .imm (.int .i64 (rs.map BoardRow.enc).length)), (21, .imm (.int .i64 (i : Nat)))]
      [(1001, .arr 53 4 (rs.map BoardRow.enc)), (1002, .ext (BldI 85 5 b (linesT now (rs.take i))))] []) 0 (Nat.zero_le _) ?_ ?_
  · exact ref_st (fun y => if y = 1001 then rid 3 19 0 else nid 2 11) rfl ⟨rfl, rfl, ⟨rfl, rfl⟩, rfl, rfl, trivial⟩ ⟨rfl, rfl, trivial⟩ (by simp [nid, rid]) rfl (by simp)
  intro i hi
  cases hx : rs[i]? with
  | none =>
    have hge := le_of_at hx
    rw [List.take_of_length_le hge]
    repeat' first | (refine go_bldS (id := 1002) lays169 Builder_Extra_169 ⟨_, Tryz.func44, rfl, rfl⟩ rfl rfl rfl rfl rfl rfl ?_; conv => whnf) | refine go_seq ?_ | refine go_region ?_ | ((first | refine go_op rfl ?_ | refine go_nil ?_ | refine go_storeBox rfl rfl rfl rfl rfl rfl ?_) <;> conv => whnf) | ((first | refine go_loadB ?_ | refine ⟨by kernel_rfl, ?_⟩ | refine go_ret ?_) <;> conv => whnf) | refine go_block ?_ | ((first | refine go_skip ?_ | refine go_exit ?_) <;> conv => whnf) | refine go_true rfl ?_ | refine go_false rfl ?_ | refine go_cond rfl (fun h => ?_) (fun h => ?_) | refine ⟨rfl, ?_⟩ | ((first | refine ⟨trivial, ?_⟩ | refine ⟨le_of_ble rfl, ?_⟩) <;> conv => whnf) | fail
    all_goals first
      | exact ret_imm rfl rfl rfl rfl rfl rfl
      | (exfalso; have h' := of_decide_eq_false h; omega)
      | (exfalso; have h' := of_decide_eq_true h; omega)
      | (exfalso; rename_i hq; have h' := of_decide_eq_true hq; omega)
      | (exfalso; rename_i hq; have h' := of_decide_eq_false hq; omega)
      | (exfalso; rename_i hq _; have h' := of_decide_eq_true hq; omega)
      | (exfalso; rename_i hq _; have h' := of_decide_eq_false hq; omega)
      | trace_state
  | some r =>
    have hlt := lt_of_at hx
    have hr := row_at BoardRow.enc hx
    have hrf := hfit r (List.mem_of_getElem? hx)
    have hc2 := c43 r now hrf
    have hrl := rowT_len hrf
    have hll := linesT_len (now := now) (rs := rs.take i) fun r hr => hfit r (List.mem_of_mem_take hr)
    have htl : (rs.take i).length ≤ 1048576 := by rw [List.length_take]; omega
    have hcat : (ofL (rowT r now)).size + (ofL [10]).size ≤ 4611686018427387904 := by rw [ofL_size, ofL_size]; simp only [List.length_cons, List.length_nil]; omega
    have hw : (linesT now (rs.take i)).length + (ofL (rowT r now) ++ ofL [10]).size ≤ 140737488355328 := by rw [ByteArray.size_append, ofL_size, ofL_size]; simp only [List.length_cons, List.length_nil]; omega
    have hnx := lines_str (now := now) hx
    repeat' first | (refine go_bldW (id := 1002) lays166 Builder_Extra_105 ⟨_, Tryz.func42, rfl, rfl⟩ rfl rfl rfl rfl rfl rfl rfl rfl hw ?_; conv => whnf) | refine go_seq ?_ | refine go_region ?_ | ((first | refine go_op rfl ?_ | refine go_nil ?_ | refine go_storeBox rfl rfl rfl rfl rfl rfl ?_ | refine go_call [] (hc2) rfl rfl rfl rfl ?_ | refine go_idxOwn rfl rfl rfl rfl rfl rfl (by omega) ?_ | refine go_loadEl rfl rfl rfl hr ?_ | refine ⟨hcat, ?_⟩) <;> conv => whnf) | ((first | refine go_loadB ?_ | refine ⟨by kernel_rfl, ?_⟩ | refine go_ret ?_) <;> conv => whnf) | refine go_block ?_ | ((first | refine go_skip ?_ | refine go_exit ?_) <;> conv => whnf) | refine go_true rfl ?_ | refine go_false rfl ?_ | refine go_cond rfl (fun h => ?_) (fun h => ?_) | refine ⟨rfl, ?_⟩ | ((first | refine ⟨trivial, ?_⟩ | refine ⟨le_of_ble rfl, ?_⟩) <;> conv => whnf) | fail
    all_goals first
      | (refine go_next (i + 1) (by omega) (by omega) (ref_st (fun y => if y = 1002 then nid 4 29 else y) rfl ⟨rfl, rfl, ⟨rfl, rfl⟩, rfl, next_i (by omega), trivial⟩ ⟨rfl, ?_, trivial⟩ (by simp [nid]) rfl (by simp))
         rw [← hnx]
         rfl)
      | (exfalso; have h' := of_decide_eq_false h; omega)
      | (exfalso; have h' := of_decide_eq_true h; omega)
      | (exfalso; rename_i hq; have h' := of_decide_eq_true hq; omega)
      | (exfalso; rename_i hq; have h' := of_decide_eq_false hq; omega)
      | (exfalso; rename_i hq _; have h' := of_decide_eq_true hq; omega)
      | (exfalso; rename_i hq _; have h' := of_decide_eq_false hq; omega)
      | trace_state

theorem c9 (t : Timetable) (hf : t.fit) (ds : List TripDelay) (hl : ds.length ≤ 1048576) (stop now count : Int) :
    CallOk Tryz.prog 9 [.imm (.agg t.enc), .imm (.list (ds.map TripDelay.enc)), .imm (.int .i64 stop), .imm (.int .i64 now), .imm (.int .i64 count)] { res := [.imm (.str (ofL (linesT now (brF t ds stop now count)))), .imm (.bool (brOk t ds stop now count))] } := by
  refine callOk_of tyOk Tryz.func9 rfl rfl (le_of_ble rfl) (le_of_ble rfl) (mutOk_imm rfl _) ?_
  have hc0 := c19 t hf ds hl stop now
  have hc1 := c20 count 1 10
  cases hp : brOk t ds stop now count with
  | false =>
    have e1 : brF t ds stop now count = [] := by unfold brF; rw [hp]; rfl
    rw [e1]
    unfold brOk at hp
    repeat' first | refine go_seq ?_ | refine go_region ?_ | refine go_miss rfl rfl rfl ?_ | refine go_undef rfl rfl rfl ?_ | ((first | refine go_op rfl ?_ | refine go_nil ?_ | refine go_hit rfl rfl rfl ?_ | refine go_splitT rfl rfl rfl (fun h => ?_) (fun h => ?_) | refine go_splitF rfl rfl rfl (fun h => ?_) (fun h => ?_) | refine go_pickT rfl ?_ | refine go_pickF rfl ?_ | refine go_pick rfl (fun h => ?_) (fun h => ?_) | refine go_call [] (hc0) rfl rfl rfl rfl ?_ | refine go_call [] (hc1) rfl rfl rfl rfl ?_) <;> conv => whnf) | ((first | refine go_loadB ?_ | refine ⟨by kernel_rfl, ?_⟩ | refine go_ret ?_) <;> conv => whnf) | ((first | refine go_skip ?_) <;> conv => whnf) | refine go_true rfl ?_ | refine go_false rfl ?_ | refine go_cond rfl (fun h => ?_) (fun h => ?_) | refine ⟨rfl, ?_⟩ | ((first | refine ⟨trivial, ?_⟩ | refine ⟨le_of_ble rfl, ?_⟩) <;> conv => whnf) | fail
    all_goals first
      | exact ret_imm2 rfl rfl rfl rfl rfl rfl rfl rfl
      | (exfalso; simp_all; done)
      | trace_state
  | true =>
    have e1 : brF t ds stop now count = brR t ds stop now count := by unfold brF; rw [hp]; rfl
    rw [e1]
    unfold brOk at hp
    simp only [Bool.and_eq_true] at hp
    have hc2 := c21 t hf ds hl stop now count hp.1
    rw [hp.1] at hc0
    rw [hp.2] at hc1
    repeat' first | refine go_seq ?_ | refine go_region ?_ | refine go_miss rfl rfl rfl ?_ | refine go_undef rfl rfl rfl ?_ | ((first | refine go_op rfl ?_ | refine go_nil ?_ | refine go_hit rfl rfl rfl ?_ | refine go_splitT rfl rfl rfl (fun h => ?_) (fun h => ?_) | refine go_splitF rfl rfl rfl (fun h => ?_) (fun h => ?_) | refine go_pickT rfl ?_ | refine go_pickF rfl ?_ | refine go_pick rfl (fun h => ?_) (fun h => ?_) | refine go_call [] (hc0) rfl rfl rfl rfl ?_ | refine go_call [] (hc1) rfl rfl rfl rfl ?_ | refine go_call [] (hc2) rfl rfl rfl rfl ?_) <;> conv => whnf) | ((first | refine go_loadB ?_ | refine ⟨by kernel_rfl, ?_⟩ | refine go_ret ?_) <;> conv => whnf) | ((first | refine go_skip ?_) <;> conv => whnf) | refine go_true rfl ?_ | refine go_false rfl ?_ | refine go_cond rfl (fun h => ?_) (fun h => ?_) | refine ⟨rfl, ?_⟩ | ((first | refine ⟨trivial, ?_⟩ | refine ⟨le_of_ble rfl, ?_⟩) <;> conv => whnf) | fail
    all_goals first
      | exact ret_imm2 rfl rfl rfl rfl rfl rfl rfl rfl
      | (exfalso; simp at h; done)
      | trace_state
end Go.Proofs.YtkfdhhljjeihgaaGreatDoor

