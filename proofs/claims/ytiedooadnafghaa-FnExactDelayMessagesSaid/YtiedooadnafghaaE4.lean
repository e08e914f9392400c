/- The walks of the messages of delays, and the law of DelayMessages, walked. -/
import Derived.Test.YtiedooadnafghaaE3
import Derived.Test.YtiedooadnafghaaN9
namespace Go.Proofs.Ytiedooadnafghaa
open Go Go.Am
set_option maxRecDepth 100000
set_option maxHeartbeats 4000000
attribute [local irreducible] amOps amC opCall opIndexAddr opPick retQ opMake opStore amDraw opAppend opLoad opNilCmp opIndex opSlice

/-- The greatest delay of a line's trips. -/
def dmStep (ds : List TripDelay) (k : Nat) (a : Int) (x : Trip) : Int := if x.line = (k : Int) then (if delOf ds x.id > a then delOf ds x.id else a) else a
def dmMost (t : Timetable) (ds : List TripDelay) (k i : Nat) : Int := (t.trips.take i).foldl (dmStep ds k) 0
theorem dmMost_next {t : Timetable} {i : Nat} {x : Trip} (ds : List TripDelay) (k : Nat) (h : t.trips[i]? = some x) : dmMost t ds k (i + 1) = dmStep ds k (dmMost t ds k i) x := foldl_next h
def dmRow (l : Line) (m : Int) : Message := ⟨1, l.name, ByteArray.empty, 0, 0, m⟩
def dmOne (t : Timetable) (ds : List TripDelay) (lim : Int) (k : Nat) : List Message :=
  match t.net.lines[k]? with
  | some l => if lim ≤ dmMost t ds k t.trips.length then [dmRow l (dmMost t ds k t.trips.length)] else []
  | none => []
def dmOut (t : Timetable) (ds : List TripDelay) (lim : Int) : Nat → List Message
  | 0 => []
  | n + 1 => dmOut t ds lim n ++ dmOne t ds lim n
theorem dmOut_len (t : Timetable) (ds : List TripDelay) (lim : Int) : ∀ n, (dmOut t ds lim n).length ≤ n
  | 0 => by simp [dmOut]
  | n + 1 => by
    have ih := dmOut_len t ds lim n
    have h1 : (dmOne t ds lim n).length ≤ 1 := by
      unfold dmOne
      split
      · split <;> simp
      · simp
    simp only [dmOut, List.length_append]
    omega
def dmOk (t : Timetable) (ds : List TripDelay) (lim : Int) : Bool := delaysOk t ds && inR lim 1 600
def dmR (t : Timetable) (ds : List TripDelay) (lim : Int) : List Message := if dmOk t ds lim then dmOut t ds lim t.net.lines.length else []
theorem dmR_len (t : Timetable) (hf : t.fit) (ds : List TripDelay) (lim : Int) : (dmR t ds lim).length ≤ 1048576 := by
  unfold dmR
  split
  · exact Nat.le_trans (dmOut_len _ _ _ _) hf.1.2.2.1
  · simp

theorem c40 (t : Timetable) (hf : t.fit) (ds : List TripDelay) (hl : ds.length ≤ 1048576) (lim : Int) : CallOk Try.prog 40 [.imm (.agg t.enc), .imm (.list (ds.map TripDelay.enc)), .imm (.int .i64 lim)] { res := [.arr 129 6 ((dmR t ds lim).map Message.enc), .imm (.bool (dmOk t ds lim))] } := by
  refine callOk_of tyOk Try.func40 rfl rfl (le_of_ble rfl) (le_of_ble rfl) (mutOk_imm rfl _) ?_
  have hc0 := c18 t hf ds hl
  have hc1 := c78 lim 1 600
  cases hp : dmOk t ds lim with
  | false =>
    have e1 : dmR t ds lim = [] := by unfold dmR; rw [hp]; rfl
    rw [e1]
    unfold dmOk at hp
    repeat' first | refine go_seq ?_ | refine go_region ?_ | refine go_miss rfl rfl rfl ?_ | refine go_undef rfl rfl rfl ?_ | ((first | refine go_op rfl ?_ | refine go_nil ?_ | refine go_hit rfl rfl rfl ?_ | refine go_splitT rfl rfl rfl (fun h => ?_) (fun h => ?_) | refine go_splitF rfl rfl rfl (fun h => ?_) (fun h => ?_) | refine go_storeBox rfl rfl rfl rfl rfl rfl ?_ | refine go_pickT rfl ?_ | refine go_pickF rfl ?_ | refine go_pick rfl (fun h => ?_) (fun h => ?_) | refine go_call [] (hc0) rfl rfl rfl rfl ?_ | refine go_call [] (hc1) rfl rfl rfl rfl ?_) <;> conv => whnf) | ((first | refine go_loadB ?_ | refine ⟨by kernel_rfl, ?_⟩ | refine go_ret ?_) <;> conv => whnf) | refine go_block ?_ | ((first | refine go_skip ?_ | refine go_exit ?_) <;> conv => whnf) | refine go_true rfl ?_ | refine go_false rfl ?_ | refine go_cond rfl (fun h => ?_) (fun h => ?_) | refine ⟨rfl, ?_⟩ | ((first | refine ⟨trivial, ?_⟩ | refine ⟨le_of_ble rfl, ?_⟩) <;> conv => whnf) | fail
    all_goals first
      | exact ret_arr2 rfl rfl rfl rfl rfl rfl (by intro r hr; cases hr) rfl rfl rfl
      | (exfalso; simp_all; done)
      | trace_state
  | true =>
    have e1 : dmR t ds lim = dmOut t ds lim t.net.lines.length := by unfold dmR; rw [hp]; rfl
    rw [e1]
    have hp' := hp
    unfold dmOk at hp'
    simp only [Bool.and_eq_true] at hp'
    rw [hp'.1] at hc0
    rw [hp'.2] at hc1
    have hnl : t.net.lines.length ≤ 1048576 := hf.1.2.2.1
    have hll : (t.net.lines.map Line.enc).length = t.net.lines.length := List.length_map _
    have htl : (t.trips.map Trip.enc).length = t.trips.length := List.length_map _
    have hnt : t.trips.length ≤ 1048576 := hf.2.1
    repeat' first | refine go_seq ?_ | refine go_region ?_ | refine go_miss rfl rfl rfl ?_ | refine go_undef rfl rfl rfl ?_ | ((first | refine go_op rfl ?_ | refine go_nil ?_ | refine go_hit rfl rfl rfl ?_ | refine go_splitT rfl rfl rfl (fun h => ?_) (fun h => ?_) | refine go_splitF rfl rfl rfl (fun h => ?_) (fun h => ?_) | refine go_storeBox rfl rfl rfl rfl rfl rfl ?_ | refine go_pickT rfl ?_ | refine go_pickF rfl ?_ | refine go_pick rfl (fun h => ?_) (fun h => ?_) | refine go_call [] (hc0) rfl rfl rfl rfl ?_ | refine go_call [] (hc1) rfl rfl rfl rfl ?_) <;> conv => whnf) | ((first | refine go_loadB ?_ | refine ⟨by kernel_rfl, ?_⟩ | refine go_ret ?_) <;> conv => whnf) | refine go_block ?_ | ((first | refine go_skip ?_ | refine go_exit ?_) <;> conv => whnf) | refine go_true rfl ?_ | refine go_false rfl ?_ | refine go_cond rfl (fun h => ?_) (fun h => ?_) | refine ⟨rfl, ?_⟩ | ((first | refine ⟨trivial, ?_⟩ | refine ⟨le_of_ble rfl, ?_⟩) <;> conv => whnf) | fail
    refine go_loop (α := Nat) (fun k => k ≤ t.net.lines.length) (fun k => t.net.lines.length - k)
      (fun k => st Try.f40.ntmps [(1, .imm (.list (ds.map TripDelay.enc))), (2, .imm (.int .i64 lim)), (3, .box 1000 0), (8, .own 1001 0 ((dmOut t ds lim k).map Message.enc).length), (25, .imm (.list (t.net.lines.map Line.enc))), (26, .imm (.int .i64 (t.net.lines.map Line.enc).length)), (27, .imm (.int .i64 (k : Nat)))]
        [(1000, .box 38 (t.enc.map .imm)), (1001, .arr 129 6 ((dmOut t ds lim k).map Message.enc))] []) 0 (Nat.zero_le _) ?_ ?_
    · exact ref_st (fun y => if y = 1000 then nid 1 3 else nid 3 8) rfl ⟨rfl, rfl, ⟨rfl, rfl⟩, ⟨rfl, rfl⟩, rfl, rfl, rfl, trivial⟩ ⟨⟨rfl, wavs_imm _⟩, rfl, trivial⟩ (by simp [nid]) rfl (by simp)
    intro k hk
    cases hx : t.net.lines[k]? with
    | none =>
      have hge := le_of_at hx
      have hie : k = t.net.lines.length := by omega
      rw [hie]
      repeat' first | refine go_seq ?_ | refine go_region ?_ | refine go_miss rfl rfl rfl ?_ | refine go_undef rfl rfl rfl ?_ | ((first | refine go_op rfl ?_ | refine go_nil ?_ | refine go_hit rfl rfl rfl ?_ | refine go_splitT rfl rfl rfl (fun h => ?_) (fun h => ?_) | refine go_splitF rfl rfl rfl (fun h => ?_) (fun h => ?_) | refine go_storeBox rfl rfl rfl rfl rfl rfl ?_ | refine go_pickT rfl ?_ | refine go_pickF rfl ?_ | refine go_pick rfl (fun h => ?_) (fun h => ?_)) <;> conv => whnf) | ((first | refine go_loadB ?_ | refine ⟨by kernel_rfl, ?_⟩ | refine go_ret ?_) <;> conv => whnf) | refine go_block ?_ | ((first | refine go_skip ?_ | refine go_exit ?_) <;> conv => whnf) | refine go_true rfl ?_ | refine go_false rfl ?_ | refine go_cond rfl (fun h => ?_) (fun h => ?_) | refine ⟨rfl, ?_⟩ | ((first | refine ⟨trivial, ?_⟩ | refine ⟨le_of_ble rfl, ?_⟩) <;> conv => whnf) | fail
      all_goals try first
        | (exfalso; have h' := of_decide_eq_false h; omega)
        | (exfalso; have h' := of_decide_eq_true h; omega)
        | (exfalso; rename_i hq; have h' := of_decide_eq_true hq; omega)
        | (exfalso; rename_i hq; have h' := of_decide_eq_false hq; omega)
        | (exfalso; rename_i hq _; have h' := of_decide_eq_true hq; omega)
        | (exfalso; rename_i hq _; have h' := of_decide_eq_false hq; omega)
      · exact ret_arr2 rfl rfl rfl rfl rfl (by rw [List.drop_zero, List.take_length]) (message_gr _) rfl rfl rfl
    | some l =>
      have hlt := lt_of_at hx
      have hr := row_at Line.enc hx
      have hol := dmOut_len t ds lim k
      have hb : ((dmOut t ds lim k).map Message.enc).length + 1 ≤ 1073741824 := by rw [List.length_map]; omega
      repeat' first | refine go_seq ?_ | refine go_region ?_ | refine go_miss rfl rfl rfl ?_ | refine go_undef rfl rfl rfl ?_ | ((first | refine go_op rfl ?_ | refine go_nil ?_ | refine go_hit rfl rfl rfl ?_ | refine go_splitT rfl rfl rfl (fun h => ?_) (fun h => ?_) | refine go_splitF rfl rfl rfl (fun h => ?_) (fun h => ?_) | refine go_storeBox rfl rfl rfl rfl rfl rfl ?_ | refine go_pickT rfl ?_ | refine go_pickF rfl ?_ | refine go_pick rfl (fun h => ?_) (fun h => ?_) | refine go_idx rfl rfl rfl rfl (by omega) hr rfl ?_) <;> conv => whnf) | ((first | refine go_loadB ?_ | refine ⟨by kernel_rfl, ?_⟩ | refine go_ret ?_) <;> conv => whnf) | refine go_block ?_ | ((first | refine go_skip ?_ | refine go_exit ?_) <;> conv => whnf) | refine go_true rfl ?_ | refine go_false rfl ?_ | refine go_cond rfl (fun h => ?_) (fun h => ?_) | refine ⟨rfl, ?_⟩ | ((first | refine ⟨trivial, ?_⟩ | refine ⟨le_of_ble rfl, ?_⟩) <;> conv => whnf) | fail
      all_goals try first
        | (exfalso; have h' := of_decide_eq_false h; omega)
        | (exfalso; have h' := of_decide_eq_true h; omega)
        | (exfalso; rename_i hq; have h' := of_decide_eq_true hq; omega)
        | (exfalso; rename_i hq; have h' := of_decide_eq_false hq; omega)
        | (exfalso; rename_i hq _; have h' := of_decide_eq_true hq; omega)
        | (exfalso; rename_i hq _; have h' := of_decide_eq_false hq; omega)
      refine go_loop (α := Nat) (fun i => i ≤ t.trips.length) (fun i => t.trips.length - i)
        (fun i => st Try.f40.ntmps [(1, .imm (.list (ds.map TripDelay.enc))), (2, .imm (.int .i64 lim)), (3, .box 1000 0), (8, .own 1001 0 ((dmOut t ds lim k).map Message.enc).length), (9, .imm (.int .i64 (k : Nat))), (10, .box 1002 0), (11, .imm (.int .i64 (dmMost t ds k i))), (25, .imm (.list (t.net.lines.map Line.enc))), (26, .imm (.int .i64 (t.net.lines.map Line.enc).length)), (27, .imm (.int .i64 (k : Nat))), (33, .imm (.list (t.trips.map Trip.enc))), (34, .imm (.int .i64 (t.trips.map Trip.enc).length)), (35, .imm (.int .i64 (i : Nat)))]
          [(1000, .box 38 (t.enc.map .imm)), (1001, .arr 129 6 ((dmOut t ds lim k).map Message.enc)), (1002, .box 108 (l.enc.map .imm))] []) 0 (Nat.zero_le _) ?_ ?_
      · exact ref_st (fun y => if y = 1002 then nid 3 10 else y) rfl ⟨rfl, rfl, ⟨rfl, rfl⟩, ⟨rfl, rfl⟩, rfl, ⟨rfl, rfl⟩, rfl, rfl, rfl, rfl, rfl, rfl, rfl, trivial⟩ ⟨⟨rfl, wavs_imm _⟩, rfl, ⟨rfl, wavs_imm _⟩, trivial⟩ (by simp [nid]) rfl (by simp)
      intro i hi
      cases hy : t.trips[i]? with
      | some x =>
        have hlt2 := lt_of_at hy
        have hr2 := row_at Trip.enc hy
        have hnx := dmMost_next ds k hy
        have hc2 := c86 ds x.id hl
        repeat' first | refine go_seq ?_ | refine go_region ?_ | refine go_miss rfl rfl rfl ?_ | refine go_undef rfl rfl rfl ?_ | ((first | refine go_op rfl ?_ | refine go_nil ?_ | refine go_hit rfl rfl rfl ?_ | refine go_splitT rfl rfl rfl (fun h => ?_) (fun h => ?_) | refine go_splitF rfl rfl rfl (fun h => ?_) (fun h => ?_) | refine go_storeBox rfl rfl rfl rfl rfl rfl ?_ | refine go_pickT rfl ?_ | refine go_pickF rfl ?_ | refine go_pick rfl (fun h => ?_) (fun h => ?_) | refine go_call [] (hc2) rfl rfl rfl rfl ?_ | refine go_idx rfl rfl rfl rfl (by omega) hr2 rfl ?_) <;> conv => whnf) | ((first | refine go_loadB ?_ | refine ⟨by kernel_rfl, ?_⟩ | refine go_ret ?_) <;> conv => whnf) | refine go_block ?_ | ((first | refine go_skip ?_ | refine go_exit ?_) <;> conv => whnf) | refine go_true rfl ?_ | refine go_false rfl ?_ | refine go_cond rfl (fun h => ?_) (fun h => ?_) | refine ⟨rfl, ?_⟩ | ((first | refine ⟨trivial, ?_⟩ | refine ⟨le_of_ble rfl, ?_⟩) <;> conv => whnf) | fail
        all_goals try first
          | (exfalso; have h' := of_decide_eq_false h; omega)
          | (exfalso; have h' := of_decide_eq_true h; omega)
          | (exfalso; rename_i hq; have h' := of_decide_eq_true hq; omega)
          | (exfalso; rename_i hq; have h' := of_decide_eq_false hq; omega)
          | (exfalso; rename_i hq _; have h' := of_decide_eq_true hq; omega)
          | (exfalso; rename_i hq _; have h' := of_decide_eq_false hq; omega)
        · refine go_next (i + 1) (by omega) (by omega) (ref_st id rfl ⟨rfl, rfl, ⟨rfl, rfl⟩, ⟨rfl, rfl⟩, rfl, ⟨rfl, rfl⟩, ?_, rfl, rfl, rfl, rfl, rfl, next_i (by omega), trivial⟩ ⟨⟨rfl, wavs_imm _⟩, rfl, ⟨rfl, wavs_imm _⟩, trivial⟩ (by simp) rfl (by simp))
          show AV.imm (D.int _ _) = AV.imm (D.int _ _)
          rw [hnx, dmStep, if_pos (of_decide_eq_true h)]
          try rfl
        · refine go_next (i + 1) (by omega) (by omega) (ref_st id rfl ⟨rfl, rfl, ⟨rfl, rfl⟩, ⟨rfl, rfl⟩, rfl, ⟨rfl, rfl⟩, ?_, rfl, rfl, rfl, rfl, rfl, next_i (by omega), trivial⟩ ⟨⟨rfl, wavs_imm _⟩, rfl, ⟨rfl, wavs_imm _⟩, trivial⟩ (by simp) rfl (by simp))
          show AV.imm (D.int _ _) = AV.imm (D.int _ _)
          rw [hnx, dmStep, if_neg (of_decide_eq_false h)]
          try rfl
      | none =>
        have hge2 := le_of_at hy
        have hie : i = t.trips.length := by omega
        rw [hie]
        have hone := message_one [dmRow l (dmMost t ds k t.trips.length)]
        repeat' first | refine go_seq ?_ | refine go_region ?_ | refine go_miss rfl rfl rfl ?_ | refine go_undef rfl rfl rfl ?_ | ((first | refine go_op rfl ?_ | refine go_nil ?_ | refine go_hit rfl rfl rfl ?_ | refine go_splitT rfl rfl rfl (fun h => ?_) (fun h => ?_) | refine go_splitF rfl rfl rfl (fun h => ?_) (fun h => ?_) | refine go_storeBox rfl rfl rfl rfl rfl rfl ?_ | refine go_pickT rfl ?_ | refine go_pickF rfl ?_ | refine go_pick rfl (fun h => ?_) (fun h => ?_) | refine go_append (rows2 := [dmRow l (dmMost t ds k t.trips.length)].map Message.enc) rfl rfl rfl rfl rfl rfl rfl rfl rfl rfl rfl rfl hone rfl rfl rfl hb ?_) <;> conv => whnf) | ((first | refine go_loadB ?_ | refine ⟨by kernel_rfl, ?_⟩ | refine go_ret ?_) <;> conv => whnf) | refine go_block ?_ | ((first | refine go_skip ?_ | refine go_exit ?_) <;> conv => whnf) | refine go_true rfl ?_ | refine go_false rfl ?_ | refine go_cond rfl (fun h => ?_) (fun h => ?_) | refine ⟨rfl, ?_⟩ | ((first | refine ⟨trivial, ?_⟩ | refine ⟨le_of_ble rfl, ?_⟩) <;> conv => whnf) | fail
        all_goals try first
          | (exfalso; have h' := of_decide_eq_false h; omega)
          | (exfalso; have h' := of_decide_eq_true h; omega)
          | (exfalso; rename_i hq; have h' := of_decide_eq_true hq; omega)
          | (exfalso; rename_i hq; have h' := of_decide_eq_false hq; omega)
          | (exfalso; rename_i hq _; have h' := of_decide_eq_true hq; omega)
          | (exfalso; rename_i hq _; have h' := of_decide_eq_false hq; omega)
        · have hq : dmOne t ds lim k = [dmRow l (dmMost t ds k t.trips.length)] := by unfold dmOne; rw [hx]; exact if_pos (of_decide_eq_true h)
          refine go_next (k + 1) (by omega) (by omega) (ref_st (fun y => if y = 1001 then nid 4 59 else y) rfl ⟨rfl, rfl, ⟨rfl, rfl⟩, ⟨?_, rfl⟩, rfl, rfl, next_i (by omega), trivial⟩ ⟨⟨rfl, wavs_imm _⟩, ?_, trivial⟩ (by simp [nid]) rfl (by simp))
          · show AV.own _ _ _ = AV.own _ _ _
            rw [dmOut, hq, List.map_append, List.length_append]; try rfl
          · show some _ = some _
            rw [dmOut, hq, List.map_append]; try rfl
        · have hq : dmOne t ds lim k = [] := by unfold dmOne; rw [hx]; exact if_neg (of_decide_eq_false h)
          refine go_next (k + 1) (by omega) (by omega) (ref_st id rfl ⟨rfl, rfl, ⟨rfl, rfl⟩, ⟨?_, rfl⟩, rfl, rfl, next_i (by omega), trivial⟩ ⟨⟨rfl, wavs_imm _⟩, ?_, trivial⟩ (by simp) rfl (by simp))
          · show AV.own _ _ _ = AV.own _ _ _
            rw [dmOut, hq, List.append_nil]; try rfl
          · show some _ = some _
            rw [dmOut, hq, List.append_nil]; try rfl

theorem c39 (t : Timetable) (hf : t.fit) (ds : List TripDelay) (hl : ds.length ≤ 1048576) (lim : Int) : CallOk Try.prog 39 [.imm (.agg t.enc), .imm (.list (ds.map TripDelay.enc)), .imm (.int .i64 lim)] { res := [.arr 129 6 ((dmR t ds lim).map Message.enc), .imm (.bool (dmOk t ds lim))] } := by
  refine callOk_of tyOk Try.func39 rfl rfl (le_of_ble rfl) (le_of_ble rfl) (mutOk_imm rfl _) ?_
  have hc0 := c61 t hf ds hl
  have hc1 := c72 lim 1 600
  cases hp : dmOk t ds lim with
  | false =>
    have e1 : dmR t ds lim = [] := by unfold dmR; rw [hp]; rfl
    rw [e1]
    unfold dmOk at hp
    repeat' first | refine go_seq ?_ | refine go_region ?_ | refine go_miss rfl rfl rfl ?_ | refine go_undef rfl rfl rfl ?_ | ((first | refine go_op rfl ?_ | refine go_nil ?_ | refine go_hit rfl rfl rfl ?_ | refine go_splitT rfl rfl rfl (fun h => ?_) (fun h => ?_) | refine go_splitF rfl rfl rfl (fun h => ?_) (fun h => ?_) | refine go_pickT rfl ?_ | refine go_pickF rfl ?_ | refine go_pick rfl (fun h => ?_) (fun h => ?_) | refine go_call [] (hc0) rfl rfl rfl rfl ?_ | refine go_call [] (hc1) rfl rfl rfl rfl ?_) <;> conv => whnf) | ((first | refine go_loadB ?_ | refine ⟨by kernel_rfl, ?_⟩ | refine go_ret ?_) <;> conv => whnf) | refine go_block ?_ | ((first | refine go_skip ?_ | refine go_exit ?_) <;> conv => whnf) | refine go_true rfl ?_ | refine go_false rfl ?_ | refine go_cond rfl (fun h => ?_) (fun h => ?_) | refine ⟨rfl, ?_⟩ | ((first | refine ⟨trivial, ?_⟩ | refine ⟨le_of_ble rfl, ?_⟩) <;> conv => whnf) | fail
    all_goals first
      | exact ret_arr2 rfl rfl rfl rfl rfl rfl (by intro r hr; cases hr) rfl rfl rfl
      | (exfalso; simp_all; done)
      | trace_state
  | true =>
    have e1 : dmR t ds lim = dmOut t ds lim t.net.lines.length := by unfold dmR; rw [hp]; rfl
    rw [e1]
    have hp' := hp
    unfold dmOk at hp'
    simp only [Bool.and_eq_true] at hp'
    rw [hp'.1] at hc0
    rw [hp'.2] at hc1
    have hnl : t.net.lines.length ≤ 1048576 := hf.1.2.2.1
    have hll : (t.net.lines.map Line.enc).length = t.net.lines.length := List.length_map _
    have htl : (t.trips.map Trip.enc).length = t.trips.length := List.length_map _
    have hnt : t.trips.length ≤ 1048576 := hf.2.1
    repeat' first | refine go_seq ?_ | refine go_region ?_ | refine go_miss rfl rfl rfl ?_ | refine go_undef rfl rfl rfl ?_ | ((first | refine go_op rfl ?_ | refine go_nil ?_ | refine go_hit rfl rfl rfl ?_ | refine go_splitT rfl rfl rfl (fun h => ?_) (fun h => ?_) | refine go_splitF rfl rfl rfl (fun h => ?_) (fun h => ?_) | refine go_pickT rfl ?_ | refine go_pickF rfl ?_ | refine go_pick rfl (fun h => ?_) (fun h => ?_) | refine go_call [] (hc0) rfl rfl rfl rfl ?_ | refine go_call [] (hc1) rfl rfl rfl rfl ?_) <;> conv => whnf) | ((first | refine go_loadB ?_ | refine ⟨by kernel_rfl, ?_⟩ | refine go_ret ?_) <;> conv => whnf) | refine go_block ?_ | ((first | refine go_skip ?_ | refine go_exit ?_) <;> conv => whnf) | refine go_true rfl ?_ | refine go_false rfl ?_ | refine go_cond rfl (fun h => ?_) (fun h => ?_) | refine ⟨rfl, ?_⟩ | ((first | refine ⟨trivial, ?_⟩ | refine ⟨le_of_ble rfl, ?_⟩) <;> conv => whnf) | fail
    refine go_loop (α := Nat) (fun k => k ≤ t.net.lines.length) (fun k => t.net.lines.length - k)
      (fun k => st Try.f39.ntmps [(1, .imm (.list (ds.map TripDelay.enc))), (2, .imm (.int .i64 lim)), (3, .box 1000 0), (8, .own 1001 0 ((dmOut t ds lim k).map Message.enc).length), (9, .imm (.int .i64 (k : Nat)))]
        [(1000, .box 38 (t.enc.map .imm)), (1001, .arr 129 6 ((dmOut t ds lim k).map Message.enc))] []) 0 (Nat.zero_le _) ?_ ?_
    · exact ref_st (fun y => if y = 1000 then nid 1 3 else nid 2 12) rfl ⟨rfl, rfl, ⟨rfl, rfl⟩, ⟨rfl, rfl⟩, rfl, trivial⟩ ⟨⟨rfl, wavs_imm _⟩, rfl, trivial⟩ (by simp [nid]) rfl (by simp)
    intro k hk
    cases hx : t.net.lines[k]? with
    | none =>
      have hge := le_of_at hx
      have hie : k = t.net.lines.length := by omega
      rw [hie]
      repeat' first | refine go_seq ?_ | refine go_region ?_ | refine go_miss rfl rfl rfl ?_ | refine go_undef rfl rfl rfl ?_ | ((first | refine go_op rfl ?_ | refine go_nil ?_ | refine go_hit rfl rfl rfl ?_ | refine go_splitT rfl rfl rfl (fun h => ?_) (fun h => ?_) | refine go_splitF rfl rfl rfl (fun h => ?_) (fun h => ?_) | refine go_pickT rfl ?_ | refine go_pickF rfl ?_ | refine go_pick rfl (fun h => ?_) (fun h => ?_)) <;> conv => whnf) | ((first | refine go_loadB ?_ | refine ⟨by kernel_rfl, ?_⟩ | refine go_ret ?_) <;> conv => whnf) | refine go_block ?_ | ((first | refine go_skip ?_ | refine go_exit ?_) <;> conv => whnf) | refine go_true rfl ?_ | refine go_false rfl ?_ | refine go_cond rfl (fun h => ?_) (fun h => ?_) | refine ⟨rfl, ?_⟩ | ((first | refine ⟨trivial, ?_⟩ | refine ⟨le_of_ble rfl, ?_⟩) <;> conv => whnf) | fail
      all_goals try first
        | (exfalso; have h' := of_decide_eq_false h; omega)
        | (exfalso; have h' := of_decide_eq_true h; omega)
        | (exfalso; rename_i hq; have h' := of_decide_eq_true hq; omega)
        | (exfalso; rename_i hq; have h' := of_decide_eq_false hq; omega)
        | (exfalso; rename_i hq _; have h' := of_decide_eq_true hq; omega)
        | (exfalso; rename_i hq _; have h' := of_decide_eq_false hq; omega)
      · exact ret_arr2 rfl rfl rfl rfl rfl (by rw [List.drop_zero, List.take_length]) (message_gr _) rfl rfl rfl
    | some l =>
      have hlt := lt_of_at hx
      have hr := row_at Line.enc hx
      have hol := dmOut_len t ds lim k
      have hb : ((dmOut t ds lim k).map Message.enc).length + 1 ≤ 1073741824 := by rw [List.length_map]; omega
      repeat' first | refine go_seq ?_ | refine go_region ?_ | refine go_miss rfl rfl rfl ?_ | refine go_undef rfl rfl rfl ?_ | ((first | refine go_op rfl ?_ | refine go_nil ?_ | refine go_hit rfl rfl rfl ?_ | refine go_splitT rfl rfl rfl (fun h => ?_) (fun h => ?_) | refine go_splitF rfl rfl rfl (fun h => ?_) (fun h => ?_) | refine go_pickT rfl ?_ | refine go_pickF rfl ?_ | refine go_pick rfl (fun h => ?_) (fun h => ?_)) <;> conv => whnf) | ((first | refine go_loadB ?_ | refine ⟨by kernel_rfl, ?_⟩ | refine go_ret ?_) <;> conv => whnf) | refine go_block ?_ | ((first | refine go_skip ?_ | refine go_exit ?_) <;> conv => whnf) | refine go_true rfl ?_ | refine go_false rfl ?_ | refine go_cond rfl (fun h => ?_) (fun h => ?_) | refine ⟨rfl, ?_⟩ | ((first | refine ⟨trivial, ?_⟩ | refine ⟨le_of_ble rfl, ?_⟩) <;> conv => whnf) | fail
      all_goals try first
        | (exfalso; have h' := of_decide_eq_false h; omega)
        | (exfalso; have h' := of_decide_eq_true h; omega)
        | (exfalso; rename_i hq; have h' := of_decide_eq_true hq; omega)
        | (exfalso; rename_i hq; have h' := of_decide_eq_false hq; omega)
        | (exfalso; rename_i hq _; have h' := of_decide_eq_true hq; omega)
        | (exfalso; rename_i hq _; have h' := of_decide_eq_false hq; omega)
      refine go_loop (α := Nat) (fun i => i ≤ t.trips.length) (fun i => t.trips.length - i)
        (fun i => st Try.f39.ntmps [(1, .imm (.list (ds.map TripDelay.enc))), (2, .imm (.int .i64 lim)), (3, .box 1000 0), (8, .own 1001 0 ((dmOut t ds lim k).map Message.enc).length), (9, .imm (.int .i64 (k : Nat))), (10, .imm (.int .i64 (dmMost t ds k i))), (11, .imm (.int .i64 (i : Nat)))]
          [(1000, .box 38 (t.enc.map .imm)), (1001, .arr 129 6 ((dmOut t ds lim k).map Message.enc))] []) 0 (Nat.zero_le _) ?_ ?_
      · exact ref_st id rfl ⟨rfl, rfl, ⟨rfl, rfl⟩, ⟨rfl, rfl⟩, rfl, rfl, rfl, trivial⟩ ⟨⟨rfl, wavs_imm _⟩, rfl, trivial⟩ (by simp) rfl (by simp)
      intro i hi
      cases hy : t.trips[i]? with
      | some x =>
        have hlt2 := lt_of_at hy
        have hr2 := row_at Trip.enc hy
        have hnx := dmMost_next ds k hy
        have hc2 := c85 ds x.id hl
        have hc3 := c77 (dmMost t ds k i) (delOf ds x.id)
        repeat' first | refine go_seq ?_ | refine go_region ?_ | refine go_miss rfl rfl rfl ?_ | refine go_undef rfl rfl rfl ?_ | ((first | refine go_op rfl ?_ | refine go_nil ?_ | refine go_hit rfl rfl rfl ?_ | refine go_splitT rfl rfl rfl (fun h => ?_) (fun h => ?_) | refine go_splitF rfl rfl rfl (fun h => ?_) (fun h => ?_) | refine go_pickT rfl ?_ | refine go_pickF rfl ?_ | refine go_pick rfl (fun h => ?_) (fun h => ?_) | refine go_call [] (hc2) rfl rfl rfl rfl ?_ | refine go_call [] (hc3) rfl rfl rfl rfl ?_ | refine go_idx rfl rfl rfl rfl (by omega) hr2 rfl ?_) <;> conv => whnf) | ((first | refine go_loadB ?_ | refine ⟨by kernel_rfl, ?_⟩ | refine go_ret ?_) <;> conv => whnf) | refine go_block ?_ | ((first | refine go_skip ?_ | refine go_exit ?_) <;> conv => whnf) | refine go_true rfl ?_ | refine go_false rfl ?_ | refine go_cond rfl (fun h => ?_) (fun h => ?_) | refine ⟨rfl, ?_⟩ | ((first | refine ⟨trivial, ?_⟩ | refine ⟨le_of_ble rfl, ?_⟩) <;> conv => whnf) | fail
        all_goals try first
          | (exfalso; have h' := of_decide_eq_false h; omega)
          | (exfalso; have h' := of_decide_eq_true h; omega)
          | (exfalso; rename_i hq; have h' := of_decide_eq_true hq; omega)
          | (exfalso; rename_i hq; have h' := of_decide_eq_false hq; omega)
          | (exfalso; rename_i hq _; have h' := of_decide_eq_true hq; omega)
          | (exfalso; rename_i hq _; have h' := of_decide_eq_false hq; omega)
        · refine go_next (i + 1) (by omega) (by omega) (ref_st id rfl ⟨rfl, rfl, ⟨rfl, rfl⟩, ⟨rfl, rfl⟩, rfl, ?_, next_i (by omega), trivial⟩ ⟨⟨rfl, wavs_imm _⟩, rfl, trivial⟩ (by simp) rfl (by simp))
          show AV.imm (D.int _ _) = AV.imm (D.int _ _)
          rw [hnx, dmStep, if_pos (of_decide_eq_true h)]
          congr 2
          split <;> split <;> omega
        · refine go_next (i + 1) (by omega) (by omega) (ref_st id rfl ⟨rfl, rfl, ⟨rfl, rfl⟩, ⟨rfl, rfl⟩, rfl, ?_, next_i (by omega), trivial⟩ ⟨⟨rfl, wavs_imm _⟩, rfl, trivial⟩ (by simp) rfl (by simp))
          show AV.imm (D.int _ _) = AV.imm (D.int _ _)
          rw [hnx, dmStep, if_neg (of_decide_eq_false h)]
          try rfl
      | none =>
        have hge2 := le_of_at hy
        have hie : i = t.trips.length := by omega
        rw [hie]
        have hone := message_one [dmRow l (dmMost t ds k t.trips.length)]
        repeat' first | refine go_seq ?_ | refine go_region ?_ | refine go_miss rfl rfl rfl ?_ | refine go_undef rfl rfl rfl ?_ | ((first | refine go_op rfl ?_ | refine go_nil ?_ | refine go_hit rfl rfl rfl ?_ | refine go_splitT rfl rfl rfl (fun h => ?_) (fun h => ?_) | refine go_splitF rfl rfl rfl (fun h => ?_) (fun h => ?_) | refine go_pickT rfl ?_ | refine go_pickF rfl ?_ | refine go_pick rfl (fun h => ?_) (fun h => ?_) | refine go_idx rfl rfl rfl rfl (by omega) hr rfl ?_ | refine go_append (rows2 := [dmRow l (dmMost t ds k t.trips.length)].map Message.enc) rfl rfl rfl rfl rfl rfl rfl rfl rfl rfl rfl rfl hone rfl rfl rfl hb ?_) <;> conv => whnf) | ((first | refine go_loadB ?_ | refine ⟨by kernel_rfl, ?_⟩ | refine go_ret ?_) <;> conv => whnf) | refine go_block ?_ | ((first | refine go_skip ?_ | refine go_exit ?_) <;> conv => whnf) | refine go_true rfl ?_ | refine go_false rfl ?_ | refine go_cond rfl (fun h => ?_) (fun h => ?_) | refine ⟨rfl, ?_⟩ | ((first | refine ⟨trivial, ?_⟩ | refine ⟨le_of_ble rfl, ?_⟩) <;> conv => whnf) | fail
        all_goals try first
          | (exfalso; have h' := of_decide_eq_false h; omega)
          | (exfalso; have h' := of_decide_eq_true h; omega)
          | (exfalso; rename_i hq; have h' := of_decide_eq_true hq; omega)
          | (exfalso; rename_i hq; have h' := of_decide_eq_false hq; omega)
          | (exfalso; rename_i hq _; have h' := of_decide_eq_true hq; omega)
          | (exfalso; rename_i hq _; have h' := of_decide_eq_false hq; omega)
        · have hq : dmOne t ds lim k = [dmRow l (dmMost t ds k t.trips.length)] := by unfold dmOne; rw [hx]; exact if_pos (of_decide_eq_true h)
          refine go_next (k + 1) (by omega) (by omega) (ref_st (fun y => if y = 1001 then nid 4 70 else y) rfl ⟨rfl, rfl, ⟨rfl, rfl⟩, ⟨?_, rfl⟩, next_i (by omega), trivial⟩ ⟨⟨rfl, wavs_imm _⟩, ?_, trivial⟩ (by simp [nid]) rfl (by simp))
          · show AV.own _ _ _ = AV.own _ _ _
            rw [dmOut, hq, List.map_append, List.length_append]; try rfl
          · show some _ = some _
            rw [dmOut, hq, List.map_append]; try rfl
        · have hq : dmOne t ds lim k = [] := by unfold dmOne; rw [hx]; exact if_neg (of_decide_eq_false h)
          refine go_next (k + 1) (by omega) (by omega) (ref_st id rfl ⟨rfl, rfl, ⟨rfl, rfl⟩, ⟨?_, rfl⟩, next_i (by omega), trivial⟩ ⟨⟨rfl, wavs_imm _⟩, ?_, trivial⟩ (by simp) rfl (by simp))
          · show AV.own _ _ _ = AV.own _ _ _
            rw [dmOut, hq, List.append_nil]; try rfl
          · show some _ = some _
            rw [dmOut, hq, List.append_nil]; try rfl

theorem c8 (t : Timetable) (hok_t : t.ok) (ds : List TripDelay) (_ : ∀ v ∈ ds, v.ok) (hl_ds : ds.length ≤ 9223372036854775807) (lim : Int) (_ : i64 lim) : CallOk Try.prog 8 [.imm (.agg t.enc), .imm (.list (ds.map TripDelay.enc)), .imm (.int .i64 lim)] { res := [.imm (.bool true)] } := by
  refine callOk_of tyOk Try.func8 rfl rfl (le_of_ble rfl) (le_of_ble rfl) (mutOk_imm rfl _) ?_
  have hsz1 := c13 t hok_t (1048576) (by omega) (by omega)
  have hle1 := szTimetable_sz.le (1048576) t (by omega)
  by_cases h01 : 0 ≤ szTimetable 1048576 t
  case neg =>
    repeat' first | refine go_seq ?_ | refine go_region ?_ | refine go_miss rfl rfl rfl ?_ | refine go_undef rfl rfl rfl ?_ | refine go_draw drawsOk ?_ | ((first | refine go_op rfl ?_ | refine go_nil ?_ | refine go_hit rfl rfl rfl ?_ | refine go_splitT rfl rfl rfl (fun h => ?_) (fun h => ?_) | refine go_splitF rfl rfl rfl (fun h => ?_) (fun h => ?_) | refine go_storeBox rfl rfl rfl rfl rfl rfl ?_ | refine go_dop rfl ?_ | refine go_dhit rfl rfl ?_ | refine go_dmiss rfl rfl ?_ | refine go_dundef rfl rfl ?_ | refine go_dend (by kernel_rfl) ?_ | refine go_pickT rfl ?_ | refine go_pickF rfl ?_ | refine go_pick rfl (fun h => ?_) (fun h => ?_) | refine go_call [] (hsz1) rfl rfl rfl rfl ?_) <;> conv => whnf) | ((first | refine go_dsplit2 rfl (fun h => ?_) (fun h => ?_) | refine go_loadB ?_ | refine ⟨by kernel_rfl, ?_⟩ | refine go_ret ?_) <;> conv => whnf) | ((first | refine go_skip ?_) <;> conv => whnf) | refine go_true rfl ?_ | refine go_false rfl ?_ | refine go_cond rfl (fun h => ?_) (fun h => ?_) | refine ⟨rfl, ?_⟩ | ((first | refine ⟨trivial, ?_⟩ | refine ⟨le_of_ble rfl, ?_⟩) <;> conv => whnf) | fail
    all_goals first
      | exact ret_imm rfl rfl rfl rfl rfl rfl
      | (exfalso; have h' := of_decide_eq_false h; omega)
      | (exfalso; have h' := of_decide_eq_true h; omega)
      | (exfalso; rename_i hq; have h' := of_decide_eq_true hq; omega)
      | (exfalso; rename_i hq; have h' := of_decide_eq_false hq; omega)
      | (exfalso; rename_i hq _; have h' := of_decide_eq_true hq; omega)
      | (exfalso; rename_i hq _; have h' := of_decide_eq_false hq; omega)
      | trace_state
  have hf_t := szTimetable_fit (by omega) h01
  have hsz2 := c14 ds hl_ds (szTimetable 1048576 t) (by omega) (by omega)
  have hle2 := szTripDelayS_sz.le (szTimetable 1048576 t) ds (by omega)
  by_cases h02 : 0 ≤ szTripDelayS (szTimetable 1048576 t) ds
  case neg =>
    repeat' first | refine go_seq ?_ | refine go_region ?_ | refine go_miss rfl rfl rfl ?_ | refine go_undef rfl rfl rfl ?_ | refine go_draw drawsOk ?_ | ((first | refine go_op rfl ?_ | refine go_nil ?_ | refine go_hit rfl rfl rfl ?_ | refine go_splitT rfl rfl rfl (fun h => ?_) (fun h => ?_) | refine go_splitF rfl rfl rfl (fun h => ?_) (fun h => ?_) | refine go_storeBox rfl rfl rfl rfl rfl rfl ?_ | refine go_dop rfl ?_ | refine go_dhit rfl rfl ?_ | refine go_dmiss rfl rfl ?_ | refine go_dundef rfl rfl ?_ | refine go_dend (by kernel_rfl) ?_ | refine go_pickT rfl ?_ | refine go_pickF rfl ?_ | refine go_pick rfl (fun h => ?_) (fun h => ?_) | refine go_call [] (hsz1) rfl rfl rfl rfl ?_ | refine go_call [] (hsz2) rfl rfl rfl rfl ?_) <;> conv => whnf) | ((first | refine go_dsplit2 rfl (fun h => ?_) (fun h => ?_) | refine go_loadB ?_ | refine ⟨by kernel_rfl, ?_⟩ | refine go_ret ?_) <;> conv => whnf) | ((first | refine go_skip ?_) <;> conv => whnf) | refine go_true rfl ?_ | refine go_false rfl ?_ | refine go_cond rfl (fun h => ?_) (fun h => ?_) | refine ⟨rfl, ?_⟩ | ((first | refine ⟨trivial, ?_⟩ | refine ⟨le_of_ble rfl, ?_⟩) <;> conv => whnf) | fail
    all_goals first
      | exact ret_imm rfl rfl rfl rfl rfl rfl
      | (exfalso; have h' := of_decide_eq_false h; omega)
      | (exfalso; have h' := of_decide_eq_true h; omega)
      | (exfalso; rename_i hq; have h' := of_decide_eq_true hq; omega)
      | (exfalso; rename_i hq; have h' := of_decide_eq_false hq; omega)
      | (exfalso; rename_i hq _; have h' := of_decide_eq_true hq; omega)
      | (exfalso; rename_i hq _; have h' := of_decide_eq_false hq; omega)
      | trace_state
  have hlds : ds.length ≤ 1048576 := by have := less_pos (k := ds.length) h02; omega
  have hrl : (dmR t ds lim).length ≤ 1048576 := dmR_len t hf_t ds lim
  have hspec : CallOk Try.prog 39 [.imm (.agg t.enc), .imm (.list (((ds.map TripDelay.enc).drop 0).take (ds.map TripDelay.enc).length)), .imm (.int .i64 lim)] { res := [.arr 129 6 ((dmR t ds lim).map Message.enc), .imm (.bool (dmOk t ds lim))] } := by rw [tripDelay_view]; exact c39 t hf_t ds hlds lim
  have himpl : CallOk Try.prog 40 [.imm (.agg t.enc), .imm (.list (((ds.map TripDelay.enc).drop 0).take (ds.map TripDelay.enc).length)), .imm (.int .i64 lim)] { res := [.arr 129 6 ((dmR t ds lim).map Message.enc), .imm (.bool (dmOk t ds lim))] } := by rw [tripDelay_view]; exact c40 t hf_t ds hlds lim
  have hct1 := cntTimetable_le hf_t
  have hm1 := k25 t hf_t 1 (by omega) (by omega)
  have heq_ds : CallOk Try.prog 20 [.imm (.list (((ds.map TripDelay.enc).drop 0).take (ds.map TripDelay.enc).length)), .imm (.list (((ds.map TripDelay.enc).drop 0).take (ds.map TripDelay.enc).length))] { res := [.imm (.bool true)] } := by rw [tripDelay_view]; exact c20s ds hlds
  have hm2 := c30 ds (1 + (cntTimetable t : Nat)) (by omega) (by omega) hlds
  have hq2 := kAt_eq (k := (1 + (cntTimetable t : Nat))) (by omega) (2 * ds.length) (by omega)
  have heqR : CallOk Try.prog 41 [.imm (.list ((((dmR t ds lim).map Message.enc).drop 0).take ((dmR t ds lim).map Message.enc).length)), .imm (.list ((((dmR t ds lim).map Message.enc).drop 0).take ((dmR t ds lim).map Message.enc).length))] { res := [.imm (.bool true)] } := by rw [message_view]; exact c41s _ hrl
  have hmR := c42 (dmR t ds lim) 1 (by omega) (by omega) hrl
  have hhR : CallOk Try.prog 43 [.imm (.list ((((marksMessage 1 (dmR t ds lim).length).map Message.enc).drop 0).take ((dmR t ds lim).map Message.enc).length)), .imm (.int .i64 1)] { res := [.imm (.int .i64 (kAt 1 (6 * (dmR t ds lim).length)))] } := by
    have := c43 1 (dmR t ds lim).length (by omega) (by omega) hrl
    rwa [show ((((marksMessage 1 (dmR t ds lim).length).map Message.enc).drop 0).take ((dmR t ds lim).map Message.enc).length) = (marksMessage 1 (dmR t ds lim).length).map Message.enc from by rw [List.drop_zero, List.take_of_length_le (by simp [marksMessage])]]
  have hqR := kAt_eq (k := 1) (by omega) (6 * (dmR t ds lim).length) (by omega)
  repeat' first | refine go_seq ?_ | refine go_region ?_ | refine go_miss rfl rfl rfl ?_ | refine go_undef rfl rfl rfl ?_ | refine go_draw drawsOk ?_ | ((first | refine go_op rfl ?_ | refine go_nil ?_ | refine go_hit rfl rfl rfl ?_ | refine go_splitT rfl rfl rfl (fun h => ?_) (fun h => ?_) | refine go_splitF rfl rfl rfl (fun h => ?_) (fun h => ?_) | refine go_storeBox rfl rfl rfl rfl rfl rfl ?_ | refine go_dop rfl ?_ | refine go_dhit rfl rfl ?_ | refine go_dmiss rfl rfl ?_ | refine go_dundef rfl rfl ?_ | refine go_dend (by kernel_rfl) ?_ | refine go_pickT rfl ?_ | refine go_pickF rfl ?_ | refine go_pick rfl (fun h => ?_) (fun h => ?_) | refine go_call [] (hsz1) rfl rfl rfl rfl ?_ | refine go_call [] (hsz2) rfl rfl rfl rfl ?_ | refine go_call [] (g16 t hf_t) rfl rfl rfl rfl ?_ | refine go_call [] (c19s t hf_t) rfl rfl rfl rfl ?_ | refine go_call [] (c17a ds hlds) rfl rfl rfl rfl ?_ | refine go_call [] (heq_ds) rfl rfl rfl rfl ?_ | refine go_call [] (hspec) rfl rfl rfl rfl ?_ | refine go_call [] (himpl) rfl rfl rfl rfl ?_ | refine go_call [] (heqR) rfl rfl rfl rfl ?_ | refine go_call [3] (hm1) rfl rfl rfl rfl ?_ | refine go_call [2, 0] hm2 (argsIn_lent rfl rfl rfl) rfl rfl rfl ?_ | refine go_call [2, 0] hmR (argsIn_lent rfl rfl rfl) rfl rfl rfl ?_ | refine go_call [] (hhR) rfl rfl rfl rfl ?_) <;> conv => whnf) | ((first | refine go_dsplit2 rfl (fun h => ?_) (fun h => ?_) | refine go_loadB ?_ | refine ⟨by kernel_rfl, ?_⟩ | refine go_ret ?_) <;> conv => whnf) | ((first | refine go_skip ?_) <;> conv => whnf) | refine go_true rfl ?_ | refine go_false rfl ?_ | refine go_cond rfl (fun h => ?_) (fun h => ?_) | refine ⟨rfl, ?_⟩ | ((first | refine ⟨trivial, ?_⟩ | refine ⟨le_of_ble rfl, ?_⟩) <;> conv => whnf) | fail
  all_goals first
    | exact ret_imm rfl rfl rfl rfl rfl rfl
    | (exfalso; simp at h; done)
    | (exfalso; simp at h; omega)
    | (exfalso; have h' := of_decide_eq_false h; omega)
    | (exfalso; have h' := of_decide_eq_true h; omega)
    | (exfalso; rename_i hq; have h' := of_decide_eq_true hq; omega)
    | (exfalso; rename_i hq; have h' := of_decide_eq_false hq; omega)
    | (exfalso; rename_i hq _; have h' := of_decide_eq_true hq; omega)
    | (exfalso; rename_i hq _; have h' := of_decide_eq_false hq; omega)
    | trace_state
end Go.Proofs.Ytiedooadnafghaa

