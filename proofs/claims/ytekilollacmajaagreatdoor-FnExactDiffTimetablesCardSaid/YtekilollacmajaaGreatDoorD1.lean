/- The differences of two timetables: the program's and the reference's. -/
import Derived.Test.YtekilollacmajaaGreatDoorD0
import Derived.Test.YtekilollacmajaaGreatDoorNT1
import Derived.Test.YtekilollacmajaaGreatDoorNT2
import Derived.Test.YtekilollacmajaaGreatDoorTI
import Derived.Test.YtekilollacmajaaGreatDoorSC
namespace Go.Proofs.YtekilollacmajaaGreatDoor
open Go Go.Am Go.Proofs
set_option maxRecDepth 100000
set_option maxHeartbeats 8000000
attribute [local irreducible] amOps amC opCall opIndexAddr opPick retQ opMake opStore amDraw opAppend opLoad opNilCmp opIndex opSlice

def dfB (a b : Timetable) : Bool := ttOk a && (ttOk b && decide (netT a.net = netT b.net))
def dfR (a b : Timetable) : Option (List Change) := dfO (dfB a b) a.trips b.trips
def dfOk (a b : Timetable) : Bool := (dfR a b).isSome
def dfL (a b : Timetable) : List Change := (dfR a b).getD []
theorem df_none {a b : Timetable} (h : dfR a b = none) : dfL a b = [] ∧ dfOk a b = false := by unfold dfL dfOk; rw [h]; exact ⟨rfl, rfl⟩
theorem df_some {a b : Timetable} {l : List Change} (h : dfR a b = some l) : dfL a b = l ∧ dfOk a b = true := by unfold dfL dfOk; rw [h]; exact ⟨rfl, rfl⟩
theorem df_not {a b : Timetable} (h : dfB a b = false) : dfR a b = none := by unfold dfR dfO; rw [h]; rfl
theorem df_mrg {a b : Timetable} (h : dfB a b = true) : dfR a b = match mrgD a.trips b.trips with | some l => if 24 < l.length then none else some l | none => none := by unfold dfR dfO; rw [h]; rfl
theorem str_ne {x y : List UInt8} (h : x ≠ y) : (ofL x == ofL y) = false := by
  cases hb : (ofL x == ofL y) with
  | false => rfl
  | true =>
    exfalso
    have e : ((⟨x⟩ : Array UInt8) == ⟨y⟩) = true := hb
    have e2 := eq_of_beq e
    injection e2 with e3
    exact h e3
theorem tt_net {t : Timetable} (h : ttOk t = true) : NFit t.net := by
  unfold ttOk at h
  simp only [Bool.and_eq_true] at h
  exact nfit h.1
theorem tt_trips {t : Timetable} (h : ttOk t = true) : t.trips.length ≤ 12 := by
  unfold ttOk tripsOk at h
  simp only [Bool.and_eq_true, decide_eq_true_eq] at h
  exact h.2.1

theorem dfL_len (a b : Timetable) : (dfL a b).length ≤ 1048576 := by
  unfold dfL dfR dfO
  split
  · split
    · split
      · simp
      · rename_i h; simp only [Option.getD_some]; omega
    · simp
  · simp

theorem c7 (a b : Timetable) (hfa : a.fit) (hfb : b.fit) : CallOk Tryz.prog 7 [.imm (.agg a.enc), .imm (.agg b.enc)] { res := [.arr 52 5 ((dfL a b).map Change.enc), .imm (.bool (dfOk a b))] } := by
  refine callOk_of tyOk Tryz.func7 rfl rfl (le_of_ble rfl) (le_of_ble rfl) (mutOk_imm rfl _) ?_
  have h0 := c19 a hfa
  have h1 := c19 b hfb
  cases ha : ttOk a with
  | false =>
    have hn := df_none (df_not (a := a) (b := b) (by unfold dfB; rw [ha]; rfl))
    rw [ha] at h0
    rw [hn.1, hn.2]
    repeat' first | refine go_seq ?_ | refine go_region ?_ | refine go_miss rfl rfl rfl ?_ | refine go_undef rfl rfl rfl ?_ | refine go_draw drawsOk ?_ | ((first | refine go_op rfl ?_ | refine go_nil ?_ | refine go_hit rfl rfl rfl ?_ | refine go_splitT rfl rfl rfl (fun h => ?_) (fun h => ?_) | refine go_splitF rfl rfl rfl (fun h => ?_) (fun h => ?_) | refine go_storeBox rfl rfl rfl rfl rfl rfl ?_ | refine go_dop rfl ?_ | refine go_dhit rfl rfl ?_ | refine go_dmiss rfl rfl ?_ | refine go_dundef rfl rfl ?_ | refine go_dend (by kernel_rfl) ?_ | refine go_pickT rfl ?_ | refine go_pickF rfl ?_ | refine go_pick rfl (fun h => ?_) (fun h => ?_) | refine go_call [] (h0) rfl rfl rfl rfl ?_ | refine go_call [] (h1) rfl rfl rfl rfl ?_) <;> conv => whnf) | ((first | refine Or.inl ?_ | refine go_dsplit2 rfl (fun h => ?_) (fun h => ?_) | refine go_loadB ?_ | refine ⟨by kernel_rfl, ?_⟩ | refine go_ret ?_) <;> conv => whnf) | refine go_block ?_ | ((first | refine go_skip ?_ | refine go_exit ?_) <;> conv => whnf) | refine go_true rfl ?_ | refine go_false rfl ?_ | refine go_cond rfl (fun h => ?_) (fun h => ?_) | refine ⟨rfl, ?_⟩ | ((first | refine ⟨trivial, ?_⟩ | refine ⟨le_of_ble rfl, ?_⟩) <;> conv => whnf) | fail
    all_goals first
      | exact ret_arr2 rfl rfl rfl rfl rfl rfl (by intro r hr; cases hr) rfl rfl rfl
      | (exfalso; rw [List.length_map] at h; have h2 := of_decide_eq_false h; omega)
      | (exfalso; simp at h; done)
      | (exfalso; simp only [List.length_map, decide_eq_false_iff_not, decide_eq_true_eq] at *; omega)
      | trace_state
  | true =>
  cases hb : ttOk b with
  | false =>
    have hn := df_none (df_not (a := a) (b := b) (by unfold dfB; rw [ha, hb]; rfl))
    rw [ha] at h0
    rw [hb] at h1
    rw [hn.1, hn.2]
    repeat' first | refine go_seq ?_ | refine go_region ?_ | refine go_miss rfl rfl rfl ?_ | refine go_undef rfl rfl rfl ?_ | refine go_draw drawsOk ?_ | ((first | refine go_op rfl ?_ | refine go_nil ?_ | refine go_hit rfl rfl rfl ?_ | refine go_splitT rfl rfl rfl (fun h => ?_) (fun h => ?_) | refine go_splitF rfl rfl rfl (fun h => ?_) (fun h => ?_) | refine go_storeBox rfl rfl rfl rfl rfl rfl ?_ | refine go_dop rfl ?_ | refine go_dhit rfl rfl ?_ | refine go_dmiss rfl rfl ?_ | refine go_dundef rfl rfl ?_ | refine go_dend (by kernel_rfl) ?_ | refine go_pickT rfl ?_ | refine go_pickF rfl ?_ | refine go_pick rfl (fun h => ?_) (fun h => ?_) | refine go_call [] (h0) rfl rfl rfl rfl ?_ | refine go_call [] (h1) rfl rfl rfl rfl ?_) <;> conv => whnf) | ((first | refine Or.inl ?_ | refine go_dsplit2 rfl (fun h => ?_) (fun h => ?_) | refine go_loadB ?_ | refine ⟨by kernel_rfl, ?_⟩ | refine go_ret ?_) <;> conv => whnf) | refine go_block ?_ | ((first | refine go_skip ?_ | refine go_exit ?_) <;> conv => whnf) | refine go_true rfl ?_ | refine go_false rfl ?_ | refine go_cond rfl (fun h => ?_) (fun h => ?_) | refine ⟨rfl, ?_⟩ | ((first | refine ⟨trivial, ?_⟩ | refine ⟨le_of_ble rfl, ?_⟩) <;> conv => whnf) | fail
    all_goals first
      | exact ret_arr2 rfl rfl rfl rfl rfl rfl (by intro r hr; cases hr) rfl rfl rfl
      | (exfalso; rw [List.length_map] at h; have h2 := of_decide_eq_false h; omega)
      | (exfalso; simp at h; done)
      | (exfalso; simp only [List.length_map, decide_eq_false_iff_not, decide_eq_true_eq] at *; omega)
      | trace_state
  | true =>
  rw [ha] at h0
  rw [hb] at h1
  have h2 := c20 a.net hfa.1 (tt_net ha)
  have h3 := c20 b.net hfb.1 (tt_net hb)
  by_cases hne : netT a.net = netT b.net
  case neg =>
    have hn := df_none (df_not (a := a) (b := b) (by unfold dfB; rw [ha, hb, decide_eq_false hne]; rfl))
    rw [hn.1, hn.2]
    have hs := str_ne hne
    repeat' first | refine go_seq ?_ | refine go_region ?_ | refine go_miss rfl rfl rfl ?_ | refine go_undef rfl rfl rfl ?_ | refine go_draw drawsOk ?_ | ((first | refine go_op rfl ?_ | refine go_nil ?_ | refine go_hit rfl rfl rfl ?_ | refine go_splitT rfl rfl rfl (fun h => ?_) (fun h => ?_) | refine go_splitF rfl rfl rfl (fun h => ?_) (fun h => ?_) | refine go_storeBox rfl rfl rfl rfl rfl rfl ?_ | refine go_dop rfl ?_ | refine go_dhit rfl rfl ?_ | refine go_dmiss rfl rfl ?_ | refine go_dundef rfl rfl ?_ | refine go_dend (by kernel_rfl) ?_ | refine go_pickT rfl ?_ | refine go_pickF rfl ?_ | refine go_pick rfl (fun h => ?_) (fun h => ?_) | refine go_call [] (h0) rfl rfl rfl rfl ?_ | refine go_call [] (h1) rfl rfl rfl rfl ?_ | refine go_call [] (h2) rfl rfl rfl rfl ?_ | refine go_call [] (h3) rfl rfl rfl rfl ?_) <;> conv => whnf) | ((first | refine Or.inl ?_ | refine go_dsplit2 rfl (fun h => ?_) (fun h => ?_) | refine go_loadB ?_ | refine ⟨by kernel_rfl, ?_⟩ | refine go_ret ?_) <;> conv => whnf) | refine go_block ?_ | ((first | refine go_skip ?_ | refine go_exit ?_) <;> conv => whnf) | refine go_true rfl ?_ | refine go_false rfl ?_ | refine go_cond rfl (fun h => ?_) (fun h => ?_) | refine ⟨rfl, ?_⟩ | ((first | refine ⟨trivial, ?_⟩ | refine ⟨le_of_ble rfl, ?_⟩) <;> conv => whnf) | fail
    all_goals first
      | exact ret_arr2 rfl rfl rfl rfl rfl rfl (by intro r hr; cases hr) rfl rfl rfl
      | (exfalso; rw [hs] at h; cases h; done)
      | (exfalso; rw [List.length_map] at h; have h2 := of_decide_eq_false h; omega)
      | (exfalso; simp at h; done)
      | (exfalso; simp only [List.length_map, decide_eq_false_iff_not, decide_eq_true_eq] at *; omega)
      | trace_state
  have hm := df_mrg (a := a) (b := b) (by unfold dfB; rw [ha, hb, decide_eq_true hne]; rfl)
  have hsa := tt_asc ha
  have hsb := tt_asc hb
  have hla := tt_trips ha
  have hlb := tt_trips hb
  rw [← hne] at h3
  repeat' first | refine go_seq ?_ | refine go_region ?_ | refine go_miss rfl rfl rfl ?_ | refine go_undef rfl rfl rfl ?_ | refine go_draw drawsOk ?_ | ((first | refine go_op rfl ?_ | refine go_nil ?_ | refine go_hit rfl rfl rfl ?_ | refine go_splitT rfl rfl rfl (fun h => ?_) (fun h => ?_) | refine go_splitF rfl rfl rfl (fun h => ?_) (fun h => ?_) | refine go_storeBox rfl rfl rfl rfl rfl rfl ?_ | refine go_dop rfl ?_ | refine go_dhit rfl rfl ?_ | refine go_dmiss rfl rfl ?_ | refine go_dundef rfl rfl ?_ | refine go_dend (by kernel_rfl) ?_ | refine go_pickT rfl ?_ | refine go_pickF rfl ?_ | refine go_pick rfl (fun h => ?_) (fun h => ?_) | refine go_call [] (h0) rfl rfl rfl rfl ?_ | refine go_call [] (h1) rfl rfl rfl rfl ?_ | refine go_call [] (h2) rfl rfl rfl rfl ?_ | refine go_call [] (h3) rfl rfl rfl rfl ?_) <;> conv => whnf) | ((first | refine Or.inl ?_ | refine go_dsplit2 rfl (fun h => ?_) (fun h => ?_) | refine go_loadB ?_ | refine ⟨by kernel_rfl, ?_⟩ | refine go_ret ?_) <;> conv => whnf) | refine go_block ?_ | ((first | refine go_skip ?_ | refine go_exit ?_) <;> conv => whnf) | refine go_true rfl ?_ | refine go_false rfl ?_ | refine go_cond rfl (fun h => ?_) (fun h => ?_) | refine ⟨rfl, ?_⟩ | ((first | refine ⟨trivial, ?_⟩ | refine ⟨le_of_ble rfl, ?_⟩) <;> conv => whnf) | fail
  all_goals try first
    | (exfalso; rw [str_self] at h; cases h; done)
    | (exfalso; simp [str_self] at h; done)
    | (exfalso; rw [List.length_map] at h; have h2 := of_decide_eq_false h; omega)
    | (exfalso; simp at h; done)
  refine go_loop (α := Nat × List Change) (fun p => p.1 ≤ a.trips.length ∧ outD b.trips (a.trips.take p.1) = some p.2) (fun p => a.trips.length - p.1)
    (fun p => st Tryz.f7.ntmps [(2, .box 1000 0), (3, .box 1001 0), (6, .own 1002 0 (p.2.map Change.enc).length), (30, .imm (.list (a.trips.map Trip.enc))), (31, .imm (.int .i64 (a.trips.map Trip.enc).length)), (32, .imm (.int .i64 (p.1 : Nat)))]
      [(1000, .box 38 (a.enc.map .imm)), (1001, .box 38 (b.enc.map .imm)), (1002, .arr 52 5 (p.2.map Change.enc))] []) (0, []) ⟨Nat.zero_le _, rfl⟩ ?_ ?_
  · exact ref_st (fun y => if y = 1000 then nid 1 2 else if y = 1001 then nid 1 3 else nid 3 6) rfl ⟨⟨rfl, rfl⟩, ⟨rfl, rfl⟩, ⟨rfl, rfl⟩, rfl, rfl, rfl, trivial⟩ ⟨⟨rfl, wavs_imm _⟩, ⟨rfl, wavs_imm _⟩, rfl, trivial⟩ (by simp [nid]) rfl (by simp)
  rintro ⟨i, out⟩ ⟨hi, ho⟩
  simp only at hi ho
  have hol := (outD_ids hsb _ _ (hsa.sublist (List.take_sublist i a.trips)) ho).2.1
  rw [List.length_take] at hol
  cases hx : a.trips[i]? with
  | some x =>
    have hlt := lt_of_at hx
    have hr := row_at Trip.enc hx
    have hnx := outD_next (bs := b.trips) hx
    rw [ho] at hnx
    have hc := c21 b (by omega) x.id
    have hbd : (out.map Change.enc).length + 1 ≤ 1073741824 := by rw [List.length_map]; omega
    by_cases hf : findT b.trips x.id < 0
    · rw [entD_miss hf] at hnx
      have hone := change_one [chgR x]
      repeat' first | refine go_seq ?_ | refine go_region ?_ | refine go_miss rfl rfl rfl ?_ | refine go_undef rfl rfl rfl ?_ | refine go_draw drawsOk ?_ | ((first | refine go_op rfl ?_ | refine go_nil ?_ | refine go_hit rfl rfl rfl ?_ | refine go_splitT rfl rfl rfl (fun h => ?_) (fun h => ?_) | refine go_splitF rfl rfl rfl (fun h => ?_) (fun h => ?_) | refine go_storeBox rfl rfl rfl rfl rfl rfl ?_ | refine go_dop rfl ?_ | refine go_dhit rfl rfl ?_ | refine go_dmiss rfl rfl ?_ | refine go_dundef rfl rfl ?_ | refine go_dend (by kernel_rfl) ?_ | refine go_pickT rfl ?_ | refine go_pickF rfl ?_ | refine go_pick rfl (fun h => ?_) (fun h => ?_) | refine go_call [] (hc) rfl rfl rfl rfl ?_ | refine go_idx rfl rfl rfl rfl (by omega) hr rfl ?_ | refine go_append (rows2 := [chgR x].map Change.enc) rfl rfl rfl rfl rfl rfl rfl rfl rfl rfl rfl rfl hone rfl rfl rfl hbd ?_) <;> conv => whnf) | ((first | refine Or.inl ?_ | refine go_dsplit2 rfl (fun h => ?_) (fun h => ?_) | refine go_loadB ?_ | refine ⟨by kernel_rfl, ?_⟩ | refine go_ret ?_) <;> conv => whnf) | refine go_block ?_ | ((first | refine go_skip ?_ | refine go_exit ?_) <;> conv => whnf) | refine go_true rfl ?_ | refine go_false rfl ?_ | refine go_cond rfl (fun h => ?_) (fun h => ?_) | refine ⟨rfl, ?_⟩ | ((first | refine ⟨trivial, ?_⟩ | refine ⟨le_of_ble rfl, ?_⟩) <;> conv => whnf) | fail
      all_goals first
        | (refine go_next (i + 1, out ++ [chgR x]) ⟨by show i + 1 ≤ _; omega, hnx⟩ (by show a.trips.length - (i + 1) < a.trips.length - i; omega) (ref_st (fun y => if y = 1002 then nid 6 47 else y) rfl ⟨⟨rfl, rfl⟩, ⟨rfl, rfl⟩, ⟨?_, rfl⟩, rfl, rfl, next_i (by omega), trivial⟩ ⟨⟨rfl, wavs_imm _⟩, ⟨rfl, wavs_imm _⟩, ?_, trivial⟩ (by simp [nid]) rfl (by simp))
           · show AV.own _ _ _ = AV.own _ _ _
             rw [List.map_append, List.length_append]; try rfl
           · rw [List.map_append]; rfl)
        | (exfalso; have h' := of_decide_eq_false h; omega)
        | (exfalso; have h' := of_decide_eq_true h; omega)
        | (exfalso; rename_i hq; have h' := of_decide_eq_true hq; omega)
        | (exfalso; rename_i hq; have h' := of_decide_eq_false hq; omega)
        | (exfalso; rename_i hq _; have h' := of_decide_eq_true hq; omega)
        | (exfalso; rename_i hq _; have h' := of_decide_eq_false hq; omega)
        | (exfalso; rw [List.length_map] at h; have h2 := of_decide_eq_false h; omega)
        | (exfalso; simp at h; done)
        | (exfalso; simp at h; omega)
        | (exfalso; simp only [List.length_map, decide_eq_false_iff_not, decide_eq_true_eq] at *; omega)
        | trace_state
    · obtain ⟨y, hy, hye⟩ : ∃ y ∈ b.trips, y.id = x.id := Classical.byContradiction fun hn => hf (findT_neg.2 fun y hy he => hn ⟨y, hy, he⟩)
      obtain ⟨j, hj, hjf⟩ := findT_hit hsb hy
      rw [hye] at hjf
      rw [hjf] at hc
      have hry : (b.trips.map Trip.enc)[((j : Nat) : Int).toNat]? = some y.enc := row_at Trip.enc hj
      rw [entD_hit hsb hy hye] at hnx
      by_cases hli : y.line = x.line
      · rw [if_neg (not_not_intro hli)] at hnx
        by_cases hst : y.start = x.start
        · rw [if_neg (not_not_intro hst)] at hnx
          simp only [List.append_nil] at hnx
          repeat' first | refine go_seq ?_ | refine go_region ?_ | refine go_miss rfl rfl rfl ?_ | refine go_undef rfl rfl rfl ?_ | refine go_draw drawsOk ?_ | ((first | refine go_op rfl ?_ | refine go_nil ?_ | refine go_hit rfl rfl rfl ?_ | refine go_splitT rfl rfl rfl (fun h => ?_) (fun h => ?_) | refine go_splitF rfl rfl rfl (fun h => ?_) (fun h => ?_) | refine go_storeBox rfl rfl rfl rfl rfl rfl ?_ | refine go_dop rfl ?_ | refine go_dhit rfl rfl ?_ | refine go_dmiss rfl rfl ?_ | refine go_dundef rfl rfl ?_ | refine go_dend (by kernel_rfl) ?_ | refine go_pickT rfl ?_ | refine go_pickF rfl ?_ | refine go_pick rfl (fun h => ?_) (fun h => ?_) | refine go_call [] (hc) rfl rfl rfl rfl ?_ | refine go_idx rfl rfl rfl rfl (by omega) hr rfl ?_ | refine go_idx rfl rfl rfl rfl (by omega) hry rfl ?_) <;> conv => whnf) | ((first | refine Or.inl ?_ | refine go_dsplit2 rfl (fun h => ?_) (fun h => ?_) | refine go_loadB ?_ | refine ⟨by kernel_rfl, ?_⟩ | refine go_ret ?_) <;> conv => whnf) | refine go_block ?_ | ((first | refine go_skip ?_ | refine go_exit ?_) <;> conv => whnf) | refine go_true rfl ?_ | refine go_false rfl ?_ | refine go_cond rfl (fun h => ?_) (fun h => ?_) | refine ⟨rfl, ?_⟩ | ((first | refine ⟨trivial, ?_⟩ | refine ⟨le_of_ble rfl, ?_⟩) <;> conv => whnf) | fail
          all_goals first
            | exact go_next (i + 1, out) ⟨by show i + 1 ≤ _; omega, hnx⟩ (by show a.trips.length - (i + 1) < a.trips.length - i; omega) (ref_st id rfl ⟨⟨rfl, rfl⟩, ⟨rfl, rfl⟩, ⟨rfl, rfl⟩, rfl, rfl, next_i (by omega), trivial⟩ ⟨⟨rfl, wavs_imm _⟩, ⟨rfl, wavs_imm _⟩, rfl, trivial⟩ (by simp) rfl (by simp))
            | (exfalso; have h' := of_decide_eq_false h; omega)
            | (exfalso; have h' := of_decide_eq_true h; omega)
            | (exfalso; rename_i hq; have h' := of_decide_eq_true hq; omega)
            | (exfalso; rename_i hq; have h' := of_decide_eq_false hq; omega)
            | (exfalso; rename_i hq _; have h' := of_decide_eq_true hq; omega)
            | (exfalso; rename_i hq _; have h' := of_decide_eq_false hq; omega)
            | (exfalso; simp_all; done)
            | (exfalso; rw [List.length_map] at h; have h2 := of_decide_eq_false h; omega)
            | (exfalso; simp at h; done)
            | (exfalso; simp at h; omega)
            | (exfalso; simp only [List.length_map, decide_eq_false_iff_not, decide_eq_true_eq] at *; omega)
            | trace_state
        · rw [if_pos hst] at hnx
          have hone := change_one [chgM x y]
          repeat' first | refine go_seq ?_ | refine go_region ?_ | refine go_miss rfl rfl rfl ?_ | refine go_undef rfl rfl rfl ?_ | refine go_draw drawsOk ?_ | ((first | refine go_op rfl ?_ | refine go_nil ?_ | refine go_hit rfl rfl rfl ?_ | refine go_splitT rfl rfl rfl (fun h => ?_) (fun h => ?_) | refine go_splitF rfl rfl rfl (fun h => ?_) (fun h => ?_) | refine go_storeBox rfl rfl rfl rfl rfl rfl ?_ | refine go_dop rfl ?_ | refine go_dhit rfl rfl ?_ | refine go_dmiss rfl rfl ?_ | refine go_dundef rfl rfl ?_ | refine go_dend (by kernel_rfl) ?_ | refine go_pickT rfl ?_ | refine go_pickF rfl ?_ | refine go_pick rfl (fun h => ?_) (fun h => ?_) | refine go_call [] (hc) rfl rfl rfl rfl ?_ | refine go_idx rfl rfl rfl rfl (by omega) hr rfl ?_ | refine go_idx rfl rfl rfl rfl (by omega) hry rfl ?_ | refine go_append (rows2 := [chgM x y].map Change.enc) rfl rfl rfl rfl rfl rfl rfl rfl rfl rfl rfl rfl hone rfl rfl rfl hbd ?_) <;> conv => whnf) | ((first | refine Or.inl ?_ | refine go_dsplit2 rfl (fun h => ?_) (fun h => ?_) | refine go_loadB ?_ | refine ⟨by kernel_rfl, ?_⟩ | refine go_ret ?_) <;> conv => whnf) | refine go_block ?_ | ((first | refine go_skip ?_ | refine go_exit ?_) <;> conv => whnf) | refine go_true rfl ?_ | refine go_false rfl ?_ | refine go_cond rfl (fun h => ?_) (fun h => ?_) | refine ⟨rfl, ?_⟩ | ((first | refine ⟨trivial, ?_⟩ | refine ⟨le_of_ble rfl, ?_⟩) <;> conv => whnf) | fail
          all_goals first
            | (refine go_next (i + 1, out ++ [chgM x y]) ⟨by show i + 1 ≤ _; omega, hnx⟩ (by show a.trips.length - (i + 1) < a.trips.length - i; omega) (ref_st (fun y => if y = 1002 then nid 8 78 else y) rfl ⟨⟨rfl, rfl⟩, ⟨rfl, rfl⟩, ⟨?_, rfl⟩, rfl, rfl, next_i (by omega), trivial⟩ ⟨⟨rfl, wavs_imm _⟩, ⟨rfl, wavs_imm _⟩, ?_, trivial⟩ (by simp [nid]) rfl (by simp))
               · show AV.own _ _ _ = AV.own _ _ _
                 rw [List.map_append, List.length_append]; try rfl
               · rw [List.map_append]; rfl)
            | (exfalso; have h' := of_decide_eq_false h; omega)
            | (exfalso; have h' := of_decide_eq_true h; omega)
            | (exfalso; rename_i hq; have h' := of_decide_eq_true hq; omega)
            | (exfalso; rename_i hq; have h' := of_decide_eq_false hq; omega)
            | (exfalso; rename_i hq _; have h' := of_decide_eq_true hq; omega)
            | (exfalso; rename_i hq _; have h' := of_decide_eq_false hq; omega)
            | (exfalso; simp_all; done)
            | (exfalso; rw [List.length_map] at h; have h2 := of_decide_eq_false h; omega)
            | (exfalso; simp at h; done)
            | (exfalso; simp at h; omega)
            | (exfalso; simp only [List.length_map, decide_eq_false_iff_not, decide_eq_true_eq] at *; omega)
            | trace_state
      · rw [if_pos hli] at hnx
        have hbad := df_none (a := a) (b := b) (by rw [hm, dif_none hsa hsb (outD_stop hnx)])
        rw [hbad.1, hbad.2]
        repeat' first | refine go_seq ?_ | refine go_region ?_ | refine go_miss rfl rfl rfl ?_ | refine go_undef rfl rfl rfl ?_ | refine go_draw drawsOk ?_ | ((first | refine go_op rfl ?_ | refine go_nil ?_ | refine go_hit rfl rfl rfl ?_ | refine go_splitT rfl rfl rfl (fun h => ?_) (fun h => ?_) | refine go_splitF rfl rfl rfl (fun h => ?_) (fun h => ?_) | refine go_storeBox rfl rfl rfl rfl rfl rfl ?_ | refine go_dop rfl ?_ | refine go_dhit rfl rfl ?_ | refine go_dmiss rfl rfl ?_ | refine go_dundef rfl rfl ?_ | refine go_dend (by kernel_rfl) ?_ | refine go_pickT rfl ?_ | refine go_pickF rfl ?_ | refine go_pick rfl (fun h => ?_) (fun h => ?_) | refine go_call [] (hc) rfl rfl rfl rfl ?_ | refine go_idx rfl rfl rfl rfl (by omega) hr rfl ?_ | refine go_idx rfl rfl rfl rfl (by omega) hry rfl ?_) <;> conv => whnf) | ((first | refine Or.inl ?_ | refine go_dsplit2 rfl (fun h => ?_) (fun h => ?_) | refine go_loadB ?_ | refine ⟨by kernel_rfl, ?_⟩ | refine go_ret ?_) <;> conv => whnf) | refine go_block ?_ | ((first | refine go_skip ?_ | refine go_exit ?_) <;> conv => whnf) | refine go_true rfl ?_ | refine go_false rfl ?_ | refine go_cond rfl (fun h => ?_) (fun h => ?_) | refine ⟨rfl, ?_⟩ | ((first | refine ⟨trivial, ?_⟩ | refine ⟨le_of_ble rfl, ?_⟩) <;> conv => whnf) | fail
        all_goals first
          | exact ret_arr2 rfl rfl rfl rfl rfl rfl (by intro r hr; cases hr) rfl rfl rfl
          | (exfalso; have h' := of_decide_eq_false h; omega)
          | (exfalso; have h' := of_decide_eq_true h; omega)
          | (exfalso; rename_i hq; have h' := of_decide_eq_true hq; omega)
          | (exfalso; rename_i hq; have h' := of_decide_eq_false hq; omega)
          | (exfalso; rename_i hq _; have h' := of_decide_eq_true hq; omega)
          | (exfalso; rename_i hq _; have h' := of_decide_eq_false hq; omega)
          | (exfalso; simp_all; done)
          | (exfalso; rw [List.length_map] at h; have h2 := of_decide_eq_false h; omega)
          | (exfalso; simp at h; done)
          | (exfalso; simp at h; omega)
          | (exfalso; simp only [List.length_map, decide_eq_false_iff_not, decide_eq_true_eq] at *; omega)
          | trace_state
  | none =>
    have hge := le_of_at hx
    rw [List.take_of_length_le hge] at ho
    have hol : out.length ≤ a.trips.length := (outD_ids hsb _ _ hsa ho).2.1
    repeat' first | refine go_seq ?_ | refine go_region ?_ | refine go_miss rfl rfl rfl ?_ | refine go_undef rfl rfl rfl ?_ | refine go_draw drawsOk ?_ | ((first | refine go_op rfl ?_ | refine go_nil ?_ | refine go_hit rfl rfl rfl ?_ | refine go_splitT rfl rfl rfl (fun h => ?_) (fun h => ?_) | refine go_splitF rfl rfl rfl (fun h => ?_) (fun h => ?_) | refine go_storeBox rfl rfl rfl rfl rfl rfl ?_ | refine go_dop rfl ?_ | refine go_dhit rfl rfl ?_ | refine go_dmiss rfl rfl ?_ | refine go_dundef rfl rfl ?_ | refine go_dend (by kernel_rfl) ?_ | refine go_pickT rfl ?_ | refine go_pickF rfl ?_ | refine go_pick rfl (fun h => ?_) (fun h => ?_)) <;> conv => whnf) | ((first | refine Or.inl ?_ | refine go_dsplit2 rfl (fun h => ?_) (fun h => ?_) | refine go_loadB ?_ | refine ⟨by kernel_rfl, ?_⟩ | refine go_ret ?_) <;> conv => whnf) | refine go_block ?_ | ((first | refine go_skip ?_ | refine go_exit ?_) <;> conv => whnf) | refine go_true rfl ?_ | refine go_false rfl ?_ | refine go_cond rfl (fun h => ?_) (fun h => ?_) | refine ⟨rfl, ?_⟩ | ((first | refine ⟨trivial, ?_⟩ | refine ⟨le_of_ble rfl, ?_⟩) <;> conv => whnf) | fail
    all_goals try first
      | (exfalso; have h' := of_decide_eq_false h; omega)
      | (exfalso; have h' := of_decide_eq_true h; omega)
      | (exfalso; rename_i hq; have h' := of_decide_eq_true hq; omega)
      | (exfalso; rename_i hq; have h' := of_decide_eq_false hq; omega)
      | (exfalso; rename_i hq _; have h' := of_decide_eq_true hq; omega)
      | (exfalso; rename_i hq _; have h' := of_decide_eq_false hq; omega)
      | (exfalso; rw [List.length_map] at h; have h2 := of_decide_eq_false h; omega)
      | (exfalso; simp at h; done)
      | (exfalso; simp at h; omega)
    refine go_loop (α := Nat) (fun i => i ≤ b.trips.length) (fun i => b.trips.length - i)
      (fun i => st Tryz.f7.ntmps [(2, .box 1000 0), (6, .own 1002 0 ((out ++ addN a.trips b.trips i).map Change.enc).length), (81, .imm (.list (b.trips.map Trip.enc))), (82, .imm (.int .i64 (b.trips.map Trip.enc).length)), (83, .imm (.int .i64 (i : Nat)))]
        [(1000, .box 38 (a.enc.map .imm)), (1002, .arr 52 5 ((out ++ addN a.trips b.trips i).map Change.enc))] []) 0 (Nat.zero_le _) ?_ ?_
    · have e0 : out ++ addN a.trips b.trips 0 = out := List.append_nil _
      rw [e0]
      exact ref_st id rfl ⟨⟨rfl, rfl⟩, ⟨rfl, rfl⟩, rfl, rfl, rfl, trivial⟩ ⟨⟨rfl, wavs_imm _⟩, rfl, trivial⟩ (by simp [nid]) rfl (by simp)
    intro i hi
    have hal := addN_len a.trips b.trips i
    have hbl : (out ++ addN a.trips b.trips i).length ≤ 24 := by rw [List.length_append]; omega
    cases hx : b.trips[i]? with
    | some x =>
      have hlt := lt_of_at hx
      have hr := row_at Trip.enc hx
      have hnx := addN_next (us := a.trips) hx
      have hc := c21 a (by omega) x.id
      have hbd : ((out ++ addN a.trips b.trips i).map Change.enc).length + 1 ≤ 1073741824 := by rw [List.length_map]; omega
      by_cases hf : findT a.trips x.id < 0
      · rw [if_pos hf] at hnx
        have hone := change_one [chgA x]
        repeat' first | refine go_seq ?_ | refine go_region ?_ | refine go_miss rfl rfl rfl ?_ | refine go_undef rfl rfl rfl ?_ | refine go_draw drawsOk ?_ | ((first | refine go_op rfl ?_ | refine go_nil ?_ | refine go_hit rfl rfl rfl ?_ | refine go_splitT rfl rfl rfl (fun h => ?_) (fun h => ?_) | refine go_splitF rfl rfl rfl (fun h => ?_) (fun h => ?_) | refine go_storeBox rfl rfl rfl rfl rfl rfl ?_ | refine go_dop rfl ?_ | refine go_dhit rfl rfl ?_ | refine go_dmiss rfl rfl ?_ | refine go_dundef rfl rfl ?_ | refine go_dend (by kernel_rfl) ?_ | refine go_pickT rfl ?_ | refine go_pickF rfl ?_ | refine go_pick rfl (fun h => ?_) (fun h => ?_) | refine go_call [] (hc) rfl rfl rfl rfl ?_ | refine go_idx rfl rfl rfl rfl (by omega) hr rfl ?_ | refine go_append (rows2 := [chgA x].map Change.enc) rfl rfl rfl rfl rfl rfl rfl rfl rfl rfl rfl rfl hone rfl rfl rfl hbd ?_) <;> conv => whnf) | ((first | refine Or.inl ?_ | refine go_dsplit2 rfl (fun h => ?_) (fun h => ?_) | refine go_loadB ?_ | refine ⟨by kernel_rfl, ?_⟩ | refine go_ret ?_) <;> conv => whnf) | refine go_block ?_ | ((first | refine go_skip ?_ | refine go_exit ?_) <;> conv => whnf) | refine go_true rfl ?_ | refine go_false rfl ?_ | refine go_cond rfl (fun h => ?_) (fun h => ?_) | refine ⟨rfl, ?_⟩ | ((first | refine ⟨trivial, ?_⟩ | refine ⟨le_of_ble rfl, ?_⟩) <;> conv => whnf) | fail
        all_goals first
          | (refine go_next (i + 1) (by omega) (by omega) (ref_st (fun y => if y = 1002 then nid 5 96 else y) rfl ⟨⟨rfl, rfl⟩, ⟨?_, rfl⟩, rfl, rfl, next_i (by omega), trivial⟩ ⟨⟨rfl, wavs_imm _⟩, ?_, trivial⟩ (by simp [nid]) rfl (by simp))
             · show AV.own _ _ _ = AV.own _ _ _
               rw [hnx, ← List.append_assoc, List.map_append (l₁ := out ++ addN a.trips b.trips i), List.length_append]; try rfl
             · rw [hnx, ← List.append_assoc, List.map_append (l₁ := out ++ addN a.trips b.trips i)]; rfl)
          | (exfalso; have h' := of_decide_eq_false h; omega)
          | (exfalso; have h' := of_decide_eq_true h; omega)
          | (exfalso; rename_i hq; have h' := of_decide_eq_true hq; omega)
          | (exfalso; rename_i hq; have h' := of_decide_eq_false hq; omega)
          | (exfalso; rename_i hq _; have h' := of_decide_eq_true hq; omega)
          | (exfalso; rename_i hq _; have h' := of_decide_eq_false hq; omega)
          | (exfalso; rw [List.length_map] at h; have h2 := of_decide_eq_false h; omega)
          | (exfalso; simp at h; done)
          | (exfalso; simp at h; omega)
          | (exfalso; simp only [List.length_map, decide_eq_false_iff_not, decide_eq_true_eq] at *; omega)
          | trace_state
      · rw [if_neg hf, List.append_nil] at hnx
        repeat' first | refine go_seq ?_ | refine go_region ?_ | refine go_miss rfl rfl rfl ?_ | refine go_undef rfl rfl rfl ?_ | refine go_draw drawsOk ?_ | ((first | refine go_op rfl ?_ | refine go_nil ?_ | refine go_hit rfl rfl rfl ?_ | refine go_splitT rfl rfl rfl (fun h => ?_) (fun h => ?_) | refine go_splitF rfl rfl rfl (fun h => ?_) (fun h => ?_) | refine go_storeBox rfl rfl rfl rfl rfl rfl ?_ | refine go_dop rfl ?_ | refine go_dhit rfl rfl ?_ | refine go_dmiss rfl rfl ?_ | refine go_dundef rfl rfl ?_ | refine go_dend (by kernel_rfl) ?_ | refine go_pickT rfl ?_ | refine go_pickF rfl ?_ | refine go_pick rfl (fun h => ?_) (fun h => ?_) | refine go_call [] (hc) rfl rfl rfl rfl ?_ | refine go_idx rfl rfl rfl rfl (by omega) hr rfl ?_) <;> conv => whnf) | ((first | refine Or.inl ?_ | refine go_dsplit2 rfl (fun h => ?_) (fun h => ?_) | refine go_loadB ?_ | refine ⟨by kernel_rfl, ?_⟩ | refine go_ret ?_) <;> conv => whnf) | refine go_block ?_ | ((first | refine go_skip ?_ | refine go_exit ?_) <;> conv => whnf) | refine go_true rfl ?_ | refine go_false rfl ?_ | refine go_cond rfl (fun h => ?_) (fun h => ?_) | refine ⟨rfl, ?_⟩ | ((first | refine ⟨trivial, ?_⟩ | refine ⟨le_of_ble rfl, ?_⟩) <;> conv => whnf) | fail
        all_goals first
          | exact go_next (i + 1) (by omega) (by omega) (by rw [hnx]; exact ref_st id rfl ⟨⟨rfl, rfl⟩, ⟨rfl, rfl⟩, rfl, rfl, next_i (by omega), trivial⟩ ⟨⟨rfl, wavs_imm _⟩, rfl, trivial⟩ (by simp) rfl (by simp))
          | (exfalso; have h' := of_decide_eq_false h; omega)
          | (exfalso; have h' := of_decide_eq_true h; omega)
          | (exfalso; rename_i hq; have h' := of_decide_eq_true hq; omega)
          | (exfalso; rename_i hq; have h' := of_decide_eq_false hq; omega)
          | (exfalso; rename_i hq _; have h' := of_decide_eq_true hq; omega)
          | (exfalso; rename_i hq _; have h' := of_decide_eq_false hq; omega)
          | (exfalso; rw [List.length_map] at h; have h2 := of_decide_eq_false h; omega)
          | (exfalso; simp at h; done)
          | (exfalso; simp at h; omega)
          | (exfalso; simp only [List.length_map, decide_eq_false_iff_not, decide_eq_true_eq] at *; omega)
          | trace_state
    | none =>
      have hge := le_of_at hx
      rw [addN_all hge] at hbl ⊢
      generalize hall : out ++ addD a.trips b.trips = all at *
      have hml : (all.map Change.enc).length = all.length := List.length_map _
      have hS := srtC_sorts all
      have hmg := dif_some hsa hsb ho (s := srtC all) (by rw [hall]; exact hS.1) hS.2
      rw [hmg] at hm
      simp only at hm
      have hsl : (srtC all).length = all.length := hS.1.length_eq
      rw [hsl] at hm
      by_cases hbig : 24 < all.length
      · omega
      rw [if_neg hbig] at hm
      have hgood := df_some hm
      rw [hgood.1, hgood.2]
      have hs := c22 all (by omega)
      repeat' first | refine go_seq ?_ | refine go_region ?_ | refine go_miss rfl rfl rfl ?_ | refine go_undef rfl rfl rfl ?_ | refine go_draw drawsOk ?_ | ((first | refine go_op rfl ?_ | refine go_nil ?_ | refine go_hit rfl rfl rfl ?_ | refine go_splitT rfl rfl rfl (fun h => ?_) (fun h => ?_) | refine go_splitF rfl rfl rfl (fun h => ?_) (fun h => ?_) | refine go_storeBox rfl rfl rfl rfl rfl rfl ?_ | refine go_dop rfl ?_ | refine go_dhit rfl rfl ?_ | refine go_dmiss rfl rfl ?_ | refine go_dundef rfl rfl ?_ | refine go_dend (by kernel_rfl) ?_ | refine go_pickT rfl ?_ | refine go_pickF rfl ?_ | refine go_pick rfl (fun h => ?_) (fun h => ?_) | refine go_call [2, 0] hs (argsIn_lent rfl rfl rfl) rfl rfl rfl ?_) <;> conv => whnf) | ((first | refine Or.inl ?_ | refine go_dsplit2 rfl (fun h => ?_) (fun h => ?_) | refine go_loadB ?_ | refine ⟨by kernel_rfl, ?_⟩ | refine go_ret ?_) <;> conv => whnf) | refine go_block ?_ | ((first | refine go_skip ?_ | refine go_exit ?_) <;> conv => whnf) | refine go_true rfl ?_ | refine go_false rfl ?_ | refine go_cond rfl (fun h => ?_) (fun h => ?_) | refine ⟨rfl, ?_⟩ | ((first | refine ⟨trivial, ?_⟩ | refine ⟨le_of_ble rfl, ?_⟩) <;> conv => whnf) | fail
      all_goals first
        | exact ret_arr2 rfl rfl rfl rfl rfl (by rw [List.drop_zero, List.take_of_length_le (by rw [List.length_map, List.length_map, hsl]; exact Nat.le_refl _)]) (change_gr _) rfl rfl rfl
        | (exfalso; have h' := of_decide_eq_false h; omega)
        | (exfalso; have h' := of_decide_eq_true h; omega)
        | (exfalso; rename_i hq; have h' := of_decide_eq_true hq; omega)
        | (exfalso; rename_i hq; have h' := of_decide_eq_false hq; omega)
        | (exfalso; rename_i hq _; have h' := of_decide_eq_true hq; omega)
        | (exfalso; rename_i hq _; have h' := of_decide_eq_false hq; omega)
        | (exfalso; rw [List.length_map] at h; have h2 := of_decide_eq_false h; omega)
        | (exfalso; simp at h; done)
        | (exfalso; simp at h; omega)
        | (exfalso; simp only [List.length_map, decide_eq_false_iff_not, decide_eq_true_eq] at *; omega)
        | trace_state
end Go.Proofs.YtekilollacmajaaGreatDoor

