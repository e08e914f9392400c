/- Stops at which calls have changed: program and reference. -/
import Derived.Test.YtcfhmncbfekoaaaGreatV8
import Derived.Test.YtcfhmncbfekoaaaGreatS1
namespace Go.Proofs.YtcfhmncbfekoaaaGreat
open Go Go.Am Go.Proofs
set_option maxRecDepth 100000
set_option maxHeartbeats 8000000
attribute [local irreducible] amOps amC opCall opIndexAddr opPick retQ opMake opStore amDraw opAppend opLoad opNilCmp opIndex opSlice

theorem ap_good {t : Timetable} (hf : t.fit) {cs : List Change} (h : ivOk t cs = true) : ttOk (apT t cs) = true ∧ (apT t cs).fit ∧ (apT t cs).net = t.net := by
  unfold ivOk at h
  simp only [Bool.and_eq_true] at h
  have h2 := h.2
  unfold apOk at h2
  cases ho : apO t cs with
  | none => rw [ho] at h2; cases h2
  | some out =>
    rw [ho] at h2
    simp only at h2
    have e : apT t cs = ⟨t.net, out⟩ := by
      unfold apT
      rw [ho]
      simp only
      rw [if_pos h2]
    rw [e]
    refine ⟨h2, ⟨hf.1, ?_, fun x _ => trivial⟩, rfl⟩
    show out.length ≤ 1048576
    have h3 := h2
    unfold ttOk tripsOk at h3
    simp only [Bool.and_eq_true, decide_eq_true_eq] at h3
    have : out.length ≤ 12 := h3.2.1
    omega

def acT (t : Timetable) (cs : List Change) : Timetable := if ttOk t then apT t cs else ttNone
theorem c46 (t : Timetable) (hf : t.fit) (cs : List Change) (hl : cs.length ≤ 1048576) : CallOk Tryz.prog 46 [.imm (.agg t.enc), .imm (.list (cs.map Change.enc))] { res := [.imm (.agg (acT t cs).enc), .imm (.bool (ivOk t cs))], sep := false } := by
  refine callOk_of tyOk Tryz.func46 rfl rfl (le_of_ble rfl) (le_of_ble rfl) (mutOk_imm rfl _) ?_
  have h0 := c55 t hf
  unfold acT ivOk
  cases hv : ttOk t with
  | true =>
    rw [hv] at h0
    have h1 := c56 t hf hv cs hl
    rw [if_pos rfl, Bool.true_and]
    repeat' first | refine go_seq ?_ | refine go_region ?_ | ((first | refine go_op rfl ?_ | refine go_nil ?_ | refine go_storeBox rfl rfl rfl rfl rfl rfl ?_ | refine go_call [] (h0) rfl rfl rfl rfl ?_ | refine go_call [] (h1) rfl rfl rfl rfl ?_) <;> conv => whnf) | ((first | refine Or.inl ?_ | refine go_loadB ?_ | refine ⟨by kernel_rfl, ?_⟩ | refine go_ret ?_) <;> conv => whnf) | ((first | refine go_skip ?_) <;> conv => whnf) | refine go_true rfl ?_ | refine go_false rfl ?_ | refine go_cond rfl (fun h => ?_) (fun h => ?_) | refine ⟨rfl, ?_⟩ | ((first | refine ⟨trivial, ?_⟩ | refine ⟨le_of_ble rfl, ?_⟩) <;> conv => whnf) | fail
    all_goals first
      | exact ret_all rfl ⟨⟨rfl, fun h => by cases h⟩, ⟨rfl, fun h => by cases h⟩, trivial⟩ List.nodup_nil List.nodup_nil trivial
      | (exfalso; simp at h; done)
      | trace_state
  | false =>
    rw [hv] at h0
    rw [if_neg (by simp), Bool.false_and]
    repeat' first | refine go_seq ?_ | refine go_region ?_ | ((first | refine go_op rfl ?_ | refine go_nil ?_ | refine go_storeBox rfl rfl rfl rfl rfl rfl ?_ | refine go_call [] (h0) rfl rfl rfl rfl ?_) <;> conv => whnf) | ((first | refine Or.inl ?_ | refine go_loadB ?_ | refine ⟨by kernel_rfl, ?_⟩ | refine go_ret ?_) <;> conv => whnf) | ((first | refine go_skip ?_) <;> conv => whnf) | refine go_true rfl ?_ | refine go_false rfl ?_ | refine go_cond rfl (fun h => ?_) (fun h => ?_) | refine ⟨rfl, ?_⟩ | ((first | refine ⟨trivial, ?_⟩ | refine ⟨le_of_ble rfl, ?_⟩) <;> conv => whnf) | fail
    all_goals first
      | exact ret_all rfl ⟨⟨rfl, fun h => by cases h⟩, ⟨rfl, fun h => by cases h⟩, trivial⟩ List.nodup_nil List.nodup_nil trivial
      | (exfalso; simp at h; done)
      | trace_state

def csL (t : Timetable) (cs : List Change) : List Int := if ivOk t cs then chgS t (apT t cs) t.net.stops.length else []
theorem csL_len (t : Timetable) (hf : t.fit) (cs : List Change) : (csL t cs).length ≤ 1048576 := by
  unfold csL
  split
  · have := chgS_len t (apT t cs) t.net.stops.length
    have := hf.1.1
    omega
  · simp

theorem c18 (t : Timetable) (hf : t.fit) (cs : List Change) (hl : cs.length ≤ 1048576) : CallOk Tryz.prog 18 [.imm (.agg t.enc), .imm (.list (cs.map Change.enc))] { res := [.arr 3 1 ((csL t cs).map intRow), .imm (.bool (ivOk t cs))] } := by
  refine callOk_of tyOk Tryz.func18 rfl rfl (le_of_ble rfl) (le_of_ble rfl) (mutOk_imm rfl _) ?_
  have h0 := c46 t hf cs hl
  unfold csL
  cases hv : ivOk t cs with
  | false =>
    rw [hv] at h0
    rw [if_neg (by simp)]
    repeat' first | refine go_seq ?_ | refine go_region ?_ | refine go_draw drawsOk ?_ | ((first | refine go_op rfl ?_ | refine go_nil ?_ | refine go_storeBox rfl rfl rfl rfl rfl rfl ?_ | refine go_dop rfl ?_ | refine go_dend (by kernel_rfl) ?_ | refine go_call [] (h0) rfl rfl rfl rfl ?_) <;> conv => whnf) | ((first | refine go_loadB ?_ | refine ⟨by kernel_rfl, ?_⟩ | refine go_ret ?_) <;> conv => whnf) | refine go_block ?_ | ((first | refine go_skip ?_ | refine go_exit ?_) <;> conv => whnf) | refine go_true rfl ?_ | refine go_false rfl ?_ | refine go_cond rfl (fun h => ?_) (fun h => ?_) | refine ⟨rfl, ?_⟩ | ((first | refine ⟨trivial, ?_⟩ | refine ⟨le_of_ble rfl, ?_⟩) <;> conv => whnf) | fail
    all_goals first
      | exact ret_arr2 rfl rfl rfl rfl rfl rfl (by intro r hr; cases hr) rfl rfl rfl
      | (exfalso; simp at h; done)
      | trace_state
  | true =>
    have hok : ttOk t = true := by unfold ivOk at hv; simp only [Bool.and_eq_true] at hv; exact hv.1
    obtain ⟨g1, g2, g3⟩ := ap_good hf hv
    have ea : acT t cs = apT t cs := by unfold acT; rw [if_pos hok]
    rw [hv, ea] at h0
    rw [if_pos rfl]
    generalize apT t cs = t' at *
    have hns : t.net.stops.length ≤ 1048576 := hf.1.1
    have hsl : (t.net.stops.map strRow).length = t.net.stops.length := List.length_map _
    repeat' first | refine go_seq ?_ | refine go_region ?_ | refine go_draw drawsOk ?_ | ((first | refine go_op rfl ?_ | refine go_nil ?_ | refine go_storeBox rfl rfl rfl rfl rfl rfl ?_ | refine go_dop rfl ?_ | refine go_dend (by kernel_rfl) ?_ | refine go_call [] (h0) rfl rfl rfl rfl ?_) <;> conv => whnf) | ((first | refine go_loadB ?_ | refine ⟨by kernel_rfl, ?_⟩ | refine go_ret ?_) <;> conv => whnf) | refine go_block ?_ | ((first | refine go_skip ?_ | refine go_exit ?_) <;> conv => whnf) | refine go_true rfl ?_ | refine go_false rfl ?_ | refine go_cond rfl (fun h => ?_) (fun h => ?_) | refine ⟨rfl, ?_⟩ | ((first | refine ⟨trivial, ?_⟩ | refine ⟨le_of_ble rfl, ?_⟩) <;> conv => whnf) | fail
    all_goals try first
      | (exfalso; simp at h; done)
    refine go_loop (α := Nat) (fun i => i ≤ t.net.stops.length) (fun i => t.net.stops.length - i)
      (fun i => st Tryz.f18.ntmps [(2, .box 1000 0), (6, .box 1001 0), (8, .own 1002 0 ((chgS t t' i).map intRow).length), (21, .imm (.int .i64 (t.net.stops.map strRow).length)), (22, .imm (.int .i64 (i : Nat)))]
        [(1000, .box 40 (t.enc.map .imm)), (1001, .box 40 (t'.enc.map .imm)), (1002, .arr 3 1 ((chgS t t' i).map intRow))] []) 0 (Nat.zero_le _) ?_ ?_
    · exact ref_st (fun y => if y = 1000 then nid 1 2 else if y = 1001 then nid 2 6 else nid 4 8) rfl ⟨⟨rfl, rfl⟩, ⟨rfl, rfl⟩, ⟨rfl, rfl⟩, rfl, rfl, trivial⟩ ⟨⟨rfl, wavs_imm _⟩, ⟨rfl, wavs_imm _⟩, rfl, trivial⟩ (by simp [nid]) rfl (by simp)
    intro i hi
    by_cases hlt : i < t.net.stops.length
    case neg =>
      have hin : i = t.net.stops.length := by omega
      subst hin
      repeat' first | refine go_seq ?_ | refine go_region ?_ | refine go_draw drawsOk ?_ | ((first | refine go_op rfl ?_ | refine go_nil ?_ | refine go_storeBox rfl rfl rfl rfl rfl rfl ?_ | refine go_dop rfl ?_ | refine go_dend (by kernel_rfl) ?_) <;> conv => whnf) | ((first | refine go_loadB ?_ | refine ⟨by kernel_rfl, ?_⟩ | refine go_ret ?_) <;> conv => whnf) | refine go_block ?_ | ((first | refine go_skip ?_ | refine go_exit ?_) <;> conv => whnf) | refine go_true rfl ?_ | refine go_false rfl ?_ | refine go_cond rfl (fun h => ?_) (fun h => ?_) | refine ⟨rfl, ?_⟩ | ((first | refine ⟨trivial, ?_⟩ | refine ⟨le_of_ble rfl, ?_⟩) <;> conv => whnf) | fail
      all_goals first
        | exact ret_arr2 rfl rfl rfl rfl rfl (by rw [List.drop_zero, List.take_length]) (int_gr _) rfl rfl rfl
        | (exfalso; have h' := of_decide_eq_false h; omega)
        | (exfalso; have h' := of_decide_eq_true h; omega)
        | (exfalso; rename_i hq; have h' := of_decide_eq_true hq; omega)
        | (exfalso; rename_i hq; have h' := of_decide_eq_false hq; omega)
        | (exfalso; rename_i hq _; have h' := of_decide_eq_true hq; omega)
        | (exfalso; rename_i hq _; have h' := of_decide_eq_false hq; omega)
        | (exfalso; simp at h; done)
        | (exfalso; simp at h; omega)
        | trace_state
    have hA := c48 t hf hok (i : Int)
    have hB := c48 t' g2 g1 (i : Int)
    have la := cals_len t (i : Int)
    have lb := cals_len t' (i : Int)
    have hta : t.trips.length ≤ 1048576 := hf.2.1
    have htb : t'.trips.length ≤ 1048576 := g2.2.1
    have hE := c47 (sortL calLt (cals t (i : Int))) (sortL calLt (cals t' (i : Int))) (by rw [sortL_len calWeak]; omega) (by rw [sortL_len calWeak]; omega)
    rw [cals_same hok g1] at hE
    have hnx := chgS_next t t' i
    have hcl := chgS_len t t' i
    have hb2 : ((chgS t t' i).map intRow).length + 1 ≤ 1073741824 := by rw [List.length_map]; omega
    have hone := int_one [(i : Int)]
    unfold chgB at hnx
    cases hb : decide (flat2 (cals t (i : Int)) = flat2 (cals t' (i : Int))) with
    | true =>
      rw [hb] at hE hnx
      rw [Bool.not_true, if_neg (by simp), List.append_nil] at hnx
      repeat' first | refine go_seq ?_ | refine go_region ?_ | refine go_draw drawsOk ?_ | ((first | refine go_op rfl ?_ | refine go_nil ?_ | refine go_storeBox rfl rfl rfl rfl rfl rfl ?_ | refine go_dop rfl ?_ | refine go_dend (by kernel_rfl) ?_ | refine go_call [] (hA) rfl rfl rfl rfl ?_ | refine go_call [] (hB) rfl rfl rfl rfl ?_ | refine go_call [] (hE) rfl rfl rfl rfl ?_) <;> conv => whnf) | ((first | refine go_loadB ?_ | refine ⟨by kernel_rfl, ?_⟩ | refine go_ret ?_) <;> conv => whnf) | refine go_block ?_ | ((first | refine go_skip ?_ | refine go_exit ?_) <;> conv => whnf) | refine go_true rfl ?_ | refine go_false rfl ?_ | refine go_cond rfl (fun h => ?_) (fun h => ?_) | refine ⟨rfl, ?_⟩ | ((first | refine ⟨trivial, ?_⟩ | refine ⟨le_of_ble rfl, ?_⟩) <;> conv => whnf) | fail
      all_goals first
        | exact go_next (i + 1) (by omega) (by omega) (by rw [hnx]; exact ref_st id rfl ⟨⟨rfl, rfl⟩, ⟨rfl, rfl⟩, ⟨rfl, rfl⟩, rfl, next_i (by omega), trivial⟩ ⟨⟨rfl, wavs_imm _⟩, ⟨rfl, wavs_imm _⟩, rfl, trivial⟩ (by simp) rfl (by simp))
        | (exfalso; have h' := of_decide_eq_false h; omega)
        | (exfalso; have h' := of_decide_eq_true h; omega)
        | (exfalso; rename_i hq; have h' := of_decide_eq_true hq; omega)
        | (exfalso; rename_i hq; have h' := of_decide_eq_false hq; omega)
        | (exfalso; rename_i hq _; have h' := of_decide_eq_true hq; omega)
        | (exfalso; rename_i hq _; have h' := of_decide_eq_false hq; omega)
        | (exfalso; simp at h; done)
        | (exfalso; simp at h; omega)
        | trace_state
    | false =>
      rw [hb] at hE hnx
      rw [Bool.not_false, if_pos rfl] at hnx
      repeat' first | refine go_seq ?_ | refine go_region ?_ | refine go_draw drawsOk ?_ | ((first | refine go_op rfl ?_ | refine go_nil ?_ | refine go_storeBox rfl rfl rfl rfl rfl rfl ?_ | refine go_dop rfl ?_ | refine go_dend (by kernel_rfl) ?_ | refine go_call [] (hA) rfl rfl rfl rfl ?_ | refine go_call [] (hB) rfl rfl rfl rfl ?_ | refine go_call [] (hE) rfl rfl rfl rfl ?_ | refine go_append (rows2 := [(i : Int)].map intRow) rfl rfl rfl rfl rfl rfl rfl rfl rfl rfl rfl rfl hone rfl rfl rfl hb2 ?_) <;> conv => whnf) | ((first | refine go_loadB ?_ | refine ⟨by kernel_rfl, ?_⟩ | refine go_ret ?_) <;> conv => whnf) | refine go_block ?_ | ((first | refine go_skip ?_ | refine go_exit ?_) <;> conv => whnf) | refine go_true rfl ?_ | refine go_false rfl ?_ | refine go_cond rfl (fun h => ?_) (fun h => ?_) | refine ⟨rfl, ?_⟩ | ((first | refine ⟨trivial, ?_⟩ | refine ⟨le_of_ble rfl, ?_⟩) <;> conv => whnf) | fail
      all_goals first
        | (refine go_next (i + 1) (by omega) (by omega) (ref_st (fun y => if y = 1002 then nid 5 36 else y) rfl ⟨⟨rfl, rfl⟩, ⟨rfl, rfl⟩, ⟨?_, rfl⟩, rfl, next_i (by omega), trivial⟩ ⟨⟨rfl, wavs_imm _⟩, ⟨rfl, wavs_imm _⟩, ?_, trivial⟩ (by simp [nid]) rfl (by simp))
           · show AV.own _ _ _ = AV.own _ _ _
             rw [hnx, List.map_append, List.length_append]; try rfl
           · show some _ = some _
             rw [hnx, List.map_append]; try rfl
           done)
        | (exfalso; have h' := of_decide_eq_false h; omega)
        | (exfalso; have h' := of_decide_eq_true h; omega)
        | (exfalso; rename_i hq; have h' := of_decide_eq_true hq; omega)
        | (exfalso; rename_i hq; have h' := of_decide_eq_false hq; omega)
        | (exfalso; rename_i hq _; have h' := of_decide_eq_true hq; omega)
        | (exfalso; rename_i hq _; have h' := of_decide_eq_false hq; omega)
        | (exfalso; simp at h; done)
        | (exfalso; simp at h; omega)
        | trace_state

theorem c17 (t : Timetable) (hf : t.fit) (cs : List Change) (hl : cs.length ≤ 1048576) : CallOk Tryz.prog 17 [.imm (.agg t.enc), .imm (.list (cs.map Change.enc))] { res := [.arr 3 1 ((csL t cs).map intRow), .imm (.bool (ivOk t cs))] } := by
  refine callOk_of tyOk Tryz.func17 rfl rfl (le_of_ble rfl) (le_of_ble rfl) (mutOk_imm rfl _) ?_
  have h0 := c26 t hf cs hl
  unfold csL
  cases hv : ivOk t cs with
  | false =>
    rw [hv] at h0
    rw [if_neg (by simp)]
    repeat' first | refine go_seq ?_ | refine go_region ?_ | refine go_draw drawsOk ?_ | ((first | refine go_op rfl ?_ | refine go_nil ?_ | refine go_storeBox rfl rfl rfl rfl rfl rfl ?_ | refine go_dop rfl ?_ | refine go_dend (by kernel_rfl) ?_ | refine go_call [] (h0) rfl rfl rfl rfl ?_) <;> conv => whnf) | ((first | refine go_loadB ?_ | refine ⟨by kernel_rfl, ?_⟩ | refine go_ret ?_) <;> conv => whnf) | refine go_block ?_ | ((first | refine go_skip ?_ | refine go_exit ?_) <;> conv => whnf) | refine go_true rfl ?_ | refine go_false rfl ?_ | refine go_cond rfl (fun h => ?_) (fun h => ?_) | refine ⟨rfl, ?_⟩ | ((first | refine ⟨trivial, ?_⟩ | refine ⟨le_of_ble rfl, ?_⟩) <;> conv => whnf) | fail
    all_goals first
      | exact ret_arr2 rfl rfl rfl rfl rfl rfl (by intro r hr; cases hr) rfl rfl rfl
      | (exfalso; simp at h; done)
      | trace_state
  | true =>
    have hok : ttOk t = true := by unfold ivOk at hv; simp only [Bool.and_eq_true] at hv; exact hv.1
    obtain ⟨g1, g2, g3⟩ := ap_good hf hv
    have h1 := c43 t hf hok cs hl
    rw [hv] at h0
    rw [if_pos rfl]
    generalize apT t cs = t' at *
    have hns : t.net.stops.length ≤ 1048576 := hf.1.1
    have hsl : (t.net.stops.map strRow).length = t.net.stops.length := List.length_map _
    repeat' first | refine go_seq ?_ | refine go_region ?_ | refine go_draw drawsOk ?_ | ((first | refine go_op rfl ?_ | refine go_nil ?_ | refine go_storeBox rfl rfl rfl rfl rfl rfl ?_ | refine go_dop rfl ?_ | refine go_dend (by kernel_rfl) ?_ | refine go_call [] (h0) rfl rfl rfl rfl ?_ | refine go_call [] (h1) rfl rfl rfl rfl ?_) <;> conv => whnf) | ((first | refine go_loadB ?_ | refine ⟨by kernel_rfl, ?_⟩ | refine go_ret ?_) <;> conv => whnf) | refine go_block ?_ | ((first | refine go_skip ?_ | refine go_exit ?_) <;> conv => whnf) | refine go_true rfl ?_ | refine go_false rfl ?_ | refine go_cond rfl (fun h => ?_) (fun h => ?_) | refine ⟨rfl, ?_⟩ | ((first | refine ⟨trivial, ?_⟩ | refine ⟨le_of_ble rfl, ?_⟩) <;> conv => whnf) | fail
    all_goals try first
      | (exfalso; simp at h; done)
    refine go_loop (α := Nat) (fun i => i ≤ t.net.stops.length) (fun i => t.net.stops.length - i)
      (fun i => st Tryz.f17.ntmps [(2, .box 1000 0), (6, .own 1002 0 ((chgS t t' i).map intRow).length), (7, .box 1001 0), (9, .imm (.int .i64 (i : Nat)))]
        [(1000, .box 40 (t.enc.map .imm)), (1001, .box 40 (t'.enc.map .imm)), (1002, .arr 3 1 ((chgS t t' i).map intRow))] []) 0 (Nat.zero_le _) ?_ ?_
    · exact ref_st (fun y => if y = 1000 then nid 1 2 else if y = 1001 then nid 4 7 else nid 2 10) rfl ⟨⟨rfl, rfl⟩, ⟨rfl, rfl⟩, ⟨rfl, rfl⟩, rfl, trivial⟩ ⟨⟨rfl, wavs_imm _⟩, ⟨rfl, wavs_imm _⟩, rfl, trivial⟩ (by simp [nid]) rfl (by simp)
    intro i hi
    by_cases hlt : i < t.net.stops.length
    case neg =>
      have hin : i = t.net.stops.length := by omega
      subst hin
      repeat' first | refine go_seq ?_ | refine go_region ?_ | refine go_draw drawsOk ?_ | ((first | refine go_op rfl ?_ | refine go_nil ?_ | refine go_storeBox rfl rfl rfl rfl rfl rfl ?_ | refine go_dop rfl ?_ | refine go_dend (by kernel_rfl) ?_) <;> conv => whnf) | ((first | refine go_loadB ?_ | refine ⟨by kernel_rfl, ?_⟩ | refine go_ret ?_) <;> conv => whnf) | refine go_block ?_ | ((first | refine go_skip ?_ | refine go_exit ?_) <;> conv => whnf) | refine go_true rfl ?_ | refine go_false rfl ?_ | refine go_cond rfl (fun h => ?_) (fun h => ?_) | refine ⟨rfl, ?_⟩ | ((first | refine ⟨trivial, ?_⟩ | refine ⟨le_of_ble rfl, ?_⟩) <;> conv => whnf) | fail
      all_goals first
        | exact ret_arr2 rfl rfl rfl rfl rfl (by rw [List.drop_zero, List.take_length]) (int_gr _) rfl rfl rfl
        | (exfalso; have h' := of_decide_eq_false h; omega)
        | (exfalso; have h' := of_decide_eq_true h; omega)
        | (exfalso; rename_i hq; have h' := of_decide_eq_true hq; omega)
        | (exfalso; rename_i hq; have h' := of_decide_eq_false hq; omega)
        | (exfalso; rename_i hq _; have h' := of_decide_eq_true hq; omega)
        | (exfalso; rename_i hq _; have h' := of_decide_eq_false hq; omega)
        | (exfalso; simp at h; done)
        | (exfalso; simp at h; omega)
        | trace_state
    have hA := c45 t hf hok (i : Int)
    have hB := c45 t' g2 g1 (i : Int)
    have la := cals_len t (i : Int)
    have lb := cals_len t' (i : Int)
    have hta : t.trips.length ≤ 1048576 := hf.2.1
    have htb : t'.trips.length ≤ 1048576 := g2.2.1
    have hE := c44 (flat2 (cals t (i : Int))) (flat2 (cals t' (i : Int))) (by rw [flat2_len]; omega) (by rw [flat2_len]; omega)
    have hnx := chgS_next t t' i
    have hcl := chgS_len t t' i
    have hb2 : ((chgS t t' i).map intRow).length + 1 ≤ 1073741824 := by rw [List.length_map]; omega
    have hone := int_one [(i : Int)]
    unfold chgB at hnx
    cases hb : decide (flat2 (cals t (i : Int)) = flat2 (cals t' (i : Int))) with
    | true =>
      rw [hb] at hE hnx
      rw [Bool.not_true, if_neg (by simp), List.append_nil] at hnx
      repeat' first | refine go_seq ?_ | refine go_region ?_ | refine go_draw drawsOk ?_ | ((first | refine go_op rfl ?_ | refine go_nil ?_ | refine go_storeBox rfl rfl rfl rfl rfl rfl ?_ | refine go_dop rfl ?_ | refine go_dend (by kernel_rfl) ?_ | refine go_call [] (hA) rfl rfl rfl rfl ?_ | refine go_call [] (hB) rfl rfl rfl rfl ?_ | refine go_call [] (hE) rfl rfl rfl rfl ?_) <;> conv => whnf) | ((first | refine go_loadB ?_ | refine ⟨by kernel_rfl, ?_⟩ | refine go_ret ?_) <;> conv => whnf) | refine go_block ?_ | ((first | refine go_skip ?_ | refine go_exit ?_) <;> conv => whnf) | refine go_true rfl ?_ | refine go_false rfl ?_ | refine go_cond rfl (fun h => ?_) (fun h => ?_) | refine ⟨rfl, ?_⟩ | ((first | refine ⟨trivial, ?_⟩ | refine ⟨le_of_ble rfl, ?_⟩) <;> conv => whnf) | fail
      all_goals first
        | exact go_next (i + 1) (by omega) (by omega) (by rw [hnx]; exact ref_st id rfl ⟨⟨rfl, rfl⟩, ⟨rfl, rfl⟩, ⟨rfl, rfl⟩, next_i (by omega), trivial⟩ ⟨⟨rfl, wavs_imm _⟩, ⟨rfl, wavs_imm _⟩, rfl, trivial⟩ (by simp) rfl (by simp))
        | (exfalso; have h' := of_decide_eq_false h; omega)
        | (exfalso; have h' := of_decide_eq_true h; omega)
        | (exfalso; rename_i hq; have h' := of_decide_eq_true hq; omega)
        | (exfalso; rename_i hq; have h' := of_decide_eq_false hq; omega)
        | (exfalso; rename_i hq _; have h' := of_decide_eq_true hq; omega)
        | (exfalso; rename_i hq _; have h' := of_decide_eq_false hq; omega)
        | (exfalso; simp at h; done)
        | (exfalso; simp at h; omega)
        | trace_state
    | false =>
      rw [hb] at hE hnx
      rw [Bool.not_false, if_pos rfl] at hnx
      repeat' first | refine go_seq ?_ | refine go_region ?_ | refine go_draw drawsOk ?_ | ((first | refine go_op rfl ?_ | refine go_nil ?_ | refine go_storeBox rfl rfl rfl rfl rfl rfl ?_ | refine go_dop rfl ?_ | refine go_dend (by kernel_rfl) ?_ | refine go_call [] (hA) rfl rfl rfl rfl ?_ | refine go_call [] (hB) rfl rfl rfl rfl ?_ | refine go_call [] (hE) rfl rfl rfl rfl ?_ | refine go_append (rows2 := [(i : Int)].map intRow) rfl rfl rfl rfl rfl rfl rfl rfl rfl rfl rfl rfl hone rfl rfl rfl hb2 ?_) <;> conv => whnf) | ((first | refine go_loadB ?_ | refine ⟨by kernel_rfl, ?_⟩ | refine go_ret ?_) <;> conv => whnf) | refine go_block ?_ | ((first | refine go_skip ?_ | refine go_exit ?_) <;> conv => whnf) | refine go_true rfl ?_ | refine go_false rfl ?_ | refine go_cond rfl (fun h => ?_) (fun h => ?_) | refine ⟨rfl, ?_⟩ | ((first | refine ⟨trivial, ?_⟩ | refine ⟨le_of_ble rfl, ?_⟩) <;> conv => whnf) | fail
      all_goals first
        | (refine go_next (i + 1) (by omega) (by omega) (ref_st (fun y => if y = 1002 then nid 4 41 else y) rfl ⟨⟨rfl, rfl⟩, ⟨?_, rfl⟩, ⟨rfl, rfl⟩, next_i (by omega), trivial⟩ ⟨⟨rfl, wavs_imm _⟩, ⟨rfl, wavs_imm _⟩, ?_, trivial⟩ (by simp [nid]) rfl (by simp))
           · show AV.own _ _ _ = AV.own _ _ _
             rw [hnx, List.map_append, List.length_append]; try rfl
           · show some _ = some _
             rw [hnx, List.map_append]; try rfl
           done)
        | (exfalso; have h' := of_decide_eq_false h; omega)
        | (exfalso; have h' := of_decide_eq_true h; omega)
        | (exfalso; rename_i hq; have h' := of_decide_eq_true hq; omega)
        | (exfalso; rename_i hq; have h' := of_decide_eq_false hq; omega)
        | (exfalso; rename_i hq _; have h' := of_decide_eq_true hq; omega)
        | (exfalso; rename_i hq _; have h' := of_decide_eq_false hq; omega)
        | (exfalso; simp at h; done)
        | (exfalso; simp at h; omega)
        | trace_state
end Go.Proofs.YtcfhmncbfekoaaaGreat

