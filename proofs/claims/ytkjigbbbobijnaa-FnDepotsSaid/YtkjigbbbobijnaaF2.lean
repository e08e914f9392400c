/- The walks of the drawn vehicle. -/
import Derived.Test.YtkjigbbbobijnaaF1
namespace Go.Proofs.Ytkjigbbbobijnaa
open Go Go.Am
set_option maxRecDepth 100000
set_option maxHeartbeats 8000000
attribute [local irreducible] amOps amC opCall opIndexAddr opPick retQ opMake opStore amDraw opAppend opLoad opNilCmp opIndex opSlice xQ

theorem flat_le : ∀ {ts : List (List Int)}, (∀ t ∈ ts, t.length ≤ 1000) → ts.flatten.length ≤ 1000 * ts.length
  | [], _ => by simp
  | t :: ts, h => by
    have h1 := h t (List.mem_cons_self ..)
    have h2 := flat_le (ts := ts) fun x hx => h x (List.mem_cons_of_mem _ hx)
    simp only [List.flatten_cons, List.length_append, List.length_cons]
    omega
theorem flat_take {ts : List (List Int)} {i : Nat} {t : List Int} (h : ts[i]? = some t) : (ts.take (i + 1)).flatten.map intRow = (ts.take i).flatten.map intRow ++ t.map intRow := by
  rw [List.take_add_one, h, List.flatten_append, List.map_append]
  simp

theorem veh_ok (xs : List Int) (hx : areB xs) (k : Nat) (hk : k ≤ 900000) (s : Int) (d : Depot) (hf : d.fit) : ∃ (v : Int) (k' : Nat) (s' : Int), (k ≤ k' ∧ k' ≤ k + 4) ∧
    CallOk Try.prog 20 [.box 45 (curD xs k s), .imm (.agg d.enc)] { res := [.imm (.int .i64 v)], muts := [.box 45 ((curD xs k' s').map .imm)], sep := false } := by
  obtain ⟨_, f2, f3⟩ := hf
  have el : (d.tracks.map intsRow).length = d.tracks.length := List.length_map _
  have hfl := flat_le f3
  obtain ⟨b, k1, s1, hk1, ho⟩ := one_ok xs hx k (by omega) s 6
  obtain ⟨v2, k2, s2, _, hk2, hm0⟩ := among_ok xs hx k (by omega) s [0, 30, 99, 100, 1] (by decide) (by decide)
  obtain ⟨v3, k3, s3, _, hk3, hm1⟩ := among_ok xs hx k1 (by omega) s1 [0, 30, 99, 100, 1] (by decide) (by decide)
  obtain ⟨j, k4, s4, hj, hk4, hp⟩ := pick_ok xs hx k1 (by omega) s1 ((d.tracks.flatten.map intRow).length : Int)
  have key : ∀ (v : Int) (k' : Nat) (s' : Int), (d.tracks.flatten.length = 0 → v = v2 ∧ k' = k2 ∧ s' = s2) → (d.tracks.flatten.length ≠ 0 → b = true → v = v3 ∧ k' = k3 ∧ s' = s3) →
      (d.tracks.flatten.length ≠ 0 → b = false → d.tracks.flatten[j.toNat]? = some v ∧ k' = k4 ∧ s' = s4) →
      CallOk Try.prog 20 [.box 45 (curD xs k s), .imm (.agg d.enc)] { res := [.imm (.int .i64 v)], muts := [.box 45 ((curD xs k' s').map .imm)], sep := false } := by
    intro v k' s' e0 e1 e2
    refine callOk_of tyOk Try.func20 rfl rfl (le_of_ble rfl) (le_of_ble rfl) (mutOk_box0 rfl) ?_
    repeat' first | refine go_seq ?_ | refine go_region ?_ | refine go_miss rfl rfl rfl ?_ | refine go_undef rfl rfl rfl ?_ | ((first | refine go_op rfl ?_ | refine go_nil ?_ | refine go_hit rfl rfl rfl ?_ | refine go_splitT rfl rfl rfl (fun h => ?_) (fun h => ?_) | refine go_splitF rfl rfl rfl (fun h => ?_) (fun h => ?_) | refine go_pickT rfl ?_ | refine go_pickF rfl ?_ | refine go_pick rfl (fun h => ?_) (fun h => ?_)) <;> conv => whnf) | ((first | refine go_loadB ?_ | refine ⟨by kernel_rfl, ?_⟩ | refine go_ret ?_) <;> conv => whnf) | refine go_block ?_ | ((first | refine go_skip ?_ | refine go_exit ?_) <;> conv => whnf) | refine go_true rfl ?_ | refine go_false rfl ?_ | refine go_cond rfl (fun h => ?_) (fun h => ?_) | refine ⟨rfl, ?_⟩ | ((first | refine ⟨trivial, ?_⟩ | refine ⟨le_of_ble rfl, ?_⟩) <;> conv => whnf) | fail
    refine go_loop (α := Nat) (fun i => i ≤ d.tracks.length) (fun i => d.tracks.length - i)
      (fun i => st Try.f20.ntmps [(0, .box 1001 0), (3, .box 1002 0), (5, .own 1003 0 ((d.tracks.take i).flatten.map intRow).length), (6, .imm (.int .i64 (i : Nat)))]
        [(1001, .box 45 ((curD xs k s).map .imm)), (1002, .box 27 (d.enc.map .imm)), (1003, .arr 3 1 ((d.tracks.take i).flatten.map intRow))] [1001]) 0 (Nat.zero_le _) ?_ ?_
    · exact ref_st (fun y => if y = 1001 then 0 else if y = 1002 then nid 1 3 else nid 2 7) rfl ⟨⟨rfl, rfl⟩, ⟨rfl, rfl⟩, ⟨rfl, rfl⟩, rfl, trivial⟩ ⟨⟨rfl, wavs_imm _⟩, ⟨rfl, wavs_imm _⟩, rfl, trivial⟩ (by simp [nid]) rfl (by simp [lookM])
    rintro i hi
    cases ht : d.tracks[i]? with
    | some t =>
      have hr := ints_row ht
      have hlt := lt_of_at ht
      have ht2 := f3 t (List.mem_of_getElem? ht)
      have hbd : ((d.tracks.take i).flatten.map intRow).length + (t.map intRow).length ≤ 1073741824 := by
        have := flat_le (ts := d.tracks.take i) fun x hx => f3 x (List.mem_of_mem_take hx)
        rw [List.length_map, List.length_map]
        rw [List.length_take] at this
        omega
      repeat' first | refine go_seq ?_ | refine go_region ?_ | refine go_miss rfl rfl rfl ?_ | refine go_undef rfl rfl rfl ?_ | ((first | refine go_op rfl ?_ | refine go_nil ?_ | refine go_hit rfl rfl rfl ?_ | refine go_splitT rfl rfl rfl (fun h => ?_) (fun h => ?_) | refine go_splitF rfl rfl rfl (fun h => ?_) (fun h => ?_) | refine go_pickT rfl ?_ | refine go_pickF rfl ?_ | refine go_pick rfl (fun h => ?_) (fun h => ?_) | refine go_idx rfl rfl rfl rfl (by omega) hr rfl ?_ | refine go_appImm rfl rfl rfl rfl rfl rfl rfl rfl rfl (ints_one _) rfl rfl hbd ?_) <;> conv => whnf) | ((first | refine go_loadB ?_ | refine ⟨by kernel_rfl, ?_⟩ | refine go_ret ?_) <;> conv => whnf) | refine go_block ?_ | ((first | refine go_skip ?_ | refine go_exit ?_) <;> conv => whnf) | refine go_true rfl ?_ | refine go_false rfl ?_ | refine go_cond rfl (fun h => ?_) (fun h => ?_) | refine ⟨rfl, ?_⟩ | ((first | refine ⟨trivial, ?_⟩ | refine ⟨le_of_ble rfl, ?_⟩) <;> conv => whnf) | fail
      all_goals first
        | (exfalso; simp at h; omega)
        | (exfalso; simp only [decide_eq_true_eq, decide_eq_false_iff_not, List.length_map] at *; omega)
        | (refine go_next (i + 1) (by omega) (by omega) (ref_st (fun y => if y = 1003 then nid 3 21 else y) rfl ⟨⟨rfl, rfl⟩, ⟨rfl, rfl⟩, ⟨?_, rfl⟩, next_i (i := i) (by omega), trivial⟩ ⟨⟨rfl, wavs_imm _⟩, ⟨rfl, wavs_imm _⟩, ?_, trivial⟩ (by simp [nid]) rfl (by simp [lookM]))
           · show AV.own _ _ _ = AV.own _ _ _
             rw [flat_take ht, List.length_append]; rfl
           · show some _ = some _
             rw [flat_take ht]; rfl)
        | trace_state
    | none =>
      have hge := le_of_at ht
      rw [List.take_of_length_le hge]
      by_cases h0 : d.tracks.flatten.length = 0
      · obtain ⟨rfl, rfl, rfl⟩ := e0 h0
        have h0' : ((d.tracks.flatten.map intRow).length : Int) = 0 := by rw [List.length_map, h0]; rfl
        repeat' first | refine go_seq ?_ | refine go_region ?_ | refine go_miss rfl rfl rfl ?_ | refine go_undef rfl rfl rfl ?_ | ((first | refine go_op rfl ?_ | refine go_nil ?_ | refine go_hit rfl rfl rfl ?_ | refine go_splitT rfl rfl rfl (fun h => ?_) (fun h => ?_) | refine go_splitF rfl rfl rfl (fun h => ?_) (fun h => ?_) | refine go_pickT rfl ?_ | refine go_pickF rfl ?_ | refine go_pick rfl (fun h => ?_) (fun h => ?_) | refine go_call [2] (ho) rfl rfl rfl rfl ?_ | refine go_call [2, 1] (hm0) rfl rfl rfl rfl ?_) <;> conv => whnf) | ((first | refine go_loadB ?_ | refine ⟨by kernel_rfl, ?_⟩ | refine go_ret ?_) <;> conv => whnf) | refine go_block ?_ | ((first | refine go_skip ?_ | refine go_exit ?_) <;> conv => whnf) | refine go_true rfl ?_ | refine go_false rfl ?_ | refine go_cond rfl (fun h => ?_) (fun h => ?_) | refine ⟨rfl, ?_⟩ | ((first | refine ⟨trivial, ?_⟩ | refine ⟨le_of_ble rfl, ?_⟩) <;> conv => whnf) | fail
        all_goals first
          | (exfalso; simp only [decide_eq_true_eq, decide_eq_false_iff_not] at *; omega)
          | (exfalso; simp at h; done)
          | exact ret_box1 rfl rfl rfl rfl rfl rfl
          | trace_state
      have h0' : ((d.tracks.flatten.map intRow).length : Int) ≠ 0 := by rw [List.length_map]; omega
      cases b with
      | true =>
        obtain ⟨rfl, rfl, rfl⟩ := e1 h0 rfl
        repeat' first | refine go_seq ?_ | refine go_region ?_ | refine go_miss rfl rfl rfl ?_ | refine go_undef rfl rfl rfl ?_ | ((first | refine go_op rfl ?_ | refine go_nil ?_ | refine go_hit rfl rfl rfl ?_ | refine go_splitT rfl rfl rfl (fun h => ?_) (fun h => ?_) | refine go_splitF rfl rfl rfl (fun h => ?_) (fun h => ?_) | refine go_pickT rfl ?_ | refine go_pickF rfl ?_ | refine go_pick rfl (fun h => ?_) (fun h => ?_) | refine go_call [2] (ho) rfl rfl rfl rfl ?_ | refine go_call [2, 1] (hm1) rfl rfl rfl rfl ?_) <;> conv => whnf) | ((first | refine go_loadB ?_ | refine ⟨by kernel_rfl, ?_⟩ | refine go_ret ?_) <;> conv => whnf) | refine go_block ?_ | ((first | refine go_skip ?_ | refine go_exit ?_) <;> conv => whnf) | refine go_true rfl ?_ | refine go_false rfl ?_ | refine go_cond rfl (fun h => ?_) (fun h => ?_) | refine ⟨rfl, ?_⟩ | ((first | refine ⟨trivial, ?_⟩ | refine ⟨le_of_ble rfl, ?_⟩) <;> conv => whnf) | fail
        all_goals first
          | (exfalso; simp only [decide_eq_true_eq, decide_eq_false_iff_not] at *; omega)
          | (exfalso; simp at h; done)
          | exact ret_box1 rfl rfl rfl rfl rfl rfl
          | trace_state
      | false =>
        obtain ⟨hv, rfl, rfl⟩ := e2 h0 rfl
        have hj2 := hj.2 (by omega)
        have hjn : j = (j.toNat : Nat) := by omega
        have hlt : j.toNat < (d.tracks.flatten.map intRow).length := by omega
        have hrow : (d.tracks.flatten.map intRow)[j.toNat]? = some [.int .i64 v] := row_at intRow hv
        repeat' first | refine go_seq ?_ | refine go_region ?_ | refine go_miss rfl rfl rfl ?_ | refine go_undef rfl rfl rfl ?_ | ((first | refine go_op rfl ?_ | refine go_nil ?_ | refine go_hit rfl rfl rfl ?_ | refine go_splitT rfl rfl rfl (fun h => ?_) (fun h => ?_) | refine go_splitF rfl rfl rfl (fun h => ?_) (fun h => ?_) | refine go_pickT rfl ?_ | refine go_pickF rfl ?_ | refine go_pick rfl (fun h => ?_) (fun h => ?_) | refine go_call [2] (ho) rfl rfl rfl rfl ?_ | refine go_call [2] (hp) rfl rfl rfl rfl ?_ | refine go_idxOwnI (j := j.toNat) rfl rfl hjn rfl rfl rfl rfl hlt ?_ | refine go_loadEl (i := j.toNat) rfl rfl rfl hrow ?_) <;> conv => whnf) | ((first | refine go_loadB ?_ | refine ⟨by kernel_rfl, ?_⟩ | refine go_ret ?_) <;> conv => whnf) | refine go_block ?_ | ((first | refine go_skip ?_ | refine go_exit ?_) <;> conv => whnf) | refine go_true rfl ?_ | refine go_false rfl ?_ | refine go_cond rfl (fun h => ?_) (fun h => ?_) | refine ⟨rfl, ?_⟩ | ((first | refine ⟨trivial, ?_⟩ | refine ⟨le_of_ble rfl, ?_⟩) <;> conv => whnf) | fail
        all_goals first
          | (exfalso; simp only [decide_eq_true_eq, decide_eq_false_iff_not] at *; omega)
          | (exfalso; simp at h; done)
          | exact ret_box1 rfl rfl rfl rfl rfl rfl
          | trace_state
  by_cases h0 : d.tracks.flatten.length = 0
  · exact ⟨v2, k2, s2, by omega, key _ _ _ (fun _ => ⟨rfl, rfl, rfl⟩) (fun h => absurd h0 h) (fun h => absurd h0 h)⟩
  cases hb : b with
  | true => exact ⟨v3, k3, s3, by omega, key _ _ _ (fun h => absurd h h0) (fun _ _ => ⟨rfl, rfl, rfl⟩) (fun _ h => by rw [hb] at h; cases h)⟩
  | false =>
    have hj2 := hj.2 (by rw [List.length_map]; omega)
    rw [List.length_map] at hj2
    have hlt : j.toNat < d.tracks.flatten.length := by omega
    exact ⟨d.tracks.flatten[j.toNat], k4, s4, by omega, key _ _ _ (fun h => absurd h h0) (fun _ h => by rw [hb] at h; cases h) (fun _ _ => ⟨List.getElem?_eq_getElem hlt, rfl, rfl⟩)⟩
end Go.Proofs.Ytkjigbbbobijnaa

