/- The walks of the waiting time. -/
import Derived.Test.YtnjojepeilgikaaV17
namespace Go.Proofs.Ytnjojepeilgikaa
open Go Go.Am
set_option maxRecDepth 100000
set_option maxHeartbeats 2000000
attribute [local irreducible] amOps amC opCall opIndexAddr opPick retQ opMake opStore amDraw opAppend opLoad opNilCmp opSlice IntKind.wrap srt

theorem getD_at {s : List Int} {k : Nat} (h : k < s.length) : (s.map intRow)[k]? = some (intRow (s.getD k 0)) := by
  rw [List.getElem?_map, List.getD_eq_getElem?_getD, List.getElem?_eq_getElem h]
  rfl

theorem srt_ok {ts : List Int} (h : ∀ x ∈ ts, tOk x) : ∀ x ∈ srt ts, tOk x := fun x hx => h x ((srt_perm ts).mem_iff.1 hx)

theorem step_eq {s : List Int} (h : ∀ x ∈ s, tOk x) {k : Nat} (hk : k + 1 < s.length) (h30 : s.length ≤ 30) :
    IntKind.i64.wrap (s.getD (k + 1) 0 - s.getD k 0) = gap s k ∧ IntKind.i64.wrap (gap s k * gap s k) = gap s k * gap s k ∧ IntKind.i64.wrap (sqAt s k + gap s k * gap s k) = sqAt s (k + 1) := by
  have h1 := gap_le h hk
  have h2 := sq_le h1
  have h3 := sqAt_le h k (by omega)
  refine ⟨?_, wrap_small (by omega) (by omega), ?_⟩
  · show IntKind.i64.wrap (gap s k) = gap s k
    exact wrap_small (by omega) (by omega)
  · simp only [sqAt]
    exact wrap_small (by omega) (by omega)

theorem c63 (ts : List Int) (h2 : 2 ≤ ts.length) (h30 : ts.length ≤ 30) (hok : ∀ x ∈ ts, tOk x) : CallOk Try.prog 63 [.arr 3 1 (ts.map intRow)]
    { res := [.imm (.int .i64 (sqAt (srt ts) (ts.length - 1))), .imm (.int .i64 (2 * rangeOf (srt ts)))], muts := [.arr 3 1 ((srt ts).map intRow)] } := by
  refine callOk_of tyOk Try.func63 rfl rfl (le_of_ble rfl) (le_of_ble rfl) (mutOk_arr0 rfl (by simp [srt_len])) ?_
  have hc61 := c61 ts (by omega)
  have hsl := srt_len ts
  have hso := srt_ok hok
  repeat' first
    | refine go_seq ?_
    | refine go_region ?_
    | (refine go_op rfl ?_; conv => whnf)
    | (refine go_nil ?_; conv => whnf)
    | (refine go_hit rfl rfl rfl ?_; conv => whnf)
    | (refine go_miss rfl rfl rfl ?_)
    | (refine go_undef rfl rfl rfl ?_)
    | (refine go_splitT rfl rfl rfl (fun h => ?_) (fun h => ?_) <;> conv => whnf)
    | (refine go_splitF rfl rfl rfl (fun h => ?_) (fun h => ?_) <;> conv => whnf)
    | (refine go_storeBox rfl rfl rfl rfl rfl rfl ?_; conv => whnf)
    | (refine go_dop rfl ?_; conv => whnf)
    | (refine go_dhit rfl rfl ?_; conv => whnf)
    | (refine go_dmiss rfl rfl ?_; conv => whnf)
    | (refine go_dundef rfl rfl ?_; conv => whnf)
    | (refine go_dend (by kernel_rfl) ?_; conv => whnf)
    | refine go_draw drawsOk ?_
    | (refine go_pickT rfl ?_; conv => whnf)
    | (refine go_pickF rfl ?_; conv => whnf)
    | (refine go_pick rfl (fun h => ?_) (fun h => ?_) <;> conv => whnf)
    | (refine go_call [2] hc61 (argsIn_lent rfl rfl rfl) rfl rfl rfl ?_; conv => whnf)
    | (refine go_dsplit2 rfl (fun h => ?_) (fun h => ?_) <;> conv => whnf)
    | (refine go_loadB ?_; conv => whnf)
    | (refine ⟨by kernel_rfl, ?_⟩; conv => whnf)
    | (refine go_ret ?_; conv => whnf)
    | refine go_block ?_
    | (refine go_skip ?_; conv => whnf)
    | (refine go_exit ?_; conv => whnf)
    | refine go_true rfl ?_
    | refine go_false rfl ?_
    | refine go_cond rfl (fun h => ?_) (fun h => ?_)
    | refine ⟨rfl, ?_⟩
    | (refine ⟨trivial, ?_⟩; conv => whnf)
    | (refine ⟨le_of_ble rfl, ?_⟩; conv => whnf)
    | fail
  refine go_loop (α := Nat) (fun k => k + 1 ≤ ts.length) (fun k => ts.length - k)
    (fun k => st Try.f63.ntmps [(0, .own 1000 0 (ts.map intRow).length), (4, .imm (.int .i64 (sqAt (srt ts) k))), (5, .imm (.int .i64 ((k + 1 : Nat) : Int)))] [(1000, .arr 3 1 ((srt ts).map intRow))] [1000]) 0 (by omega) ?_ ?_
  · exact ref_st (fun _ => 0) rfl ⟨⟨rfl, rfl⟩, rfl, rfl, trivial⟩ ⟨rfl, trivial⟩ (by simp) rfl (by simp [lookM])
  · intro k hk
    have hml : (ts.map intRow).length = ts.length := List.length_map _
    have e1 : IntKind.i64.wrap (((k + 1 : Nat) : Int) - 1) = (k : Nat) := by rw [wrap_small (by omega) (by omega)]; omega
    by_cases hlt : k + 1 < ts.length
    · obtain ⟨q1, q2, q3⟩ := step_eq hso (k := k) (by omega) (by omega)
      have r1 := getD_at (s := srt ts) (k := k + 1) (by omega)
      have r0 := getD_at (s := srt ts) (k := k) (by omega)
      repeat' first
        | refine go_seq ?_
        | refine go_region ?_
        | (refine go_op rfl ?_; conv => whnf)
        | (refine go_nil ?_; conv => whnf)
        | (refine go_hit rfl rfl rfl ?_; conv => whnf)
        | (refine go_miss rfl rfl rfl ?_)
        | (refine go_undef rfl rfl rfl ?_)
        | (refine go_splitT rfl rfl rfl (fun h => ?_) (fun h => ?_) <;> conv => whnf)
        | (refine go_splitF rfl rfl rfl (fun h => ?_) (fun h => ?_) <;> conv => whnf)
        | (refine go_storeBox rfl rfl rfl rfl rfl rfl ?_; conv => whnf)
        | (refine go_dop rfl ?_; conv => whnf)
        | (refine go_dhit rfl rfl ?_; conv => whnf)
        | (refine go_dmiss rfl rfl ?_; conv => whnf)
        | (refine go_dundef rfl rfl ?_; conv => whnf)
        | (refine go_dend (by kernel_rfl) ?_; conv => whnf)
        | refine go_draw drawsOk ?_
        | (refine go_pickT rfl ?_; conv => whnf)
        | (refine go_pickF rfl ?_; conv => whnf)
        | (refine go_pick rfl (fun h => ?_) (fun h => ?_) <;> conv => whnf)
        | (refine go_idxOwn (i := k + 1) rfl rfl rfl rfl rfl rfl (show k + 1 < _ by rw [hml]; exact hlt) ?_; conv => whnf)
        | (refine go_idxOwnI (j := k) rfl rfl e1 rfl rfl rfl rfl (show k < _ by rw [hml]; omega) ?_; conv => whnf)
        | (refine go_loadEl (i := k + 1) rfl rfl rfl r1 ?_; conv => whnf)
        | (refine go_loadEl (i := k) rfl rfl rfl r0 ?_; conv => whnf)
        | (refine go_dsplit2 rfl (fun h => ?_) (fun h => ?_) <;> conv => whnf)
        | (refine go_loadB ?_; conv => whnf)
        | (refine ⟨by kernel_rfl, ?_⟩; conv => whnf)
        | (refine go_ret ?_; conv => whnf)
        | refine go_block ?_
        | (refine go_skip ?_; conv => whnf)
        | (refine go_exit ?_; conv => whnf)
        | refine go_true rfl ?_
        | refine go_false rfl ?_
        | refine go_cond rfl (fun h => ?_) (fun h => ?_)
        | refine ⟨rfl, ?_⟩
        | (refine ⟨trivial, ?_⟩; conv => whnf)
        | (refine ⟨le_of_ble rfl, ?_⟩; conv => whnf)
        | fail
      · refine go_next (k + 1) (by omega) (by omega) (ref_st id rfl ⟨⟨rfl, rfl⟩, ?_, next_i (by omega), trivial⟩ ⟨rfl, trivial⟩ (by simp) rfl (by simp [lookM]))
        show AV.imm (.int .i64 _) = AV.imm (.int .i64 _)
        rw [q1, q2, q3]
      · exfalso; rw [hml] at h; simp at h; omega
    · have hke : k = ts.length - 1 := by omega
      have hne : srt ts ≠ [] := by intro h; rw [h] at hsl; simp at hsl; omega
      have hr := range_le hso (srt_le ts) hne
      have e2 : IntKind.i64.wrap (((ts.map intRow).length : Int) - 1) = ((ts.length - 1 : Nat) : Int) := by rw [hml, wrap_small (by omega) (by omega)]; omega
      have r1 := getD_at (s := srt ts) (k := ts.length - 1) (by omega)
      have r0 := getD_at (s := srt ts) (k := 0) (by omega)
      have e3 : IntKind.i64.wrap ((srt ts).getD (ts.length - 1) 0 - (srt ts).getD 0 0) = rangeOf (srt ts) := by
        have : rangeOf (srt ts) = (srt ts).getD (ts.length - 1) 0 - (srt ts).getD 0 0 := by unfold rangeOf; rw [hsl]
        rw [← this]
        exact wrap_small (by omega) (by omega)
      have e4 : IntKind.i64.wrap (2 * rangeOf (srt ts)) = 2 * rangeOf (srt ts) := wrap_small (by omega) (by omega)
      repeat' first
        | refine go_seq ?_
        | refine go_region ?_
        | (refine go_op rfl ?_; conv => whnf)
        | (refine go_nil ?_; conv => whnf)
        | (refine go_hit rfl rfl rfl ?_; conv => whnf)
        | (refine go_miss rfl rfl rfl ?_)
        | (refine go_undef rfl rfl rfl ?_)
        | (refine go_splitT rfl rfl rfl (fun h => ?_) (fun h => ?_) <;> conv => whnf)
        | (refine go_splitF rfl rfl rfl (fun h => ?_) (fun h => ?_) <;> conv => whnf)
        | (refine go_storeBox rfl rfl rfl rfl rfl rfl ?_; conv => whnf)
        | (refine go_dop rfl ?_; conv => whnf)
        | (refine go_dhit rfl rfl ?_; conv => whnf)
        | (refine go_dmiss rfl rfl ?_; conv => whnf)
        | (refine go_dundef rfl rfl ?_; conv => whnf)
        | (refine go_dend (by kernel_rfl) ?_; conv => whnf)
        | refine go_draw drawsOk ?_
        | (refine go_pickT rfl ?_; conv => whnf)
        | (refine go_pickF rfl ?_; conv => whnf)
        | (refine go_pick rfl (fun h => ?_) (fun h => ?_) <;> conv => whnf)
        | (refine go_idxOwnI (j := ts.length - 1) rfl rfl e2 rfl rfl rfl rfl (show ts.length - 1 < _ by rw [hml]; omega) ?_; conv => whnf)
        | (refine go_idxOwnI (j := 0) rfl rfl rfl rfl rfl rfl rfl (show 0 < _ by rw [hml]; omega) ?_; conv => whnf)
        | (refine go_loadEl (i := ts.length - 1) rfl rfl rfl r1 ?_; conv => whnf)
        | (refine go_loadEl (i := 0) rfl rfl rfl r0 ?_; conv => whnf)
        | (refine go_dsplit2 rfl (fun h => ?_) (fun h => ?_) <;> conv => whnf)
        | (refine go_loadB ?_; conv => whnf)
        | (refine ⟨by kernel_rfl, ?_⟩; conv => whnf)
        | (refine go_ret ?_; conv => whnf)
        | refine go_block ?_
        | (refine go_skip ?_; conv => whnf)
        | (refine go_exit ?_; conv => whnf)
        | refine go_true rfl ?_
        | refine go_false rfl ?_
        | refine go_cond rfl (fun h => ?_) (fun h => ?_)
        | refine ⟨rfl, ?_⟩
        | (refine ⟨trivial, ?_⟩; conv => whnf)
        | (refine ⟨le_of_ble rfl, ?_⟩; conv => whnf)
        | fail
      · exfalso; rw [hml] at h; simp at h; omega
      · exact ret_mut2 rfl rfl rfl rfl rfl (by rw [hke]) (by show D.int .i64 (IntKind.i64.wrap (2 * IntKind.i64.wrap ((srt ts).getD (ts.length - 1) 0 - (srt ts).getD 0 0))) = _; rw [e3, e4]) rfl rfl (int_gr _)

theorem c62 (ts : List Int) (h2 : 2 ≤ ts.length) (h30 : ts.length ≤ 30) (hok : ∀ x ∈ ts, tOk x) : CallOk Try.prog 62 [.imm (.list (ts.map intRow))]
    { res := [.imm (.int .i64 (sqAt (srt ts) (ts.length - 1))), .imm (.int .i64 (rangeOf (srt ts)))] } := by
  refine callOk_of tyOk Try.func62 rfl rfl (le_of_ble rfl) (le_of_ble rfl) (mutOk_imm rfl _) ?_
  have hml : (ts.map intRow).length = ts.length := List.length_map _
  repeat' first
    | refine go_seq ?_
    | refine go_region ?_
    | (refine go_op rfl ?_; conv => whnf)
    | (refine go_nil ?_; conv => whnf)
    | (refine go_hit rfl rfl rfl ?_; conv => whnf)
    | (refine go_miss rfl rfl rfl ?_)
    | (refine go_undef rfl rfl rfl ?_)
    | (refine go_splitT rfl rfl rfl (fun h => ?_) (fun h => ?_) <;> conv => whnf)
    | (refine go_splitF rfl rfl rfl (fun h => ?_) (fun h => ?_) <;> conv => whnf)
    | (refine go_storeBox rfl rfl rfl rfl rfl rfl ?_; conv => whnf)
    | (refine go_dop rfl ?_; conv => whnf)
    | (refine go_dhit rfl rfl ?_; conv => whnf)
    | (refine go_dmiss rfl rfl ?_; conv => whnf)
    | (refine go_dundef rfl rfl ?_; conv => whnf)
    | (refine go_dend (by kernel_rfl) ?_; conv => whnf)
    | refine go_draw drawsOk ?_
    | (refine go_pickT rfl ?_; conv => whnf)
    | (refine go_pickF rfl ?_; conv => whnf)
    | (refine go_pick rfl (fun h => ?_) (fun h => ?_) <;> conv => whnf)
    | (refine go_dsplit2 rfl (fun h => ?_) (fun h => ?_) <;> conv => whnf)
    | (refine go_loadB ?_; conv => whnf)
    | (refine ⟨by kernel_rfl, ?_⟩; conv => whnf)
    | (refine go_ret ?_; conv => whnf)
    | refine go_block ?_
    | (refine go_skip ?_; conv => whnf)
    | (refine go_exit ?_; conv => whnf)
    | refine go_true rfl ?_
    | refine go_false rfl ?_
    | refine go_cond rfl (fun h => ?_) (fun h => ?_)
    | refine ⟨rfl, ?_⟩
    | (refine ⟨trivial, ?_⟩; conv => whnf)
    | (refine ⟨le_of_ble rfl, ?_⟩; conv => whnf)
    | fail
  refine go_loop (α := Nat × List Int) (fun x => x.1 ≤ ts.length ∧ x.2.Pairwise (fun a b => a ≤ b) ∧ x.2.Perm (ts.take x.1)) (fun x => ts.length - x.1)
    (fun x => st Try.f62.ntmps [(0, .imm (.list (ts.map intRow))), (4, .own 1000 0 x.2.length), (5, .imm (.int .i64 (x.1 : Nat)))] [(1000, .arr 3 1 (x.2.map intRow))] []) (0, []) ⟨Nat.zero_le _, List.Pairwise.nil, by simp⟩ ?_ ?_
  · exact ref_st (fun _ => nid 2 10) rfl ⟨rfl, ⟨rfl, rfl⟩, rfl, trivial⟩ ⟨rfl, trivial⟩ (by simp) rfl (by simp)
  rintro ⟨i, s⟩ ⟨hi, hs, hp⟩
  simp only at hi hs hp
  have hslen : s.length = i := by have := hp.length_eq; rw [List.length_take] at this; omega
  have hsm : (s.map intRow).length = s.length := List.length_map _
  cases hx : ts[i]? with
  | none =>
    have hge := le_of_at hx
    have hie : ts.take i = ts := List.take_of_length_le hge
    rw [hie] at hp
    have hss : s = srt ts := sorted_same hs (srt_le ts) (hp.trans (srt_perm ts).symm)
    have hsl : s.length = ts.length := by omega
    have hso : ∀ x ∈ s, tOk x := by rw [hss]; exact srt_ok hok
    repeat' first
      | refine go_seq ?_
      | refine go_region ?_
      | (refine go_op rfl ?_; conv => whnf)
      | (refine go_nil ?_; conv => whnf)
      | (refine go_hit rfl rfl rfl ?_; conv => whnf)
      | (refine go_miss rfl rfl rfl ?_)
      | (refine go_undef rfl rfl rfl ?_)
      | (refine go_splitT rfl rfl rfl (fun h => ?_) (fun h => ?_) <;> conv => whnf)
      | (refine go_splitF rfl rfl rfl (fun h => ?_) (fun h => ?_) <;> conv => whnf)
      | (refine go_storeBox rfl rfl rfl rfl rfl rfl ?_; conv => whnf)
      | (refine go_dop rfl ?_; conv => whnf)
      | (refine go_dhit rfl rfl ?_; conv => whnf)
      | (refine go_dmiss rfl rfl ?_; conv => whnf)
      | (refine go_dundef rfl rfl ?_; conv => whnf)
      | (refine go_dend (by kernel_rfl) ?_; conv => whnf)
      | refine go_draw drawsOk ?_
      | (refine go_pickT rfl ?_; conv => whnf)
      | (refine go_pickF rfl ?_; conv => whnf)
      | (refine go_pick rfl (fun h => ?_) (fun h => ?_) <;> conv => whnf)
      | (refine go_dsplit2 rfl (fun h => ?_) (fun h => ?_) <;> conv => whnf)
      | (refine go_loadB ?_; conv => whnf)
      | (refine ⟨by kernel_rfl, ?_⟩; conv => whnf)
      | (refine go_ret ?_; conv => whnf)
      | refine go_block ?_
      | (refine go_skip ?_; conv => whnf)
      | (refine go_exit ?_; conv => whnf)
      | refine go_true rfl ?_
      | refine go_false rfl ?_
      | refine go_cond rfl (fun h => ?_) (fun h => ?_)
      | refine ⟨rfl, ?_⟩
      | (refine ⟨trivial, ?_⟩; conv => whnf)
      | (refine ⟨le_of_ble rfl, ?_⟩; conv => whnf)
      | fail
    · exfalso; rw [hml] at h; simp at h; omega
    refine go_loop (α := Nat) (fun k => k + 1 ≤ ts.length) (fun k => ts.length - k)
      (fun k => st Try.f62.ntmps [(4, .own 1000 0 s.length), (7, .imm (.int .i64 (sqAt s k))), (8, .imm (.int .i64 ((k + 1 : Nat) : Int)))] [(1000, .arr 3 1 (s.map intRow))] []) 0 (by omega) ?_ ?_
    · exact ref_st id rfl ⟨⟨rfl, rfl⟩, rfl, rfl, trivial⟩ ⟨rfl, trivial⟩ (by simp) rfl (by simp)
    · intro k hk
      have e1 : IntKind.i64.wrap (((k + 1 : Nat) : Int) - 1) = (k : Nat) := by rw [wrap_small (by omega) (by omega)]; omega
      by_cases hlt : k + 1 < ts.length
      · obtain ⟨q1, q2, q3⟩ := step_eq hso (k := k) (by omega) (by omega)
        have r1 := getD_at (s := s) (k := k + 1) (by omega)
        have r0 := getD_at (s := s) (k := k) (by omega)
        repeat' first
          | refine go_seq ?_
          | refine go_region ?_
          | (refine go_op rfl ?_; conv => whnf)
          | (refine go_nil ?_; conv => whnf)
          | (refine go_hit rfl rfl rfl ?_; conv => whnf)
          | (refine go_miss rfl rfl rfl ?_)
          | (refine go_undef rfl rfl rfl ?_)
          | (refine go_splitT rfl rfl rfl (fun h => ?_) (fun h => ?_) <;> conv => whnf)
          | (refine go_splitF rfl rfl rfl (fun h => ?_) (fun h => ?_) <;> conv => whnf)
          | (refine go_storeBox rfl rfl rfl rfl rfl rfl ?_; conv => whnf)
          | (refine go_dop rfl ?_; conv => whnf)
          | (refine go_dhit rfl rfl ?_; conv => whnf)
          | (refine go_dmiss rfl rfl ?_; conv => whnf)
          | (refine go_dundef rfl rfl ?_; conv => whnf)
          | (refine go_dend (by kernel_rfl) ?_; conv => whnf)
          | refine go_draw drawsOk ?_
          | (refine go_pickT rfl ?_; conv => whnf)
          | (refine go_pickF rfl ?_; conv => whnf)
          | (refine go_pick rfl (fun h => ?_) (fun h => ?_) <;> conv => whnf)
          | (refine go_idxOwn (i := k + 1) rfl rfl rfl rfl rfl rfl (show k + 1 < _ by omega) ?_; conv => whnf)
          | (refine go_idxOwnI (j := k) rfl rfl e1 rfl rfl rfl rfl (show k < _ by omega) ?_; conv => whnf)
          | (refine go_loadEl (i := k + 1) rfl rfl rfl r1 ?_; conv => whnf)
          | (refine go_loadEl (i := k) rfl rfl rfl r0 ?_; conv => whnf)
          | (refine go_dsplit2 rfl (fun h => ?_) (fun h => ?_) <;> conv => whnf)
          | (refine go_loadB ?_; conv => whnf)
          | (refine ⟨by kernel_rfl, ?_⟩; conv => whnf)
          | (refine go_ret ?_; conv => whnf)
          | refine go_block ?_
          | (refine go_skip ?_; conv => whnf)
          | (refine go_exit ?_; conv => whnf)
          | refine go_true rfl ?_
          | refine go_false rfl ?_
          | refine go_cond rfl (fun h => ?_) (fun h => ?_)
          | refine ⟨rfl, ?_⟩
          | (refine ⟨trivial, ?_⟩; conv => whnf)
          | (refine ⟨le_of_ble rfl, ?_⟩; conv => whnf)
          | fail
        · refine go_next (k + 1) (by omega) (by omega) (ref_st id rfl ⟨⟨rfl, rfl⟩, ?_, next_i (by omega), trivial⟩ ⟨rfl, trivial⟩ (by simp) rfl (by simp))
          show AV.imm (.int .i64 _) = AV.imm (.int .i64 _)
          rw [q1, q2, q3]
        · exfalso; simp at h; omega
      · have hke : k = ts.length - 1 := by omega
        have hne : s ≠ [] := by intro h; rw [h] at hsl; simp at hsl; omega
        have hr := range_le hso hs hne
        have e2 : IntKind.i64.wrap ((s.length : Int) - 1) = ((s.length - 1 : Nat) : Int) := by rw [wrap_small (by omega) (by omega)]; omega
        have r1 := getD_at (s := s) (k := s.length - 1) (by omega)
        have r0 := getD_at (s := s) (k := 0) (by omega)
        have e3 : IntKind.i64.wrap (s.getD (s.length - 1) 0 - s.getD 0 0) = rangeOf s := by
          have : rangeOf s = s.getD (s.length - 1) 0 - s.getD 0 0 := rfl
          rw [← this]
          exact wrap_small (by omega) (by omega)
        repeat' first
          | refine go_seq ?_
          | refine go_region ?_
          | (refine go_op rfl ?_; conv => whnf)
          | (refine go_nil ?_; conv => whnf)
          | (refine go_hit rfl rfl rfl ?_; conv => whnf)
          | (refine go_miss rfl rfl rfl ?_)
          | (refine go_undef rfl rfl rfl ?_)
          | (refine go_splitT rfl rfl rfl (fun h => ?_) (fun h => ?_) <;> conv => whnf)
          | (refine go_splitF rfl rfl rfl (fun h => ?_) (fun h => ?_) <;> conv => whnf)
          | (refine go_storeBox rfl rfl rfl rfl rfl rfl ?_; conv => whnf)
          | (refine go_dop rfl ?_; conv => whnf)
          | (refine go_dhit rfl rfl ?_; conv => whnf)
          | (refine go_dmiss rfl rfl ?_; conv => whnf)
          | (refine go_dundef rfl rfl ?_; conv => whnf)
          | (refine go_dend (by kernel_rfl) ?_; conv => whnf)
          | refine go_draw drawsOk ?_
          | (refine go_pickT rfl ?_; conv => whnf)
          | (refine go_pickF rfl ?_; conv => whnf)
          | (refine go_pick rfl (fun h => ?_) (fun h => ?_) <;> conv => whnf)
          | (refine go_idxOwnI (j := s.length - 1) rfl rfl e2 rfl rfl rfl rfl (show s.length - 1 < _ by omega) ?_; conv => whnf)
          | (refine go_idxOwnI (j := 0) rfl rfl rfl rfl rfl rfl rfl (show 0 < _ by omega) ?_; conv => whnf)
          | (refine go_loadEl (i := s.length - 1) rfl rfl rfl r1 ?_; conv => whnf)
          | (refine go_loadEl (i := 0) rfl rfl rfl r0 ?_; conv => whnf)
          | (refine go_dsplit2 rfl (fun h => ?_) (fun h => ?_) <;> conv => whnf)
          | (refine go_loadB ?_; conv => whnf)
          | (refine ⟨by kernel_rfl, ?_⟩; conv => whnf)
          | (refine go_ret ?_; conv => whnf)
          | refine go_block ?_
          | (refine go_skip ?_; conv => whnf)
          | (refine go_exit ?_; conv => whnf)
          | refine go_true rfl ?_
          | refine go_false rfl ?_
          | refine go_cond rfl (fun h => ?_) (fun h => ?_)
          | refine ⟨rfl, ?_⟩
          | (refine ⟨trivial, ?_⟩; conv => whnf)
          | (refine ⟨le_of_ble rfl, ?_⟩; conv => whnf)
          | fail
        · exfalso; simp at h; omega
        · exact ret_imm2 rfl rfl rfl rfl rfl (by rw [hke, hss]) (by show D.int .i64 (IntKind.i64.wrap (s.getD (s.length - 1) 0 - s.getD 0 0)) = _; rw [e3, hss]) rfl
  | some x =>
    have hlt := lt_of_at hx
    have hr := row_at intRow hx
    have htake : ts.take (i + 1) = ts.take i ++ [x] := by rw [List.take_add_one, hx]; rfl
    repeat' first
      | refine go_seq ?_
      | refine go_region ?_
      | (refine go_op rfl ?_; conv => whnf)
      | (refine go_nil ?_; conv => whnf)
      | (refine go_hit rfl rfl rfl ?_; conv => whnf)
      | (refine go_miss rfl rfl rfl ?_)
      | (refine go_undef rfl rfl rfl ?_)
      | (refine go_splitT rfl rfl rfl (fun h => ?_) (fun h => ?_) <;> conv => whnf)
      | (refine go_splitF rfl rfl rfl (fun h => ?_) (fun h => ?_) <;> conv => whnf)
      | (refine go_storeBox rfl rfl rfl rfl rfl rfl ?_; conv => whnf)
      | (refine go_dop rfl ?_; conv => whnf)
      | (refine go_dhit rfl rfl ?_; conv => whnf)
      | (refine go_dmiss rfl rfl ?_; conv => whnf)
      | (refine go_dundef rfl rfl ?_; conv => whnf)
      | (refine go_dend (by kernel_rfl) ?_; conv => whnf)
      | refine go_draw drawsOk ?_
      | (refine go_pickT rfl ?_; conv => whnf)
      | (refine go_pickF rfl ?_; conv => whnf)
      | (refine go_pick rfl (fun h => ?_) (fun h => ?_) <;> conv => whnf)
      | (refine go_dsplit2 rfl (fun h => ?_) (fun h => ?_) <;> conv => whnf)
      | (refine go_loadB ?_; conv => whnf)
      | (refine ⟨by kernel_rfl, ?_⟩; conv => whnf)
      | (refine go_ret ?_; conv => whnf)
      | refine go_block ?_
      | (refine go_skip ?_; conv => whnf)
      | (refine go_exit ?_; conv => whnf)
      | refine go_true rfl ?_
      | refine go_false rfl ?_
      | refine go_cond rfl (fun h => ?_) (fun h => ?_)
      | refine ⟨rfl, ?_⟩
      | (refine ⟨trivial, ?_⟩; conv => whnf)
      | (refine ⟨le_of_ble rfl, ?_⟩; conv => whnf)
      | fail
    · refine go_loop (α := Nat) (fun k => k ≤ s.length ∧ ∀ y ∈ s.drop k, x < y) (fun k => k)
        (fun k => st Try.f62.ntmps [(0, .imm (.list (ts.map intRow))), (4, .own 1000 0 s.length), (5, .imm (.int .i64 (i : Nat))), (6, .imm (.int .i64 (k : Nat)))] [(1000, .arr 3 1 (s.map intRow))] []) s.length ⟨Nat.le_refl _, by simp⟩ ?_ ?_
      · exact ref_st id rfl ⟨rfl, ⟨rfl, rfl⟩, rfl, rfl, trivial⟩ ⟨rfl, trivial⟩ (by simp) rfl (by simp)
      rintro k ⟨hk, hd⟩
      have hgo : (k = 0 ∨ s.getD (k - 1) 0 ≤ x) → (fun x => x.1 ≤ ts.length ∧ x.2.Pairwise (fun a b => a ≤ b) ∧ x.2.Perm (ts.take x.1)) (i + 1, s.take k ++ [x] ++ s.drop k) := fun h =>
        ⟨by simp only; omega, put_sorted hs hk hd h, by rw [htake]; exact put_perm hp⟩
      have hlen' : (s.take k ++ [x] ++ s.drop k).length = s.length + 1 := by simp; omega
      have rr1 : ((s.map intRow).drop 0).take k = (s.take k).map intRow := by rw [List.drop_zero, List.map_take]
      have rr2 : ((s.map intRow).drop k).take (s.length - k) = (s.drop k).map intRow := by rw [← List.map_drop, List.take_of_length_le (by simp)]
      have o1 : ∀ r ∈ (s.take k).map intRow, r.all D.one = true := List.all_eq_true.1 (int_one _)
      have o2 : ∀ r ∈ (s.drop k).map intRow, r.all D.one = true := List.all_eq_true.1 (int_one _)
      by_cases hk0 : k = 0
      · subst hk0
        have hF1 : 0 + 0 ≤ (s.map intRow).length := by omega
        have hF2 : 0 + (s.length - (0)) ≤ (s.map intRow).length := by omega
        have hB1 : 0 + 0 ≤ 1073741824 := by omega
        have hB2 : 0 + 0 + 1 ≤ 1073741824 := by omega
        have hB3 : 0 + 0 + 1 + (s.length - (0)) ≤ 1073741824 := by omega
        have hL1 : 0 + 0 = (List.replicate 0 ty3.zero ++ (s.take (0)).map intRow).length := by simp
        have hL2 : 0 + 0 + 1 = (List.replicate 0 ty3.zero ++ (s.take (0)).map intRow ++ [x].map intRow).length := by simp
        repeat' first
          | refine go_seq ?_
          | refine go_region ?_
          | (refine go_op rfl ?_; conv => whnf)
          | (refine go_nil ?_; conv => whnf)
          | (refine go_hit rfl rfl rfl ?_; conv => whnf)
          | (refine go_miss rfl rfl rfl ?_)
          | (refine go_undef rfl rfl rfl ?_)
          | (refine go_splitT rfl rfl rfl (fun h => ?_) (fun h => ?_) <;> conv => whnf)
          | (refine go_splitF rfl rfl rfl (fun h => ?_) (fun h => ?_) <;> conv => whnf)
          | (refine go_storeBox rfl rfl rfl rfl rfl rfl ?_; conv => whnf)
          | (refine go_dop rfl ?_; conv => whnf)
          | (refine go_dhit rfl rfl ?_; conv => whnf)
          | (refine go_dmiss rfl rfl ?_; conv => whnf)
          | (refine go_dundef rfl rfl ?_; conv => whnf)
          | (refine go_dend (by kernel_rfl) ?_; conv => whnf)
          | refine go_draw drawsOk ?_
          | (refine go_pickT rfl ?_; conv => whnf)
          | (refine go_pickF rfl ?_; conv => whnf)
          | (refine go_pick rfl (fun h => ?_) (fun h => ?_) <;> conv => whnf)
          | (refine go_sliceTo (k := 0) (id := 1000) rfl rfl rfl rfl rfl rfl hk ?_; conv => whnf)
          | (refine go_sliceFrom (k := 0) (id := 1000) rfl rfl rfl rfl rfl rfl hk ?_; conv => whnf)
          | (refine go_appSl (off2 := 0) (rr := (s.take (0)).map intRow) rfl rfl rfl rfl rfl rfl rfl rfl rfl rfl rfl rfl hF1 rr1 o1 rfl rfl hB1 ?_; conv => whnf)
          | (refine go_append (rows2 := [x].map intRow) rfl rfl rfl rfl rfl rfl rfl rfl rfl rfl rfl rfl (int_one [x]) rfl hL1 rfl hB2 ?_; conv => whnf)
          | (refine go_appSl (off2 := 0) (rr := (s.drop (0)).map intRow) rfl rfl rfl rfl rfl rfl rfl rfl rfl rfl rfl rfl hF2 rr2 o2 rfl hL2 hB3 ?_; conv => whnf)
          | (refine go_idx rfl rfl rfl rfl (by omega) hr rfl ?_; conv => whnf)
          | (refine go_dsplit2 rfl (fun h => ?_) (fun h => ?_) <;> conv => whnf)
          | (refine go_loadB ?_; conv => whnf)
          | (refine ⟨by kernel_rfl, ?_⟩; conv => whnf)
          | (refine go_ret ?_; conv => whnf)
          | refine go_block ?_
          | (refine go_skip ?_; conv => whnf)
          | (refine go_exit ?_; conv => whnf)
          | refine go_true rfl ?_
          | refine go_false rfl ?_
          | refine go_cond rfl (fun h => ?_) (fun h => ?_)
          | refine ⟨rfl, ?_⟩
          | (refine ⟨trivial, ?_⟩; conv => whnf)
          | (refine ⟨le_of_ble rfl, ?_⟩; conv => whnf)
          | fail
        refine go_next (i + 1, s.take (0) ++ [x] ++ s.drop (0)) (hgo (.inl rfl)) (by simp only; omega) (ref_st (fun _ => nid 3 49) rfl ⟨rfl, ⟨?_, rfl⟩, next_i (by omega), trivial⟩ ⟨?_, trivial⟩ (by simp) rfl (by simp))
        · show AV.own _ _ _ = AV.own _ _ _
          congr 1
          simp only [hlen']
          omega
        · show some _ = some _
          simp [List.map_append]
          rfl
      · obtain ⟨j, rfl⟩ : ∃ j, k = j + 1 := ⟨k - 1, by omega⟩
        have hF1 : 0 + j + 1 ≤ (s.map intRow).length := by omega
        have hF2 : j + 1 + (s.length - (j + 1)) ≤ (s.map intRow).length := by omega
        have hB1 : 0 + j + 1 ≤ 1073741824 := by omega
        have hB2 : 0 + j + 1 + 1 ≤ 1073741824 := by omega
        have hB3 : 0 + j + 1 + 1 + (s.length - (j + 1)) ≤ 1073741824 := by omega
        have hL1 : 0 + j + 1 = (List.replicate 0 ty3.zero ++ (s.take (j + 1)).map intRow).length := by simp; omega
        have hL2 : 0 + j + 1 + 1 = (List.replicate 0 ty3.zero ++ (s.take (j + 1)).map intRow ++ [x].map intRow).length := by simp; omega
        have e1 : IntKind.i64.wrap (((j + 1 : Nat) : Int) - 1) = (j : Nat) := by rw [wrap_small (by omega) (by omega)]; omega
        have r0 := getD_at (s := s) (k := j) (by omega)
        repeat' first
          | refine go_seq ?_
          | refine go_region ?_
          | (refine go_op rfl ?_; conv => whnf)
          | (refine go_nil ?_; conv => whnf)
          | (refine go_hit rfl rfl rfl ?_; conv => whnf)
          | (refine go_miss rfl rfl rfl ?_)
          | (refine go_undef rfl rfl rfl ?_)
          | (refine go_splitT rfl rfl rfl (fun h => ?_) (fun h => ?_) <;> conv => whnf)
          | (refine go_splitF rfl rfl rfl (fun h => ?_) (fun h => ?_) <;> conv => whnf)
          | (refine go_storeBox rfl rfl rfl rfl rfl rfl ?_; conv => whnf)
          | (refine go_dop rfl ?_; conv => whnf)
          | (refine go_dhit rfl rfl ?_; conv => whnf)
          | (refine go_dmiss rfl rfl ?_; conv => whnf)
          | (refine go_dundef rfl rfl ?_; conv => whnf)
          | (refine go_dend (by kernel_rfl) ?_; conv => whnf)
          | refine go_draw drawsOk ?_
          | (refine go_pickT rfl ?_; conv => whnf)
          | (refine go_pickF rfl ?_; conv => whnf)
          | (refine go_pick rfl (fun h => ?_) (fun h => ?_) <;> conv => whnf)
          | (refine go_sliceTo (k := j + 1) (id := 1000) rfl rfl rfl rfl rfl rfl hk ?_; conv => whnf)
          | (refine go_sliceFrom (k := j + 1) (id := 1000) rfl rfl rfl rfl rfl rfl hk ?_; conv => whnf)
          | (refine go_appSl (off2 := 0) (rr := (s.take (j + 1)).map intRow) rfl rfl rfl rfl rfl rfl rfl rfl rfl rfl rfl rfl hF1 rr1 o1 rfl rfl hB1 ?_; conv => whnf)
          | (refine go_append (rows2 := [x].map intRow) rfl rfl rfl rfl rfl rfl rfl rfl rfl rfl rfl rfl (int_one [x]) rfl hL1 rfl hB2 ?_; conv => whnf)
          | (refine go_appSl (off2 := j + 1) (rr := (s.drop (j + 1)).map intRow) rfl rfl rfl rfl rfl rfl rfl rfl rfl rfl rfl rfl hF2 rr2 o2 rfl hL2 hB3 ?_; conv => whnf)
          | (refine go_idxOwnI (j := j) rfl rfl e1 rfl rfl rfl rfl (show j < _ by omega) ?_; conv => whnf)
          | (refine go_loadEl (i := j) rfl rfl rfl r0 ?_; conv => whnf)
          | (refine go_idx rfl rfl rfl rfl (by omega) hr rfl ?_; conv => whnf)
          | (refine go_dsplit2 rfl (fun h => ?_) (fun h => ?_) <;> conv => whnf)
          | (refine go_loadB ?_; conv => whnf)
          | (refine ⟨by kernel_rfl, ?_⟩; conv => whnf)
          | (refine go_ret ?_; conv => whnf)
          | refine go_block ?_
          | (refine go_skip ?_; conv => whnf)
          | (refine go_exit ?_; conv => whnf)
          | refine go_true rfl ?_
          | refine go_false rfl ?_
          | refine go_cond rfl (fun h => ?_) (fun h => ?_)
          | refine ⟨rfl, ?_⟩
          | (refine ⟨trivial, ?_⟩; conv => whnf)
          | (refine ⟨le_of_ble rfl, ?_⟩; conv => whnf)
          | fail
        · have hxj : x < s.getD j 0 := by simpa using h
          refine go_next j ⟨by omega, ?_⟩ (by omega) (ref_st id rfl ⟨rfl, ⟨rfl, rfl⟩, rfl, ?_, trivial⟩ ⟨rfl, trivial⟩ (by simp) rfl (by simp))
          · intro y hy
            have hdj : s.drop j = s.getD j 0 :: s.drop (j + 1) := by
              rw [List.drop_eq_getElem_cons (show j < s.length by omega), List.getD_eq_getElem?_getD, List.getElem?_eq_getElem (show j < s.length by omega)]
              rfl
            rw [hdj] at hy
            rcases List.mem_cons.1 hy with rfl | hy
            · exact hxj
            · exact hd y hy
          · show AV.imm (.int .i64 _) = AV.imm (.int .i64 _)
            rw [e1]
        · have hxj : s.getD j 0 ≤ x := by simpa using h
          refine go_next (i + 1, s.take (j + 1) ++ [x] ++ s.drop (j + 1)) (hgo (.inr (by simpa using hxj))) (by simp only; omega) (ref_st (fun _ => nid 3 49) rfl ⟨rfl, ⟨?_, rfl⟩, next_i (by omega), trivial⟩ ⟨?_, trivial⟩ (by simp) rfl (by simp))
          · show AV.own _ _ _ = AV.own _ _ _
            congr 1
            simp only [hlen']
            omega
          · show some _ = some _
            simp [List.map_append]
            rfl
        · exfalso; first | (simp at h; done) | (simp at h; omega)
    · exfalso; rw [hml] at h; simp at h; omega
end Go.Proofs.Ytnjojepeilgikaa


