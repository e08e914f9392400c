/- The walk of the program's excess wait, and its law. -/
import Derived.Test.YtnjojepeilgikaaV20
namespace Go.Proofs.Ytnjojepeilgikaa
open Go Go.Am
set_option maxRecDepth 100000
set_option maxHeartbeats 2000000
attribute [local irreducible] amOps amC opCall opIndexAddr opPick retQ opMake opStore amDraw opAppend opLoad opNilCmp opSlice IntKind.wrap srt sqAt rangeOf

theorem c37 (xs : List Visit) (s : Int) (hok : ∀ v ∈ xs, v.ok) (hl : xs.length ≤ 1048576) : CallOk Try.prog 37 [.imm (.list (xs.map Visit.enc)), .imm (.int .i64 s)]
    { res := [.imm (.int .i64 (ewP s xs)), .imm (.int .i64 (ewQ s xs)), .imm (.bool (ewOk s xs))] } := by
  refine callOk_of tyOk Try.func37 rfl rfl (le_of_ble rfl) (le_of_ble rfl) (mutOk_imm rfl _) ?_
  have hc16 : CallOk Try.prog 16 [.imm (.list (xs.map Visit.enc))] { res := [.imm (.bool (valid xs))] } := c16 xs hl
  have hc40 := c40 s 0 7
  cases hv : valid xs with
  | false =>
    have hm : ewOk s xs = false := by simp [ewOk, hv]
    obtain ⟨z1, z2⟩ := ew_false hm
    rw [hv] at hc16; rw [z1, z2, hm]
    repeat' first
      | refine go_seq ?_
      | refine go_region ?_
      | (refine go_op rfl ?_; conv => whnf)
      | (refine go_nil ?_; conv => whnf)
      | (refine go_hit rfl rfl rfl ?_; conv => whnf)
      | (refine go_miss rfl rfl rfl ?_)
      | (refine go_undef rfl rfl rfl ?_)
      | (refine go_splitT rfl rfl rfl (fun h => ?_) (fun h => ?_) <;> conv => whnf)
      | (refine go_splitF rfl rfl rfl (fun h => ?_) (fun h => ?_) <;> conv => whnf)
      | (refine go_storeBox rfl rfl rfl rfl rfl rfl ?_; conv => whnf)
      | (refine go_dop rfl ?_; conv => whnf)
      | (refine go_dhit rfl rfl ?_; conv => whnf)
      | (refine go_dmiss rfl rfl ?_; conv => whnf)
      | (refine go_dundef rfl rfl ?_; conv => whnf)
      | (refine go_dend (by kernel_rfl) ?_; conv => whnf)
      | refine go_draw drawsOk ?_
      | (refine go_pickT rfl ?_; conv => whnf)
      | (refine go_pickF rfl ?_; conv => whnf)
      | (refine go_pick rfl (fun h => ?_) (fun h => ?_) <;> conv => whnf)
      | (refine go_call [] (hc16) rfl rfl rfl rfl ?_; conv => whnf)
      | (refine go_dsplit2 rfl (fun h => ?_) (fun h => ?_) <;> conv => whnf)
      | (refine go_loadB ?_; conv => whnf)
      | (refine ⟨by kernel_rfl, ?_⟩; conv => whnf)
      | (refine go_ret ?_; conv => whnf)
      | refine go_block ?_
      | (refine go_skip ?_; conv => whnf)
      | (refine go_exit ?_; conv => whnf)
      | refine go_true rfl ?_
      | refine go_false rfl ?_
      | refine go_cond rfl (fun h => ?_) (fun h => ?_)
      | refine ⟨rfl, ?_⟩
      | (refine ⟨trivial, ?_⟩; conv => whnf)
      | (refine ⟨le_of_ble rfl, ?_⟩; conv => whnf)
      | fail
    all_goals exact ret_imm3 rfl rfl rfl rfl rfl rfl rfl rfl rfl rfl
  | true =>
    rw [hv] at hc16
    obtain ⟨h30, _⟩ := valid_at hv
    cases hr : inR s 0 7 with
    | false =>
      have hm : ewOk s xs = false := by simp [ewOk, hr]
      obtain ⟨z1, z2⟩ := ew_false hm
      rw [hr] at hc40; rw [z1, z2, hm]
      repeat' first
        | refine go_seq ?_
        | refine go_region ?_
        | (refine go_op rfl ?_; conv => whnf)
        | (refine go_nil ?_; conv => whnf)
        | (refine go_hit rfl rfl rfl ?_; conv => whnf)
        | (refine go_miss rfl rfl rfl ?_)
        | (refine go_undef rfl rfl rfl ?_)
        | (refine go_splitT rfl rfl rfl (fun h => ?_) (fun h => ?_) <;> conv => whnf)
        | (refine go_splitF rfl rfl rfl (fun h => ?_) (fun h => ?_) <;> conv => whnf)
        | (refine go_storeBox rfl rfl rfl rfl rfl rfl ?_; conv => whnf)
        | (refine go_dop rfl ?_; conv => whnf)
        | (refine go_dhit rfl rfl ?_; conv => whnf)
        | (refine go_dmiss rfl rfl ?_; conv => whnf)
        | (refine go_dundef rfl rfl ?_; conv => whnf)
        | (refine go_dend (by kernel_rfl) ?_; conv => whnf)
        | refine go_draw drawsOk ?_
        | (refine go_pickT rfl ?_; conv => whnf)
        | (refine go_pickF rfl ?_; conv => whnf)
        | (refine go_pick rfl (fun h => ?_) (fun h => ?_) <;> conv => whnf)
        | (refine go_call [] (hc16) rfl rfl rfl rfl ?_; conv => whnf)
        | (refine go_call [] (hc40) rfl rfl rfl rfl ?_; conv => whnf)
        | (refine go_dsplit2 rfl (fun h => ?_) (fun h => ?_) <;> conv => whnf)
        | (refine go_loadB ?_; conv => whnf)
        | (refine ⟨by kernel_rfl, ?_⟩; conv => whnf)
        | (refine go_ret ?_; conv => whnf)
        | refine go_block ?_
        | (refine go_skip ?_; conv => whnf)
        | (refine go_exit ?_; conv => whnf)
        | refine go_true rfl ?_
        | refine go_false rfl ?_
        | refine go_cond rfl (fun h => ?_) (fun h => ?_)
        | refine ⟨rfl, ?_⟩
        | (refine ⟨trivial, ?_⟩; conv => whnf)
        | (refine ⟨le_of_ble rfl, ?_⟩; conv => whnf)
        | fail
      all_goals exact ret_imm3 rfl rfl rfl rfl rfl rfl rfl rfl rfl rfl
    | true =>
      rw [hr] at hc40
      have hyl : (ewAt s xs).length ≤ 30 := Nat.le_trans (List.length_filter_le _ _) h30
      have hlm : ((ewAt s xs).map Visit.enc).length = (ewAt s xs).length := List.length_map _
      have hc56 : CallOk Try.prog 56 [.imm (.list (xs.map Visit.enc)), .imm (.int .i64 s)] { res := [.imm (.list ((ewAt s xs).map Visit.enc))] } := c56 xs s hl
      by_cases h2 : (ewAt s xs).length < 2
      · have hm : ewOk s xs = false := by simp [ewOk, h2]
        obtain ⟨z1, z2⟩ := ew_false hm
        rw [z1, z2, hm]
        repeat' first
          | refine go_seq ?_
          | refine go_region ?_
          | (refine go_op rfl ?_; conv => whnf)
          | (refine go_nil ?_; conv => whnf)
          | (refine go_hit rfl rfl rfl ?_; conv => whnf)
          | (refine go_miss rfl rfl rfl ?_)
          | (refine go_undef rfl rfl rfl ?_)
          | (refine go_splitT rfl rfl rfl (fun h => ?_) (fun h => ?_) <;> conv => whnf)
          | (refine go_splitF rfl rfl rfl (fun h => ?_) (fun h => ?_) <;> conv => whnf)
          | (refine go_storeBox rfl rfl rfl rfl rfl rfl ?_; conv => whnf)
          | (refine go_dop rfl ?_; conv => whnf)
          | (refine go_dhit rfl rfl ?_; conv => whnf)
          | (refine go_dmiss rfl rfl ?_; conv => whnf)
          | (refine go_dundef rfl rfl ?_; conv => whnf)
          | (refine go_dend (by kernel_rfl) ?_; conv => whnf)
          | refine go_draw drawsOk ?_
          | (refine go_pickT rfl ?_; conv => whnf)
          | (refine go_pickF rfl ?_; conv => whnf)
          | (refine go_pick rfl (fun h => ?_) (fun h => ?_) <;> conv => whnf)
          | (refine go_call [] (hc16) rfl rfl rfl rfl ?_; conv => whnf)
          | (refine go_call [] (hc40) rfl rfl rfl rfl ?_; conv => whnf)
          | (refine go_call [] (hc56) rfl rfl rfl rfl ?_; conv => whnf)
          | (refine go_dsplit2 rfl (fun h => ?_) (fun h => ?_) <;> conv => whnf)
          | (refine go_loadB ?_; conv => whnf)
          | (refine ⟨by kernel_rfl, ?_⟩; conv => whnf)
          | (refine go_ret ?_; conv => whnf)
          | refine go_block ?_
          | (refine go_skip ?_; conv => whnf)
          | (refine go_exit ?_; conv => whnf)
          | refine go_true rfl ?_
          | refine go_false rfl ?_
          | refine go_cond rfl (fun h => ?_) (fun h => ?_)
          | refine ⟨rfl, ?_⟩
          | (refine ⟨trivial, ?_⟩; conv => whnf)
          | (refine ⟨le_of_ble rfl, ?_⟩; conv => whnf)
          | fail
        all_goals first
          | exact ret_imm3 rfl rfl rfl rfl rfl rfl rfl rfl rfl rfl
          | (exfalso; rw [hlm] at h; simp at h; omega)
      · have hE := ew_of hok hv (s := s) (by omega)
        obtain ⟨hp, ha⟩ := times_ok hok hv s
        repeat' first
          | refine go_seq ?_
          | refine go_region ?_
          | (refine go_op rfl ?_; conv => whnf)
          | (refine go_nil ?_; conv => whnf)
          | (refine go_hit rfl rfl rfl ?_; conv => whnf)
          | (refine go_miss rfl rfl rfl ?_)
          | (refine go_undef rfl rfl rfl ?_)
          | (refine go_splitT rfl rfl rfl (fun h => ?_) (fun h => ?_) <;> conv => whnf)
          | (refine go_splitF rfl rfl rfl (fun h => ?_) (fun h => ?_) <;> conv => whnf)
          | (refine go_storeBox rfl rfl rfl rfl rfl rfl ?_; conv => whnf)
          | (refine go_dop rfl ?_; conv => whnf)
          | (refine go_dhit rfl rfl ?_; conv => whnf)
          | (refine go_dmiss rfl rfl ?_; conv => whnf)
          | (refine go_dundef rfl rfl ?_; conv => whnf)
          | (refine go_dend (by kernel_rfl) ?_; conv => whnf)
          | refine go_draw drawsOk ?_
          | (refine go_pickT rfl ?_; conv => whnf)
          | (refine go_pickF rfl ?_; conv => whnf)
          | (refine go_pick rfl (fun h => ?_) (fun h => ?_) <;> conv => whnf)
          | (refine go_call [] (hc16) rfl rfl rfl rfl ?_; conv => whnf)
          | (refine go_call [] (hc40) rfl rfl rfl rfl ?_; conv => whnf)
          | (refine go_call [] (hc56) rfl rfl rfl rfl ?_; conv => whnf)
          | (refine go_dsplit2 rfl (fun h => ?_) (fun h => ?_) <;> conv => whnf)
          | (refine go_loadB ?_; conv => whnf)
          | (refine ⟨by kernel_rfl, ?_⟩; conv => whnf)
          | (refine go_ret ?_; conv => whnf)
          | refine go_block ?_
          | (refine go_skip ?_; conv => whnf)
          | (refine go_exit ?_; conv => whnf)
          | refine go_true rfl ?_
          | refine go_false rfl ?_
          | refine go_cond rfl (fun h => ?_) (fun h => ?_)
          | refine ⟨rfl, ?_⟩
          | (refine ⟨trivial, ?_⟩; conv => whnf)
          | (refine ⟨le_of_ble rfl, ?_⟩; conv => whnf)
          | fail
        all_goals try (exfalso; rw [hlm] at h; simp at h; omega)
        refine go_loop (α := Nat) (fun i => i ≤ (ewAt s xs).length) (fun i => (ewAt s xs).length - i)
          (fun i => st Try.f37.ntmps [(30, .imm (.list ((ewAt s xs).map Visit.enc))), (31, .imm (.int .i64 ((ewAt s xs).map Visit.enc).length)), (8, .own 1000 0 ((((ewAt s xs).take i).map plan).map intRow).length), (9, .own 1001 0 ((((ewAt s xs).take i).map act).map intRow).length), (32, .imm (.int .i64 (i : Nat)))]
            [(1000, .arr 3 1 ((((ewAt s xs).take i).map plan).map intRow)), (1001, .arr 3 1 ((((ewAt s xs).take i).map act).map intRow))] []) 0 (Nat.zero_le _) ?_ ?_
        · exact ref_st (fun id => if id = 1000 then nid 5 8 else nid 5 9) rfl ⟨rfl, rfl, ⟨rfl, rfl⟩, ⟨rfl, rfl⟩, rfl, trivial⟩ ⟨rfl, rfl, trivial⟩ (by simp [nid]) rfl (by simp)
        · intro i hi
          cases hx : (ewAt s xs)[i]? with
          | none =>
            have hge := le_of_at hx
            have hie : (ewAt s xs).take i = ewAt s xs := List.take_of_length_le hge
            rw [hie]
            have ha63 : CallOk Try.prog 63 [.arr 3 1 (((ewAt s xs).map act).map intRow)] { res := [.imm (.int .i64 (ewA s xs)), .imm (.int .i64 (2 * ewX s xs))], muts := [.arr 3 1 ((srt ((ewAt s xs).map act)).map intRow)] } := by
              have := c63 ((ewAt s xs).map act) (by simp; omega) (by simp; omega) ha
              rw [List.length_map] at this
              exact this
            have hp63 : CallOk Try.prog 63 [.arr 3 1 (((ewAt s xs).map plan).map intRow)] { res := [.imm (.int .i64 (ewB s xs)), .imm (.int .i64 (2 * ewY s xs))], muts := [.arr 3 1 ((srt ((ewAt s xs).map plan)).map intRow)] } := by
              have := c63 ((ewAt s xs).map plan) (by simp; omega) (by simp; omega) hp
              rw [List.length_map] at this
              exact this
            by_cases hxy : ewX s xs = 0 ∨ ewY s xs = 0
            · have hm : ewOk s xs = false := by
                rcases hxy with h | h <;> simp [ewOk, h]
              obtain ⟨z1, z2⟩ := ew_false hm
              rw [z1, z2, hm]
              have hd : (2 * ewX s xs = 0) ∨ (2 * ewY s xs = 0) := by rcases hxy with h | h <;> simp [h]
              repeat' first
                | refine go_seq ?_
                | refine go_region ?_
                | (refine go_op rfl ?_; conv => whnf)
                | (refine go_nil ?_; conv => whnf)
                | (refine go_hit rfl rfl rfl ?_; conv => whnf)
                | (refine go_miss rfl rfl rfl ?_)
                | (refine go_undef rfl rfl rfl ?_)
                | (refine go_splitT rfl rfl rfl (fun h => ?_) (fun h => ?_) <;> conv => whnf)
                | (refine go_splitF rfl rfl rfl (fun h => ?_) (fun h => ?_) <;> conv => whnf)
                | (refine go_storeBox rfl rfl rfl rfl rfl rfl ?_; conv => whnf)
                | (refine go_dop rfl ?_; conv => whnf)
                | (refine go_dhit rfl rfl ?_; conv => whnf)
                | (refine go_dmiss rfl rfl ?_; conv => whnf)
                | (refine go_dundef rfl rfl ?_; conv => whnf)
                | (refine go_dend (by kernel_rfl) ?_; conv => whnf)
                | refine go_draw drawsOk ?_
                | (refine go_pickT rfl ?_; conv => whnf)
                | (refine go_pickF rfl ?_; conv => whnf)
                | (refine go_pick rfl (fun h => ?_) (fun h => ?_) <;> conv => whnf)
                | (refine go_call [2] ha63 (argsIn_lent (id := 1001) rfl rfl rfl) rfl rfl rfl ?_; conv => whnf)
                | (refine go_call [2] hp63 (argsIn_lent (id := 1000) rfl rfl rfl) rfl rfl rfl ?_; conv => whnf)
                | (refine go_dsplit2 rfl (fun h => ?_) (fun h => ?_) <;> conv => whnf)
                | (refine go_loadB ?_; conv => whnf)
                | (refine ⟨by kernel_rfl, ?_⟩; conv => whnf)
                | (refine go_ret ?_; conv => whnf)
                | refine go_block ?_
                | (refine go_skip ?_; conv => whnf)
                | (refine go_exit ?_; conv => whnf)
                | refine go_true rfl ?_
                | refine go_false rfl ?_
                | refine go_cond rfl (fun h => ?_) (fun h => ?_)
                | refine ⟨rfl, ?_⟩
                | (refine ⟨trivial, ?_⟩; conv => whnf)
                | (refine ⟨le_of_ble rfl, ?_⟩; conv => whnf)
                | fail
              all_goals first
                | exact ret_imm3 rfl rfl rfl rfl rfl rfl rfl rfl rfl rfl
                | (exfalso; rw [hlm] at h; simp at h; omega)
                | (exfalso; rename_i hq; simp at h hq; omega)
                | trace_state
            · have hx0 : ewX s xs ≠ 0 := fun h => hxy (.inl h)
              have hy0 : ewY s xs ≠ 0 := fun h => hxy (.inr h)
              have hm : ewOk s xs = true := by simp [ewOk, hv, hr, hx0, hy0]; omega
              obtain ⟨n1, n2, n3⟩ := ew_num hE
              obtain ⟨d1, d2, d3⟩ := ew_den hE
              have hdp := den_pos hE hx0 hy0
              have hc44 : CallOk Try.prog 44 [.imm (.int .i64 (IntKind.i64.wrap (IntKind.i64.wrap (ewA s xs * (2 * ewY s xs)) - IntKind.i64.wrap (ewB s xs * (2 * ewX s xs))))), .imm (.int .i64 (IntKind.i64.wrap (2 * ewX s xs * (2 * ewY s xs))))] { res := [.imm (.int .i64 (ewP s xs)), .imm (.int .i64 (ewQ s xs)), .imm (.bool true)] } := by
                rw [ew_num2 hE, ew_den2 hE]
                have := c44 (2 * ewNum s xs) (2 * ewDen s xs) (by omega) (by omega) (by omega) (by omega)
                rw [half] at this
                have e2 : (2 * ewDen s xs).tdiv (gcdI (2 * ewNum s xs) (2 * ewDen s xs)) = (ewDen s xs).tdiv (gcdI (ewNum s xs) (ewDen s xs)) := by
                  rw [gcd_two]
                  exact Int.mul_tdiv_mul_of_pos _ _ (by omega)
                rw [e2] at this
                unfold ewP ewQ
                rw [hm]
                exact this
              repeat' first
                | refine go_seq ?_
                | refine go_region ?_
                | (refine go_op rfl ?_; conv => whnf)
                | (refine go_nil ?_; conv => whnf)
                | (refine go_hit rfl rfl rfl ?_; conv => whnf)
                | (refine go_miss rfl rfl rfl ?_)
                | (refine go_undef rfl rfl rfl ?_)
                | (refine go_splitT rfl rfl rfl (fun h => ?_) (fun h => ?_) <;> conv => whnf)
                | (refine go_splitF rfl rfl rfl (fun h => ?_) (fun h => ?_) <;> conv => whnf)
                | (refine go_storeBox rfl rfl rfl rfl rfl rfl ?_; conv => whnf)
                | (refine go_dop rfl ?_; conv => whnf)
                | (refine go_dhit rfl rfl ?_; conv => whnf)
                | (refine go_dmiss rfl rfl ?_; conv => whnf)
                | (refine go_dundef rfl rfl ?_; conv => whnf)
                | (refine go_dend (by kernel_rfl) ?_; conv => whnf)
                | refine go_draw drawsOk ?_
                | (refine go_pickT rfl ?_; conv => whnf)
                | (refine go_pickF rfl ?_; conv => whnf)
                | (refine go_pick rfl (fun h => ?_) (fun h => ?_) <;> conv => whnf)
                | (refine go_call [2] ha63 (argsIn_lent (id := 1001) rfl rfl rfl) rfl rfl rfl ?_; conv => whnf)
                | (refine go_call [2] hp63 (argsIn_lent (id := 1000) rfl rfl rfl) rfl rfl rfl ?_; conv => whnf)
                | (refine go_call [] (hc44) rfl rfl rfl rfl ?_; conv => whnf)
                | (refine go_dsplit2 rfl (fun h => ?_) (fun h => ?_) <;> conv => whnf)
                | (refine go_loadB ?_; conv => whnf)
                | (refine ⟨by kernel_rfl, ?_⟩; conv => whnf)
                | (refine go_ret ?_; conv => whnf)
                | refine go_block ?_
                | (refine go_skip ?_; conv => whnf)
                | (refine go_exit ?_; conv => whnf)
                | refine go_true rfl ?_
                | refine go_false rfl ?_
                | refine go_cond rfl (fun h => ?_) (fun h => ?_)
                | refine ⟨rfl, ?_⟩
                | (refine ⟨trivial, ?_⟩; conv => whnf)
                | (refine ⟨le_of_ble rfl, ?_⟩; conv => whnf)
                | fail
              all_goals first
                | exact ret_imm3 rfl rfl rfl rfl rfl rfl rfl rfl (by rw [hm]) rfl
                | (exfalso; rw [hlm] at h; simp at h; omega)
                | (exfalso; simp at h; first | exact hx0 h | exact hy0 h)
                | (exfalso; simp at h; omega)
                | trace_state
          | some v =>
            have hlt := lt_of_at hx
            have hrr := row_at Visit.enc hx
            have hb1 : ((((ewAt s xs).take i).map plan).map intRow).length + 1 ≤ 1073741824 := by simp; omega
            have hb2 : ((((ewAt s xs).take i).map act).map intRow).length + 1 ≤ 1073741824 := by simp; omega
            have hn1 : ((ewAt s xs).take (i + 1)).map plan = ((ewAt s xs).take i).map plan ++ [plan v] := map_next hx
            have hn2 : ((ewAt s xs).take (i + 1)).map act = ((ewAt s xs).take i).map act ++ [act v] := map_next hx
            repeat' first
              | refine go_seq ?_
              | refine go_region ?_
              | (refine go_op rfl ?_; conv => whnf)
              | (refine go_nil ?_; conv => whnf)
              | (refine go_hit rfl rfl rfl ?_; conv => whnf)
              | (refine go_miss rfl rfl rfl ?_)
              | (refine go_undef rfl rfl rfl ?_)
              | (refine go_splitT rfl rfl rfl (fun h => ?_) (fun h => ?_) <;> conv => whnf)
              | (refine go_splitF rfl rfl rfl (fun h => ?_) (fun h => ?_) <;> conv => whnf)
              | (refine go_storeBox rfl rfl rfl rfl rfl rfl ?_; conv => whnf)
              | (refine go_dop rfl ?_; conv => whnf)
              | (refine go_dhit rfl rfl ?_; conv => whnf)
              | (refine go_dmiss rfl rfl ?_; conv => whnf)
              | (refine go_dundef rfl rfl ?_; conv => whnf)
              | (refine go_dend (by kernel_rfl) ?_; conv => whnf)
              | refine go_draw drawsOk ?_
              | (refine go_pickT rfl ?_; conv => whnf)
              | (refine go_pickF rfl ?_; conv => whnf)
              | (refine go_pick rfl (fun h => ?_) (fun h => ?_) <;> conv => whnf)
              | (refine go_idx rfl rfl rfl rfl (by omega) hrr rfl ?_; conv => whnf)
              | (refine go_append (id := 1000) (rows2 := [plan v].map intRow) rfl rfl rfl rfl rfl rfl rfl rfl rfl rfl rfl rfl (int_one [plan v]) rfl rfl rfl hb1 ?_; conv => whnf)
              | (refine go_append (id := 1001) (rows2 := [act v].map intRow) rfl rfl rfl rfl rfl rfl rfl rfl rfl rfl rfl rfl (int_one [act v]) rfl rfl rfl hb2 ?_; conv => whnf)
              | (refine go_dsplit2 rfl (fun h => ?_) (fun h => ?_) <;> conv => whnf)
              | (refine go_loadB ?_; conv => whnf)
              | (refine ⟨by kernel_rfl, ?_⟩; conv => whnf)
              | (refine go_ret ?_; conv => whnf)
              | refine go_block ?_
              | (refine go_skip ?_; conv => whnf)
              | (refine go_exit ?_; conv => whnf)
              | refine go_true rfl ?_
              | refine go_false rfl ?_
              | refine go_cond rfl (fun h => ?_) (fun h => ?_)
              | refine ⟨rfl, ?_⟩
              | (refine ⟨trivial, ?_⟩; conv => whnf)
              | (refine ⟨le_of_ble rfl, ?_⟩; conv => whnf)
              | fail
            · refine go_next (i + 1) (by omega) (by omega) (ref_st (fun id => if id = 1000 then nid 4 40 else nid 4 45) rfl ⟨rfl, rfl, ⟨?_, rfl⟩, ⟨?_, rfl⟩, next_i (by omega), trivial⟩ ⟨?_, ?_, trivial⟩ (by simp [nid]) rfl (by simp))
              · show AV.own _ _ _ = AV.own _ _ _
                rw [hn1, List.map_append, List.length_append]
                rfl
              · show AV.own _ _ _ = AV.own _ _ _
                rw [hn2, List.map_append, List.length_append]
                rfl
              · show some _ = some _
                rw [hn1, List.map_append]
                rfl
              · show some _ = some _
                rw [hn2, List.map_append]
                rfl
            all_goals first
              | (exfalso; rw [hlm] at h; simp at h; omega)
              | (exfalso; rename_i hq; rw [hlm] at hq; simp at hq; omega)
              | (exfalso; rename_i hq _; rw [hlm] at hq; simp at hq; omega)
              | trace_state

theorem c12 (xs : List Visit) (hok : ∀ v ∈ xs, v.ok) (hl : xs.length ≤ 9223372036854775807) (s : Int) (_ : i64 s) : CallOk Try.prog 12 [.imm (.list (xs.map Visit.enc)), .imm (.int .i64 s)] { res := [.imm (.bool true)] } := by
  refine callOk_of tyOk Try.func12 rfl rfl (le_of_ble rfl) (le_of_ble rfl) (mutOk_imm rfl _) ?_
  have hw : IntKind.i64.wrap (1048576 - (xs.length : Int)) = 1048576 - xs.length := by rw [IntKind.wrap_i64]; omega
  by_cases hs : xs.length ≤ 1048576
  · have h1 : True := trivial
    repeat' first
      | refine go_seq ?_
      | refine go_region ?_
      | (refine go_op rfl ?_; conv => whnf)
      | (refine go_nil ?_; conv => whnf)
      | (refine go_hit rfl rfl rfl ?_; conv => whnf)
      | (refine go_miss rfl rfl rfl ?_)
      | (refine go_undef rfl rfl rfl ?_)
      | (refine go_splitT rfl rfl rfl (fun h => ?_) (fun h => ?_) <;> conv => whnf)
      | (refine go_splitF rfl rfl rfl (fun h => ?_) (fun h => ?_) <;> conv => whnf)
      | (refine go_storeBox rfl rfl rfl rfl rfl rfl ?_; conv => whnf)
      | (refine go_dop rfl ?_; conv => whnf)
      | (refine go_dhit rfl rfl ?_; conv => whnf)
      | (refine go_dmiss rfl rfl ?_; conv => whnf)
      | (refine go_dundef rfl rfl ?_; conv => whnf)
      | (refine go_dend (by kernel_rfl) ?_; conv => whnf)
      | refine go_draw drawsOk ?_
      | (refine go_pickT rfl ?_; conv => whnf)
      | (refine go_pickF rfl ?_; conv => whnf)
      | (refine go_pick rfl (fun h => ?_) (fun h => ?_) <;> conv => whnf)
      | (refine go_call [] (c13 xs _) rfl rfl rfl rfl ?_; conv => whnf)
      | (refine go_call [] (c15 xs hs) rfl rfl rfl rfl ?_; conv => whnf)
      | (refine go_call [] (c36 xs s hok hs) rfl rfl rfl rfl ?_; conv => whnf)
      | (refine go_call [] (c37 xs s hok hs) rfl rfl rfl rfl ?_; conv => whnf)
      | (refine go_call [] (c17 xs xs hs) rfl rfl rfl rfl ?_; conv => whnf)
      | (refine go_dsplit2 rfl (fun h => ?_) (fun h => ?_) <;> conv => whnf)
      | (refine go_loadB ?_; conv => whnf)
      | (refine ⟨by kernel_rfl, ?_⟩; conv => whnf)
      | (refine go_ret ?_; conv => whnf)
      | refine go_block ?_
      | (refine go_skip ?_; conv => whnf)
      | (refine go_exit ?_; conv => whnf)
      | refine go_true rfl ?_
      | refine go_false rfl ?_
      | refine go_cond rfl (fun h => ?_) (fun h => ?_)
      | refine ⟨rfl, ?_⟩
      | (refine ⟨trivial, ?_⟩; conv => whnf)
      | (refine ⟨le_of_ble rfl, ?_⟩; conv => whnf)
      | fail
    all_goals first | exact ret_imm rfl rfl rfl rfl rfl rfl | (exfalso; simp at h; done) | (exfalso; rw [zip_self beq_self] at h; simp at h; done)
  · have h1 : True := trivial
    repeat' first
      | refine go_seq ?_
      | refine go_region ?_
      | (refine go_op rfl ?_; conv => whnf)
      | (refine go_nil ?_; conv => whnf)
      | (refine go_hit rfl rfl rfl ?_; conv => whnf)
      | (refine go_miss rfl rfl rfl ?_)
      | (refine go_undef rfl rfl rfl ?_)
      | (refine go_splitT rfl rfl rfl (fun h => ?_) (fun h => ?_) <;> conv => whnf)
      | (refine go_splitF rfl rfl rfl (fun h => ?_) (fun h => ?_) <;> conv => whnf)
      | (refine go_storeBox rfl rfl rfl rfl rfl rfl ?_; conv => whnf)
      | (refine go_dop rfl ?_; conv => whnf)
      | (refine go_dhit rfl rfl ?_; conv => whnf)
      | (refine go_dmiss rfl rfl ?_; conv => whnf)
      | (refine go_dundef rfl rfl ?_; conv => whnf)
      | (refine go_dend (by kernel_rfl) ?_; conv => whnf)
      | refine go_draw drawsOk ?_
      | (refine go_pickT rfl ?_; conv => whnf)
      | (refine go_pickF rfl ?_; conv => whnf)
      | (refine go_pick rfl (fun h => ?_) (fun h => ?_) <;> conv => whnf)
      | (refine go_call [] (c13 xs _) rfl rfl rfl rfl ?_; conv => whnf)
      | (refine go_dsplit2 rfl (fun h => ?_) (fun h => ?_) <;> conv => whnf)
      | (refine go_loadB ?_; conv => whnf)
      | (refine ⟨by kernel_rfl, ?_⟩; conv => whnf)
      | (refine go_ret ?_; conv => whnf)
      | refine go_block ?_
      | (refine go_skip ?_; conv => whnf)
      | (refine go_exit ?_; conv => whnf)
      | refine go_true rfl ?_
      | refine go_false rfl ?_
      | refine go_cond rfl (fun h => ?_) (fun h => ?_)
      | refine ⟨rfl, ?_⟩
      | (refine ⟨trivial, ?_⟩; conv => whnf)
      | (refine ⟨le_of_ble rfl, ?_⟩; conv => whnf)
      | fail
    · exact ret_imm rfl rfl rfl rfl rfl rfl
    · exfalso
      rw [hw] at h
      rw [if_pos (by omega)] at h
      simp at h
end Go.Proofs.Ytnjojepeilgikaa

