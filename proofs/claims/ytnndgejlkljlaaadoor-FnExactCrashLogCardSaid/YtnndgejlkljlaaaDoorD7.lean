/- The walks of the reference's reader of a log, and of whether a log is valid. -/
import Derived.Test.YtnndgejlkljlaaaDoorD6
namespace Go.Proofs.YtnndgejlkljlaaaDoor
open Go Go.Am Go.Lg
set_option maxRecDepth 100000
set_option maxHeartbeats 4000000
attribute [local irreducible] amOps amC opCall opIndexAddr opPick retQ opMake opStore amDraw opAppend opLoad opNilCmp opIndex opSlice

theorem split_two {c : UInt8} {s : List UInt8} (h : c ∈ s) : 2 ≤ ((split c s).map strRow).length := by
  obtain ⟨d', e, h2⟩ := split_eq c s
  rw [e]
  have : d' ≠ [] := fun e => h2.1 e h
  cases d' with
  | nil => exact absurd rfl this
  | cons a l => simp
theorem split_one {c : UInt8} {s : List UInt8} (h : c ∉ s) : ((split c s).map strRow).length = 1 := by
  obtain ⟨d', e, h2⟩ := split_eq c s
  rw [e, h2.2 h]
  rfl

theorem c12 (s : List UInt8) (hl : s.length ≤ 1048576) : CallOk Tryd.prog 12 [.imm (.str (ofL s))]
    { res := [.arr 42 2 (recsTo (opn s) (opn s).length), .imm (.int .i64 (endOf (opn s) : Nat))] } := by
  refine callOk_of tyOk Tryd.func12 rfl rfl (le_of_ble rfl) (le_of_ble rfl) (mutOk_imm rfl _) ?_
  have hL := opn_len s
  have hat := fun j => opn_upTo s j
  have hdec := fun j h => dec_at (s := s) (j := j) h
  have hsz := ofL_size s
  generalize opn s = L at *
  repeat' first | refine go_seq ?_ | refine go_region ?_ | refine go_miss rfl rfl rfl ?_ | refine go_undef rfl rfl rfl ?_ | ((first | refine go_op rfl ?_ | refine go_nil ?_ | refine go_hit rfl rfl rfl ?_ | refine go_splitT rfl rfl rfl (fun h => ?_) (fun h => ?_) | refine go_splitF rfl rfl rfl (fun h => ?_) (fun h => ?_) | refine go_storeBox rfl rfl rfl rfl rfl rfl ?_ | refine go_pickT rfl ?_ | refine go_pickF rfl ?_ | refine go_pick rfl (fun h => ?_) (fun h => ?_)) <;> conv => whnf) | ((first | refine go_loadB ?_ | refine ⟨by kernel_rfl, ?_⟩ | refine go_ret ?_) <;> conv => whnf) | refine go_block ?_ | ((first | refine go_skip ?_ | refine go_exit ?_) <;> conv => whnf) | refine go_true rfl ?_ | refine go_false rfl ?_ | refine go_cond rfl (fun h => ?_) (fun h => ?_) | refine ⟨rfl, ?_⟩ | ((first | refine ⟨trivial, ?_⟩ | refine ⟨le_of_ble rfl, ?_⟩) <;> conv => whnf) | fail
  refine go_loop (α := Nat) (fun j => j ≤ L.length) (fun j => L.length - j)
    (fun j => st Tryd.f12.ntmps [(0, .imm (.str (ofL s))), (4, .own 1000 0 (recsTo L j).length), (5, .imm (.int .i64 (upTo L j : Nat)))] [(1000, .arr 42 2 (recsTo L j))] []) 0 (Nat.zero_le _) ?_ ?_
  · refine ref_st (fun _ => nid 2 9) rfl ⟨rfl, ⟨rfl, rfl⟩, ?_, trivial⟩ ⟨rfl, trivial⟩ (by simp) rfl (by simp)
    rw [upTo_zero]; rfl
  · intro j hj
    have hlen := recs_len hj
    have ha := hat j
    have hd := hdec j hj
    have hend : j = L.length → ((upTo L j : Nat) : Int) = (endOf L : Nat) := fun e => by rw [e]; rfl
    by_cases h1 : upTo L j < s.length
    · have hs1 := c14 (s.drop (upTo L j)) 10 (by rw [List.length_drop]; omega)
      have h0 := split_0 10 (s.drop (upTo L j))
      have hpl := pre_len (c := 10) (s.drop (upTo L j))
      rw [List.length_drop] at hpl
      by_cases h60 : j < 60
      · have hrd : CallOk Tryd.prog 15 [.imm (.str (ofL (pre 10 (s.drop (upTo L j))))), .imm (.int .i64 ((recsTo L j).length : Nat))] { res := [.imm (.agg (sRes j (pre 10 (s.drop (upTo L j)))).enc), .imm (.bool (sOk j (pre 10 (s.drop (upTo L j)))))] } := by
          rw [hlen]; exact c15 _ j h60 (by omega)
        rw [ok_eq] at hrd
        by_cases h10 : (10 : UInt8) ∈ s.drop (upTo L j)
        · have h2 := split_two h10
          have hsp := len_split h10
          rw [List.length_drop] at hsp
          cases hok : iOk j (pre 10 (s.drop (upTo L j))) with
          | false =>
            rw [hok] at hrd
            have hdn : dec j (s.drop (upTo L j)) = none := by unfold dec; rw [if_neg]; rintro ⟨_, _, h⟩; rw [hok] at h; cases h
            rw [hdn] at hd
            have hje : j = L.length := by have := le_of_at hd.symm; omega
            repeat' first | refine go_seq ?_ | refine go_region ?_ | refine go_miss rfl rfl rfl ?_ | refine go_undef rfl rfl rfl ?_ | ((first | refine go_op rfl ?_ | refine go_nil ?_ | refine go_hit rfl rfl rfl ?_ | refine go_splitT rfl rfl rfl (fun h => ?_) (fun h => ?_) | refine go_splitF rfl rfl rfl (fun h => ?_) (fun h => ?_) | refine go_storeBox rfl rfl rfl rfl rfl rfl ?_ | refine go_pickT rfl ?_ | refine go_pickF rfl ?_ | refine go_pick rfl (fun h => ?_) (fun h => ?_) | refine go_call [] (hs1) rfl rfl rfl rfl ?_ | refine go_call [] (hrd) rfl rfl rfl rfl ?_ | refine go_idx rfl rfl rfl rfl (by decide) h0 rfl ?_ | refine go_sliceR (upTo L j) s.length (s.drop (upTo L j)) rfl rfl rfl rfl (by omega) (by omega) (List.take_of_length_le (by simp)) ?_) <;> conv => whnf) | ((first | refine go_loadB ?_ | refine ⟨by kernel_rfl, ?_⟩ | refine go_ret ?_) <;> conv => whnf) | refine go_block ?_ | ((first | refine go_skip ?_ | refine go_exit ?_) <;> conv => whnf) | refine go_true rfl ?_ | refine go_false rfl ?_ | refine go_cond rfl (fun h => ?_) (fun h => ?_) | refine ⟨rfl, ?_⟩ | ((first | refine ⟨trivial, ?_⟩ | refine ⟨le_of_ble rfl, ?_⟩) <;> conv => whnf) | fail
            all_goals first
              | (exfalso; have h' := of_decide_eq_false h; omega)
              | (exfalso; have h' := of_decide_eq_true h; omega)
              | (exfalso; rename_i hq; have h' := of_decide_eq_true hq; omega)
              | (exfalso; rename_i hq; have h' := of_decide_eq_false hq; omega)
              | (exfalso; rename_i hq _; have h' := of_decide_eq_true hq; omega)
              | (exfalso; rename_i hq _; have h' := of_decide_eq_false hq; omega)
              | exact ret_arr2 rfl rfl rfl rfl rfl (by rw [List.drop_zero, List.take_length, hje]) (recs_gr _ _) rfl (congrArg (D.int .i64) (hend hje)) rfl
              | trace_state
          | true =>
            rw [hok] at hrd
            have hds : dec j (s.drop (upTo L j)) = some (eOf (pre 10 (s.drop (upTo L j))), (pre 10 (s.drop (upTo L j))).length + 1) := by unfold dec; rw [if_pos ⟨h10, h60, hok⟩]
            rw [hds] at hd
            have hx := hd.symm
            have hlt := lt_of_at hx
            have hres : sRes j (pre 10 (s.drop (upTo L j))) = eOf (pre 10 (s.drop (upTo L j))) := by
              have hok' := hok
              rw [← ok_eq] at hok'
              unfold sOk at hok'
              simp only [Bool.and_eq_true, decide_eq_true_eq] at hok'
              unfold sRes
              rw [if_pos ⟨hok'.1.1.1, hok'.1.1.2⟩, rec_eq hok]
            rw [hres] at hrd
            have hn : IntKind.i64.wrap (IntKind.i64.wrap ((upTo L j : Nat) + ((ofL (pre 10 (s.drop (upTo L j)))).size : Int)) + 1) = ((upTo L (j + 1) : Nat) : Int) := by
              have := hat (j + 1)
              rw [upTo_next hx] at this ⊢
              rw [ofL_size, wrap_small (n := (upTo L j : Nat) + ((pre 10 (s.drop (upTo L j))).length : Int)) (by omega) (by omega), wrap_small (by omega) (by omega)]
              dsimp only at this ⊢
              omega
            repeat' first | refine go_seq ?_ | refine go_region ?_ | refine go_miss rfl rfl rfl ?_ | refine go_undef rfl rfl rfl ?_ | ((first | refine go_op rfl ?_ | refine go_nil ?_ | refine go_hit rfl rfl rfl ?_ | refine go_splitT rfl rfl rfl (fun h => ?_) (fun h => ?_) | refine go_splitF rfl rfl rfl (fun h => ?_) (fun h => ?_) | refine go_storeBox rfl rfl rfl rfl rfl rfl ?_ | refine go_pickT rfl ?_ | refine go_pickF rfl ?_ | refine go_pick rfl (fun h => ?_) (fun h => ?_) | refine go_call [] (hs1) rfl rfl rfl rfl ?_ | refine go_call [] (hrd) rfl rfl rfl rfl ?_ | refine go_idx rfl rfl rfl rfl (by decide) h0 rfl ?_ | refine go_sliceR (upTo L j) s.length (s.drop (upTo L j)) rfl rfl rfl rfl (by omega) (by omega) (List.take_of_length_le (by simp)) ?_ | refine go_append (rows2 := [(eOf (pre 10 (s.drop (upTo L j)))).enc]) rfl rfl rfl rfl rfl rfl rfl rfl rfl rfl rfl rfl rfl rfl rfl rfl (by omega) ?_) <;> conv => whnf) | ((first | refine go_loadB ?_ | refine ⟨by kernel_rfl, ?_⟩ | refine go_ret ?_) <;> conv => whnf) | refine go_block ?_ | ((first | refine go_skip ?_ | refine go_exit ?_) <;> conv => whnf) | refine go_true rfl ?_ | refine go_false rfl ?_ | refine go_cond rfl (fun h => ?_) (fun h => ?_) | refine ⟨rfl, ?_⟩ | ((first | refine ⟨trivial, ?_⟩ | refine ⟨le_of_ble rfl, ?_⟩) <;> conv => whnf) | fail
            all_goals first
              | (exfalso; have h' := of_decide_eq_false h; omega)
              | (exfalso; have h' := of_decide_eq_true h; omega)
              | (exfalso; rename_i hq; have h' := of_decide_eq_true hq; omega)
              | (exfalso; rename_i hq; have h' := of_decide_eq_false hq; omega)
              | (exfalso; rename_i hq _; have h' := of_decide_eq_true hq; omega)
              | (exfalso; rename_i hq _; have h' := of_decide_eq_false hq; omega)
              | (refine go_next (j + 1) (by omega) (by omega) (ref_st (fun _ => nid 6 42) rfl ⟨rfl, ⟨?_, rfl⟩, congrArg (fun z => AV.imm (D.int .i64 z)) hn, trivial⟩ ⟨?_, trivial⟩ (by simp) rfl (by simp))
                 · show AV.own _ _ _ = AV.own _ _ _
                   rw [recs_next hx, List.length_append]; rfl
                 · show some _ = some _
                   rw [recs_next hx]; rfl)
              | trace_state
        · have h2 := split_one h10
          have hdn : dec j (s.drop (upTo L j)) = none := by unfold dec; rw [if_neg]; rintro ⟨h, _⟩; exact h10 h
          rw [hdn] at hd
          have hje : j = L.length := by have := le_of_at hd.symm; omega
          repeat' first | refine go_seq ?_ | refine go_region ?_ | refine go_miss rfl rfl rfl ?_ | refine go_undef rfl rfl rfl ?_ | ((first | refine go_op rfl ?_ | refine go_nil ?_ | refine go_hit rfl rfl rfl ?_ | refine go_splitT rfl rfl rfl (fun h => ?_) (fun h => ?_) | refine go_splitF rfl rfl rfl (fun h => ?_) (fun h => ?_) | refine go_storeBox rfl rfl rfl rfl rfl rfl ?_ | refine go_pickT rfl ?_ | refine go_pickF rfl ?_ | refine go_pick rfl (fun h => ?_) (fun h => ?_) | refine go_call [] (hs1) rfl rfl rfl rfl ?_ | refine go_call [] (hrd) rfl rfl rfl rfl ?_ | refine go_idx rfl rfl rfl rfl (by decide) h0 rfl ?_ | refine go_sliceR (upTo L j) s.length (s.drop (upTo L j)) rfl rfl rfl rfl (by omega) (by omega) (List.take_of_length_le (by simp)) ?_) <;> conv => whnf) | ((first | refine go_loadB ?_ | refine ⟨by kernel_rfl, ?_⟩ | refine go_ret ?_) <;> conv => whnf) | refine go_block ?_ | ((first | refine go_skip ?_ | refine go_exit ?_) <;> conv => whnf) | refine go_true rfl ?_ | refine go_false rfl ?_ | refine go_cond rfl (fun h => ?_) (fun h => ?_) | refine ⟨rfl, ?_⟩ | ((first | refine ⟨trivial, ?_⟩ | refine ⟨le_of_ble rfl, ?_⟩) <;> conv => whnf) | fail
          all_goals first
            | (exfalso; have h' := of_decide_eq_false h; omega)
            | (exfalso; have h' := of_decide_eq_true h; omega)
            | (exfalso; rename_i hq; have h' := of_decide_eq_true hq; omega)
            | (exfalso; rename_i hq; have h' := of_decide_eq_false hq; omega)
            | (exfalso; rename_i hq _; have h' := of_decide_eq_true hq; omega)
            | (exfalso; rename_i hq _; have h' := of_decide_eq_false hq; omega)
            | exact ret_arr2 rfl rfl rfl rfl rfl (by rw [List.drop_zero, List.take_length, hje]) (recs_gr _ _) rfl (congrArg (D.int .i64) (hend hje)) rfl
            | trace_state
      · have hdn : dec j (s.drop (upTo L j)) = none := by unfold dec; rw [if_neg]; rintro ⟨_, h, _⟩; exact h60 h
        rw [hdn] at hd
        have hje : j = L.length := by have := le_of_at hd.symm; omega
        repeat' first | refine go_seq ?_ | refine go_region ?_ | refine go_miss rfl rfl rfl ?_ | refine go_undef rfl rfl rfl ?_ | ((first | refine go_op rfl ?_ | refine go_nil ?_ | refine go_hit rfl rfl rfl ?_ | refine go_splitT rfl rfl rfl (fun h => ?_) (fun h => ?_) | refine go_splitF rfl rfl rfl (fun h => ?_) (fun h => ?_) | refine go_storeBox rfl rfl rfl rfl rfl rfl ?_ | refine go_pickT rfl ?_ | refine go_pickF rfl ?_ | refine go_pick rfl (fun h => ?_) (fun h => ?_)) <;> conv => whnf) | ((first | refine go_loadB ?_ | refine ⟨by kernel_rfl, ?_⟩ | refine go_ret ?_) <;> conv => whnf) | refine go_block ?_ | ((first | refine go_skip ?_ | refine go_exit ?_) <;> conv => whnf) | refine go_true rfl ?_ | refine go_false rfl ?_ | refine go_cond rfl (fun h => ?_) (fun h => ?_) | refine ⟨rfl, ?_⟩ | ((first | refine ⟨trivial, ?_⟩ | refine ⟨le_of_ble rfl, ?_⟩) <;> conv => whnf) | fail
        all_goals first
          | (exfalso; have h' := of_decide_eq_false h; omega)
          | (exfalso; have h' := of_decide_eq_true h; omega)
          | (exfalso; rename_i hq; have h' := of_decide_eq_true hq; omega)
          | (exfalso; rename_i hq; have h' := of_decide_eq_false hq; omega)
          | (exfalso; rename_i hq _; have h' := of_decide_eq_true hq; omega)
          | (exfalso; rename_i hq _; have h' := of_decide_eq_false hq; omega)
          | exact ret_arr2 rfl rfl rfl rfl rfl (by rw [List.drop_zero, List.take_length, hje]) (recs_gr _ _) rfl (congrArg (D.int .i64) (hend hje)) rfl
          | trace_state
    · have hdn : dec j (s.drop (upTo L j)) = none := by
        rw [List.drop_eq_nil_of_le (by omega)]
        unfold dec; rw [if_neg]; rintro ⟨h, _⟩; simp at h
      rw [hdn] at hd
      have hje : j = L.length := by have := le_of_at hd.symm; omega
      repeat' first | refine go_seq ?_ | refine go_region ?_ | refine go_miss rfl rfl rfl ?_ | refine go_undef rfl rfl rfl ?_ | ((first | refine go_op rfl ?_ | refine go_nil ?_ | refine go_hit rfl rfl rfl ?_ | refine go_splitT rfl rfl rfl (fun h => ?_) (fun h => ?_) | refine go_splitF rfl rfl rfl (fun h => ?_) (fun h => ?_) | refine go_storeBox rfl rfl rfl rfl rfl rfl ?_ | refine go_pickT rfl ?_ | refine go_pickF rfl ?_ | refine go_pick rfl (fun h => ?_) (fun h => ?_)) <;> conv => whnf) | ((first | refine go_loadB ?_ | refine ⟨by kernel_rfl, ?_⟩ | refine go_ret ?_) <;> conv => whnf) | refine go_block ?_ | ((first | refine go_skip ?_ | refine go_exit ?_) <;> conv => whnf) | refine go_true rfl ?_ | refine go_false rfl ?_ | refine go_cond rfl (fun h => ?_) (fun h => ?_) | refine ⟨rfl, ?_⟩ | ((first | refine ⟨trivial, ?_⟩ | refine ⟨le_of_ble rfl, ?_⟩) <;> conv => whnf) | fail
      all_goals first
        | (exfalso; have h' := of_decide_eq_false h; omega)
        | (exfalso; have h' := of_decide_eq_true h; omega)
        | (exfalso; rename_i hq; have h' := of_decide_eq_true hq; omega)
        | (exfalso; rename_i hq; have h' := of_decide_eq_false hq; omega)
        | (exfalso; rename_i hq _; have h' := of_decide_eq_true hq; omega)
        | (exfalso; rename_i hq _; have h' := of_decide_eq_false hq; omega)
        | exact ret_arr2 rfl rfl rfl rfl rfl (by rw [List.drop_zero, List.take_length, hje]) (recs_gr _ _) rfl (congrArg (D.int .i64) (hend hje)) rfl
        | trace_state
end Go.Proofs.YtnndgejlkljlaaaDoor

