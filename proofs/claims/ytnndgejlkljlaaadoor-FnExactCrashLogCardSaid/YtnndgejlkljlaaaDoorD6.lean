/- The walks of the reference's readers of a line and of a log. -/
import Derived.Test.YtnndgejlkljlaaaDoorD5
namespace Go.Proofs.YtnndgejlkljlaaaDoor
open Go Go.Am Go.Lg
set_option maxRecDepth 100000
set_option maxHeartbeats 4000000
attribute [local irreducible] amOps amC opCall opIndexAddr opPick retQ opMake opStore amDraw opAppend opLoad opNilCmp opIndex opSlice

def sRes (k : Nat) (s : List UInt8) : Rec := if sGuard k s ∧ (64 : UInt8) ∈ sRest k s then sRec k s else ⟨[], []⟩

theorem split_0 (c : UInt8) (s : List UInt8) : ((split c s).map strRow)[(0 : Int).toNat]? = some (strRow (pre c s)) := by
  obtain ⟨d', h, _⟩ := split_eq c s
  rw [h]
  rfl
theorem pre_full {c : UInt8} {a : List UInt8} : (pre c a).length = a.length ↔ c ∉ a := by
  by_cases h : c ∈ a
  · have := len_split h
    constructor
    · intro e; omega
    · intro e; exact absurd h e
  · rw [pre_no h]; simp [h]

theorem c15 (s : List UInt8) (k : Nat) (hk : k < 60) (hl : s.length ≤ 1048576) : CallOk Tryd.prog 15 [.imm (.str (ofL s)), .imm (.int .i64 (k : Nat))]
    { res := [.imm (.agg (sRes k s).enc), .imm (.bool (sOk k s))] } := by
  refine callOk_of tyOk Tryd.func15 rfl rfl (le_of_ble rfl) (le_of_ble rfl) (mutOk_imm rfl _) ?_
  have hn := c17 k (by omega)
  have hnl := num_len 1 k (by omega)
  have hs1 := c14 s 35 (by omega)
  have ht0 := split_0 35 s
  have hpl := pre_len (c := 35) s
  have hA : (num k ++ [32]).length = (num k).length + 1 := by simp
  have hAz : (ofL (num k) ++ (⟨#[32]⟩ : ByteArray)).size = (num k ++ [32]).length := by rw [ByteArray.size_append, ofL_size, szLit]; simp
  by_cases hle : (num k ++ [32]).length ≤ (pre 35 s).length
  · have hcA : (ofL ((pre 35 s).take (num k ++ [32]).length) == ofL (num k) ++ (⟨#[32]⟩ : ByteArray)) = decide ((pre 35 s).take (num k ++ [32]).length = num k ++ [32]) := by
      rw [show (⟨#[32]⟩ : ByteArray) = ofL [32] from rfl, ofL_app, beqL]
    by_cases heq : (pre 35 s).take (num k ++ [32]).length = num k ++ [32]
    · rw [decide_eq_true heq] at hcA
      have hg : sGuard k s := ⟨hle, heq⟩
      have hs2 := c14 (sRest k s) 64 (by simp [sRest]; omega)
      have hr0 := split_0 64 (sRest k s)
      have hrl : (sRest k s).length ≤ s.length := by simp [sRest]; omega
      have hp2 := pre_len (c := 64) (sRest k s)
      by_cases h64 : (64 : UInt8) ∈ sRest k s
      · have hne : (pre 64 (sRest k s)).length ≠ (sRest k s).length := fun e => pre_full.1 e h64
        have hsp := len_split h64
        have hw : IntKind.i64.wrap (((ofL (pre 64 (sRest k s))).size : Int) + 1) = (((pre 64 (sRest k s)).length + 1 : Nat) : Int) := by rw [ofL_size, wrap_small (by omega) (by omega)]; omega
        have hres : sRes k s = sRec k s := by unfold sRes; rw [if_pos ⟨hg, h64⟩]
        rw [hres]
        have hfit : (sRec k s).fit := ⟨by show (pre 64 (sRest k s)).length ≤ _; omega, by show (post 64 (sRest k s)).length ≤ _; omega⟩
        have hgd := c18 (sRec k s) hfit
        have hpd : ((sRest k s).drop ((pre 64 (sRest k s)).length + 1)).take ((sRest k s).length - ((pre 64 (sRest k s)).length + 1)) = post 64 (sRest k s) := by rw [post_drop, List.take_of_length_le (by omega)]
        have hok : sOk k s = (good (sRec k s) && decide (lineOf k (sRec k s) = s)) := by unfold sOk; rw [decide_eq_true hg, decide_eq_true h64, Bool.true_and, Bool.true_and]
        have hz1 : ((ofL (pre 64 (sRest k s))).size : Int) ≠ ((ofL (sRest k s)).size : Int) := by rw [ofL_size, ofL_size]; omega
        cases hgood : good (sRec k s) with
        | false =>
          rw [hgood] at hgd hok
          rw [hok]
          repeat' first | refine go_seq ?_ | refine go_region ?_ | refine go_miss rfl rfl rfl ?_ | refine go_undef rfl rfl rfl ?_ | refine go_draw drawsOk ?_ | ((first | refine go_op rfl ?_ | refine go_nil ?_ | refine go_hit rfl rfl rfl ?_ | refine go_splitT rfl rfl rfl (fun h => ?_) (fun h => ?_) | refine go_splitF rfl rfl rfl (fun h => ?_) (fun h => ?_) | refine go_storeBox rfl rfl rfl rfl rfl rfl ?_ | refine go_dop rfl ?_ | refine go_dhit rfl rfl ?_ | refine go_dmiss rfl rfl ?_ | refine go_dundef rfl rfl ?_ | refine go_dend (by kernel_rfl) ?_ | refine go_pickT rfl ?_ | refine go_pickF rfl ?_ | refine go_pick rfl (fun h => ?_) (fun h => ?_) | refine go_call [] (hn) rfl rfl rfl rfl ?_ | refine go_call [] (hs1) rfl rfl rfl rfl ?_ | refine go_call [] (hs2) rfl rfl rfl rfl ?_ | refine go_call [] (hgd) rfl rfl rfl rfl ?_ | refine go_idx rfl rfl rfl rfl (by decide) ht0 rfl ?_ | refine go_idx rfl rfl rfl rfl (by decide) hr0 rfl ?_ | refine go_sliceR 0 (num k ++ [32]).length _ rfl rfl rfl (by show some _ = some _; rw [hAz]) (by omega) (by omega) (by rw [List.drop_zero, Nat.sub_zero]) ?_ | refine go_sliceR (num k ++ [32]).length (pre 35 s).length (sRest k s) rfl rfl (by show some _ = some _; rw [hAz]) rfl (by omega) (by omega) (List.take_of_length_le (by simp)) ?_ | refine go_sliceR ((pre 64 (sRest k s)).length + 1) (sRest k s).length _ rfl rfl (by show some _ = some _; rw [hw]) rfl (by omega) (by omega) hpd ?_ | refine ⟨by simp only [ByteArray.size_append, ofL_size, szLit, List.length_cons, List.length_nil]; omega, ?_⟩) <;> conv => whnf) | ((first | refine Or.inl ?_ | refine go_dsplit2 rfl (fun h => ?_) (fun h => ?_) | refine go_loadB ?_ | refine ⟨by kernel_rfl, ?_⟩ | refine go_ret ?_) <;> conv => whnf) | ((first | refine go_skip ?_) <;> conv => whnf) | refine go_true rfl ?_ | refine go_false rfl ?_ | refine go_cond rfl (fun h => ?_) (fun h => ?_) | refine ⟨rfl, ?_⟩ | ((first | refine ⟨trivial, ?_⟩ | refine ⟨le_of_ble rfl, ?_⟩) <;> conv => whnf) | fail
          all_goals first
            | (exfalso; have h' := of_decide_eq_true h; rw [hAz, ofL_size] at h'; omega)
            | (exfalso; have h' := of_decide_eq_false h; rw [hAz, ofL_size] at h'; omega)
            | (exfalso; rw [hcA] at h; cases h; done)
            | (exfalso; exact hz1 (of_decide_eq_true h))
            | (exfalso; exact of_decide_eq_false h hz1)
            | exact ret_imm2 rfl rfl rfl rfl rfl rfl rfl rfl
            | trace_state
        | true =>
          rw [hgood] at hgd hok
          have hli := c19 k (sRec k s) hgood hk
          have hcmp : (ofL (lineOf k (sRec k s) ++ [10]) == ofL s ++ (⟨#[10]⟩ : ByteArray)) = decide (lineOf k (sRec k s) = s) := by
            rw [show (⟨#[10]⟩ : ByteArray) = ofL [10] from rfl, ofL_app, beqL]; simp
          rw [Bool.true_and, ← hcmp] at hok
          rw [hok]
          repeat' first | refine go_seq ?_ | refine go_region ?_ | refine go_miss rfl rfl rfl ?_ | refine go_undef rfl rfl rfl ?_ | refine go_draw drawsOk ?_ | ((first | refine go_op rfl ?_ | refine go_nil ?_ | refine go_hit rfl rfl rfl ?_ | refine go_splitT rfl rfl rfl (fun h => ?_) (fun h => ?_) | refine go_splitF rfl rfl rfl (fun h => ?_) (fun h => ?_) | refine go_storeBox rfl rfl rfl rfl rfl rfl ?_ | refine go_dop rfl ?_ | refine go_dhit rfl rfl ?_ | refine go_dmiss rfl rfl ?_ | refine go_dundef rfl rfl ?_ | refine go_dend (by kernel_rfl) ?_ | refine go_pickT rfl ?_ | refine go_pickF rfl ?_ | refine go_pick rfl (fun h => ?_) (fun h => ?_) | refine go_call [] (hn) rfl rfl rfl rfl ?_ | refine go_call [] (hs1) rfl rfl rfl rfl ?_ | refine go_call [] (hs2) rfl rfl rfl rfl ?_ | refine go_call [] (hgd) rfl rfl rfl rfl ?_ | refine go_call [] (hli) rfl rfl rfl rfl ?_ | refine go_idx rfl rfl rfl rfl (by decide) ht0 rfl ?_ | refine go_idx rfl rfl rfl rfl (by decide) hr0 rfl ?_ | refine go_sliceR 0 (num k ++ [32]).length _ rfl rfl rfl (by show some _ = some _; rw [hAz]) (by omega) (by omega) (by rw [List.drop_zero, Nat.sub_zero]) ?_ | refine go_sliceR (num k ++ [32]).length (pre 35 s).length (sRest k s) rfl rfl (by show some _ = some _; rw [hAz]) rfl (by omega) (by omega) (List.take_of_length_le (by simp)) ?_ | refine go_sliceR ((pre 64 (sRest k s)).length + 1) (sRest k s).length _ rfl rfl (by show some _ = some _; rw [hw]) rfl (by omega) (by omega) hpd ?_ | refine ⟨by simp only [ByteArray.size_append, ofL_size, szLit, List.length_cons, List.length_nil]; omega, ?_⟩) <;> conv => whnf) | ((first | refine Or.inl ?_ | refine go_dsplit2 rfl (fun h => ?_) (fun h => ?_) | refine go_loadB ?_ | refine ⟨by kernel_rfl, ?_⟩ | refine go_ret ?_) <;> conv => whnf) | ((first | refine go_skip ?_) <;> conv => whnf) | refine go_true rfl ?_ | refine go_false rfl ?_ | refine go_cond rfl (fun h => ?_) (fun h => ?_) | refine ⟨rfl, ?_⟩ | ((first | refine ⟨trivial, ?_⟩ | refine ⟨le_of_ble rfl, ?_⟩) <;> conv => whnf) | fail
          all_goals first
            | (exfalso; have h' := of_decide_eq_true h; rw [hAz, ofL_size] at h'; omega)
            | (exfalso; have h' := of_decide_eq_false h; rw [hAz, ofL_size] at h'; omega)
            | (exfalso; rw [hcA] at h; cases h; done)
            | (exfalso; exact hz1 (of_decide_eq_true h))
            | (exfalso; exact of_decide_eq_false h hz1)
            | exact ret_imm2 rfl rfl rfl rfl rfl rfl rfl rfl
            | trace_state
      · have hpe : (pre 64 (sRest k s)).length = (sRest k s).length := pre_full.2 h64
        have hz1 : ((ofL (pre 64 (sRest k s))).size : Int) = ((ofL (sRest k s)).size : Int) := by rw [ofL_size, ofL_size]; omega
        have hres : sRes k s = ⟨[], []⟩ := by unfold sRes; rw [if_neg fun h => h64 h.2]
        have hok : sOk k s = false := by unfold sOk; rw [decide_eq_false h64, Bool.and_false, Bool.false_and, Bool.false_and]
        rw [hres, hok]
        repeat' first | refine go_seq ?_ | refine go_region ?_ | refine go_miss rfl rfl rfl ?_ | refine go_undef rfl rfl rfl ?_ | refine go_draw drawsOk ?_ | ((first | refine go_op rfl ?_ | refine go_nil ?_ | refine go_hit rfl rfl rfl ?_ | refine go_splitT rfl rfl rfl (fun h => ?_) (fun h => ?_) | refine go_splitF rfl rfl rfl (fun h => ?_) (fun h => ?_) | refine go_storeBox rfl rfl rfl rfl rfl rfl ?_ | refine go_dop rfl ?_ | refine go_dhit rfl rfl ?_ | refine go_dmiss rfl rfl ?_ | refine go_dundef rfl rfl ?_ | refine go_dend (by kernel_rfl) ?_ | refine go_pickT rfl ?_ | refine go_pickF rfl ?_ | refine go_pick rfl (fun h => ?_) (fun h => ?_) | refine go_call [] (hn) rfl rfl rfl rfl ?_ | refine go_call [] (hs1) rfl rfl rfl rfl ?_ | refine go_call [] (hs2) rfl rfl rfl rfl ?_ | refine go_idx rfl rfl rfl rfl (by decide) ht0 rfl ?_ | refine go_idx rfl rfl rfl rfl (by decide) hr0 rfl ?_ | refine go_sliceR 0 (num k ++ [32]).length _ rfl rfl rfl (by show some _ = some _; rw [hAz]) (by omega) (by omega) (by rw [List.drop_zero, Nat.sub_zero]) ?_ | refine go_sliceR (num k ++ [32]).length (pre 35 s).length (sRest k s) rfl rfl (by show some _ = some _; rw [hAz]) rfl (by omega) (by omega) (List.take_of_length_le (by simp)) ?_ | refine ⟨by simp only [ByteArray.size_append, ofL_size, szLit, List.length_cons, List.length_nil]; omega, ?_⟩) <;> conv => whnf) | ((first | refine Or.inl ?_ | refine go_dsplit2 rfl (fun h => ?_) (fun h => ?_) | refine go_loadB ?_ | refine ⟨by kernel_rfl, ?_⟩ | refine go_ret ?_) <;> conv => whnf) | ((first | refine go_skip ?_) <;> conv => whnf) | refine go_true rfl ?_ | refine go_false rfl ?_ | refine go_cond rfl (fun h => ?_) (fun h => ?_) | refine ⟨rfl, ?_⟩ | ((first | refine ⟨trivial, ?_⟩ | refine ⟨le_of_ble rfl, ?_⟩) <;> conv => whnf) | fail
        all_goals first
          | (exfalso; have h' := of_decide_eq_true h; rw [hAz, ofL_size] at h'; omega)
          | (exfalso; have h' := of_decide_eq_false h; rw [hAz, ofL_size] at h'; omega)
          | (exfalso; rw [hcA] at h; cases h; done)
          | (exfalso; exact hz1 (of_decide_eq_true h))
          | (exfalso; exact of_decide_eq_false h hz1)
          | exact ret_imm2 rfl rfl rfl rfl rfl rfl rfl rfl
          | trace_state
    · rw [decide_eq_false heq] at hcA
      have hg : ¬ sGuard k s := fun h => heq h.2
      have hres : sRes k s = ⟨[], []⟩ := by unfold sRes; rw [if_neg fun h => hg h.1]
      have hok : sOk k s = false := by unfold sOk; rw [decide_eq_false hg, Bool.false_and, Bool.false_and, Bool.false_and]
      rw [hres, hok]
      repeat' first | refine go_seq ?_ | refine go_region ?_ | refine go_miss rfl rfl rfl ?_ | refine go_undef rfl rfl rfl ?_ | refine go_draw drawsOk ?_ | ((first | refine go_op rfl ?_ | refine go_nil ?_ | refine go_hit rfl rfl rfl ?_ | refine go_splitT rfl rfl rfl (fun h => ?_) (fun h => ?_) | refine go_splitF rfl rfl rfl (fun h => ?_) (fun h => ?_) | refine go_storeBox rfl rfl rfl rfl rfl rfl ?_ | refine go_dop rfl ?_ | refine go_dhit rfl rfl ?_ | refine go_dmiss rfl rfl ?_ | refine go_dundef rfl rfl ?_ | refine go_dend (by kernel_rfl) ?_ | refine go_pickT rfl ?_ | refine go_pickF rfl ?_ | refine go_pick rfl (fun h => ?_) (fun h => ?_) | refine go_call [] (hn) rfl rfl rfl rfl ?_ | refine go_call [] (hs1) rfl rfl rfl rfl ?_ | refine go_idx rfl rfl rfl rfl (by decide) ht0 rfl ?_ | refine go_sliceR 0 (num k ++ [32]).length _ rfl rfl rfl (by show some _ = some _; rw [hAz]) (by omega) (by omega) (by rw [List.drop_zero, Nat.sub_zero]) ?_ | refine ⟨by simp only [ByteArray.size_append, ofL_size, szLit, List.length_cons, List.length_nil]; omega, ?_⟩) <;> conv => whnf) | ((first | refine Or.inl ?_ | refine go_dsplit2 rfl (fun h => ?_) (fun h => ?_) | refine go_loadB ?_ | refine ⟨by kernel_rfl, ?_⟩ | refine go_ret ?_) <;> conv => whnf) | ((first | refine go_skip ?_) <;> conv => whnf) | refine go_true rfl ?_ | refine go_false rfl ?_ | refine go_cond rfl (fun h => ?_) (fun h => ?_) | refine ⟨rfl, ?_⟩ | ((first | refine ⟨trivial, ?_⟩ | refine ⟨le_of_ble rfl, ?_⟩) <;> conv => whnf) | fail
      all_goals first
        | (exfalso; have h' := of_decide_eq_true h; rw [hAz, ofL_size] at h'; omega)
        | (exfalso; have h' := of_decide_eq_false h; rw [hAz, ofL_size] at h'; omega)
        | (exfalso; rw [hcA] at h; cases h; done)
        | exact ret_imm2 rfl rfl rfl rfl rfl rfl rfl rfl
        | trace_state
  · have hg : ¬ sGuard k s := fun h => hle h.1
    have hres : sRes k s = ⟨[], []⟩ := by unfold sRes; rw [if_neg fun h => hg h.1]
    have hok : sOk k s = false := by unfold sOk; rw [decide_eq_false hg, Bool.false_and, Bool.false_and, Bool.false_and]
    rw [hres, hok]
    repeat' first | refine go_seq ?_ | refine go_region ?_ | refine go_miss rfl rfl rfl ?_ | refine go_undef rfl rfl rfl ?_ | refine go_draw drawsOk ?_ | ((first | refine go_op rfl ?_ | refine go_nil ?_ | refine go_hit rfl rfl rfl ?_ | refine go_splitT rfl rfl rfl (fun h => ?_) (fun h => ?_) | refine go_splitF rfl rfl rfl (fun h => ?_) (fun h => ?_) | refine go_storeBox rfl rfl rfl rfl rfl rfl ?_ | refine go_dop rfl ?_ | refine go_dhit rfl rfl ?_ | refine go_dmiss rfl rfl ?_ | refine go_dundef rfl rfl ?_ | refine go_dend (by kernel_rfl) ?_ | refine go_pickT rfl ?_ | refine go_pickF rfl ?_ | refine go_pick rfl (fun h => ?_) (fun h => ?_) | refine go_call [] (hn) rfl rfl rfl rfl ?_ | refine go_call [] (hs1) rfl rfl rfl rfl ?_ | refine go_idx rfl rfl rfl rfl (by decide) ht0 rfl ?_ | refine ⟨by simp only [ByteArray.size_append, ofL_size, szLit, List.length_cons, List.length_nil]; omega, ?_⟩) <;> conv => whnf) | ((first | refine Or.inl ?_ | refine go_dsplit2 rfl (fun h => ?_) (fun h => ?_) | refine go_loadB ?_ | refine ⟨by kernel_rfl, ?_⟩ | refine go_ret ?_) <;> conv => whnf) | ((first | refine go_skip ?_) <;> conv => whnf) | refine go_true rfl ?_ | refine go_false rfl ?_ | refine go_cond rfl (fun h => ?_) (fun h => ?_) | refine ⟨rfl, ?_⟩ | ((first | refine ⟨trivial, ?_⟩ | refine ⟨le_of_ble rfl, ?_⟩) <;> conv => whnf) | fail
    all_goals first
      | (exfalso; have h' := of_decide_eq_true h; rw [hAz, ofL_size] at h'; omega)
      | (exfalso; have h' := of_decide_eq_false h; rw [hAz, ofL_size] at h'; omega)
      | exact ret_imm2 rfl rfl rfl rfl rfl rfl rfl rfl
      | trace_state
end Go.Proofs.YtnndgejlkljlaaaDoor

