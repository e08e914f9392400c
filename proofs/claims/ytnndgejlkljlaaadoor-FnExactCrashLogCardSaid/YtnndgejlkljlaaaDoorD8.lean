/- The walks of whether a log is valid. -/
import Derived.Test.YtnndgejlkljlaaaDoorD7
import Derived.Test.YtnndgejlkljlaaaDoorAmC
namespace Go.Proofs.YtnndgejlkljlaaaDoor
open Go Go.Am Go.Lg
set_option maxRecDepth 100000
set_option maxHeartbeats 4000000
attribute [local irreducible] amOps amC opCall opIndexAddr opPick retQ opMake opStore amDraw opAppend opLoad opNilCmp opIndex opSlice

structure LogV where
  d : List UInt8
  p : List UInt8
  n : Int
def LogV.enc (l : LogV) : List D := [.str (ofL l.d), .str (ofL l.p), .int .i64 l.n]
def LogV.ok (l : LogV) : Prop := l.d.length ≤ maxLen ∧ l.p.length ≤ maxLen ∧ i64 l.n
def LogV.fit (l : LogV) : Prop := l.d.length ≤ 1048576 ∧ l.p.length ≤ 1048576
def LogV.all (l : LogV) : List (Rec × Nat) := opn (l.d ++ l.p)

def validB (l : LogV) : Bool := decide (l.d.length + l.p.length ≤ 30000) && (decide (endOf l.all = l.d.length + l.p.length) && (decide (endOf (opn l.d) = l.d.length) && decide ((l.all.length : Int) = l.n)))
theorem validB_iff (l : LogV) : validB l = true ↔ Valid l.d l.p l.n := by
  rw [valid_iff]
  simp only [validB, Bool.and_eq_true, decide_eq_true_eq]
  exact Iff.rfl

theorem c10 (l : LogV) (hf : l.fit) : CallOk Tryd.prog 10 [.imm (.agg l.enc)] { res := [.imm (.bool (validB l))] } := by
  refine callOk_of tyOk Tryd.func10 rfl rfl (le_of_ble rfl) (le_of_ble rfl) (mutOk_imm rfl _) ?_
  obtain ⟨hf1, hf2⟩ := hf
  have hr : CallOk Tryd.prog 13 [.imm (.str (ofL l.d ++ ofL l.p))] { res := [.arr 42 2 (recsTo l.all l.all.length), .imm (.list (endsTo l.all l.all.length))] } := by
    rw [ofL_app]; exact c13 (l.d ++ l.p) (by rw [List.length_append]; omega)
  have hiff := validB_iff l
  have hlen := recs_len (Nat.le_refl l.all.length)
  have hel := ends_len l.all l.all.length
  have hL : l.all.length ≤ 60 := opn_len _
  have hend := opn_end (l.d ++ l.p)
  have hup : ∀ j, upTo l.all j ≤ (l.d ++ l.p).length := opn_upTo _
  rw [List.length_append] at hup
  have hxr : (endsTo l.all l.all.length)[(((recsTo l.all l.all.length).length : Nat) : Int).toNat]? = some (intRow (endOf l.all : Nat)) := by rw [hlen, Int.toNat_natCast]; exact ends_at _ (Nat.le_refl _)
  have hw : IntKind.i64.wrap (((ofL l.d).size : Int) + ((ofL l.p).size : Int)) = ((l.d.length + l.p.length : Nat) : Int) := by rw [ofL_size, ofL_size, wrap_small (by omega) (by omega)]; omega
  unfold Valid at hiff
  rw [show opn (l.d ++ l.p) = l.all from rfl] at hiff hend
  by_cases h1 : endOf l.all = l.d.length + l.p.length
  · by_cases h2 : l.n = l.all.length
    · have hA : (!decide (((endOf l.all : Nat) : Int) = IntKind.i64.wrap (((ofL l.d).size : Int) + ((ofL l.p).size : Int)))) = false := by rw [hw, h1]; simp
      have hB : (!decide (l.n = (((recsTo l.all l.all.length).length : Nat) : Int))) = false := by rw [h2, hlen]; simp
      repeat' first | refine go_seq ?_ | refine go_region ?_ | refine go_miss rfl rfl rfl ?_ | refine go_undef rfl rfl rfl ?_ | refine go_draw drawsOk ?_ | ((first | refine go_op rfl ?_ | refine go_nil ?_ | refine go_hit rfl rfl rfl ?_ | refine go_splitT rfl rfl rfl (fun h => ?_) (fun h => ?_) | refine go_splitF rfl rfl rfl (fun h => ?_) (fun h => ?_) | refine go_dop rfl ?_ | refine go_dhit rfl rfl ?_ | refine go_dmiss rfl rfl ?_ | refine go_dundef rfl rfl ?_ | refine go_dend (by kernel_rfl) ?_ | refine go_pickT rfl ?_ | refine go_pickF rfl ?_ | refine go_pick rfl (fun h => ?_) (fun h => ?_) | refine go_call [] (hr) rfl rfl rfl rfl ?_ | refine go_idx rfl rfl rfl rfl (by omega) hxr rfl ?_ | refine ⟨by rw [ofL_size, ofL_size]; omega, ?_⟩) <;> conv => whnf) | ((first | refine go_dsplit2 rfl (fun h => ?_) (fun h => ?_) | refine go_loadB ?_ | refine ⟨by kernel_rfl, ?_⟩ | refine go_ret ?_) <;> conv => whnf) | refine go_block ?_ | ((first | refine go_skip ?_ | refine go_exit ?_) <;> conv => whnf) | refine go_true rfl ?_ | refine go_false rfl ?_ | refine go_cond rfl (fun h => ?_) (fun h => ?_) | refine ⟨rfl, ?_⟩ | ((first | refine ⟨trivial, ?_⟩ | refine ⟨le_of_ble rfl, ?_⟩) <;> conv => whnf) | fail
      all_goals try (exfalso; first | (rw [hA] at h; cases h; done) | (rename_i hq; rw [hA] at hq; cases hq; done) | (rw [hB] at h; cases h; done) | (rename_i hq; rw [hB] at hq; cases hq; done))
      refine go_loop (α := Nat) (fun i => i ≤ l.all.length + 1 ∧ ∀ j, j < i → upTo l.all j ≠ l.d.length) (fun i => l.all.length + 1 - i)
        (fun i => st Tryd.f10.ntmps [(1, .box 1000 0), (36, .imm (.list (endsTo l.all l.all.length))), (37, .imm (.int .i64 (endsTo l.all l.all.length).length)), (38, .imm (.int .i64 (i : Nat)))] [(1000, .box 27 (l.enc.map .imm))] []) 0
        ⟨Nat.zero_le _, fun j hj => by omega⟩ ?_ ?_
      · exact ref_st (fun _ => nid 1 1) rfl ⟨⟨rfl, rfl⟩, rfl, rfl, rfl, trivial⟩ ⟨⟨rfl, wavs_imm l.enc⟩, trivial⟩ (by simp) rfl (by simp)
      · rintro i ⟨hi, hno⟩
        by_cases hlt : i < l.all.length + 1
        · have hx : (endsTo l.all l.all.length)[((i : Nat) : Int).toNat]? = some (intRow (upTo l.all i : Nat)) := by rw [Int.toNat_natCast]; exact ends_at _ (by omega)
          repeat' first | refine go_seq ?_ | refine go_region ?_ | refine go_miss rfl rfl rfl ?_ | refine go_undef rfl rfl rfl ?_ | refine go_draw drawsOk ?_ | ((first | refine go_op rfl ?_ | refine go_nil ?_ | refine go_hit rfl rfl rfl ?_ | refine go_splitT rfl rfl rfl (fun h => ?_) (fun h => ?_) | refine go_splitF rfl rfl rfl (fun h => ?_) (fun h => ?_) | refine go_dop rfl ?_ | refine go_dhit rfl rfl ?_ | refine go_dmiss rfl rfl ?_ | refine go_dundef rfl rfl ?_ | refine go_dend (by kernel_rfl) ?_ | refine go_pickT rfl ?_ | refine go_pickF rfl ?_ | refine go_pick rfl (fun h => ?_) (fun h => ?_) | refine go_idx rfl rfl rfl rfl (by omega) hx rfl ?_) <;> conv => whnf) | ((first | refine go_dsplit2 rfl (fun h => ?_) (fun h => ?_) | refine go_loadB ?_ | refine ⟨by kernel_rfl, ?_⟩ | refine go_ret ?_) <;> conv => whnf) | refine go_block ?_ | ((first | refine go_skip ?_ | refine go_exit ?_) <;> conv => whnf) | refine go_true rfl ?_ | refine go_false rfl ?_ | refine go_cond rfl (fun h => ?_) (fun h => ?_) | refine ⟨rfl, ?_⟩ | ((first | refine ⟨trivial, ?_⟩ | refine ⟨le_of_ble rfl, ?_⟩) <;> conv => whnf) | fail
          all_goals first
            | (exfalso; have h' := of_decide_eq_false h; omega)
            | (exfalso; have h' := of_decide_eq_true h; omega)
            | (exfalso; rename_i hq; have h' := of_decide_eq_true hq; omega)
            | (exfalso; rename_i hq; have h' := of_decide_eq_false hq; omega)
            | (exfalso; rename_i hq _; have h' := of_decide_eq_true hq; omega)
            | (exfalso; rename_i hq _; have h' := of_decide_eq_false hq; omega)
            | (have h' := of_decide_eq_true h
               rw [ofL_size] at h'
               have hv : validB l = true := hiff.2 ⟨h1, h2, i, by omega, by omega⟩
               exact ret_imm rfl rfl rfl rfl (by rw [hv]) rfl)
            | (have h' := of_decide_eq_false h
               rw [ofL_size] at h'
               exact go_next (i + 1) ⟨by omega, fun j hj => by
                 rcases Nat.lt_or_ge j i with hj' | hj'
                 · exact hno j hj'
                 · rw [show j = i by omega]; omega⟩ (by omega) (ref_st id rfl ⟨⟨rfl, rfl⟩, rfl, rfl, next_i (by omega), trivial⟩ ⟨⟨rfl, wavs_imm l.enc⟩, trivial⟩ (by simp) rfl (by simp)))
            | trace_state
        · have hv : validB l = false := by
            rw [Bool.eq_false_iff, ne_eq, hiff]
            rintro ⟨_, _, j, hj, e⟩
            exact hno j (by omega) e
          repeat' first | refine go_seq ?_ | refine go_region ?_ | refine go_miss rfl rfl rfl ?_ | refine go_undef rfl rfl rfl ?_ | refine go_draw drawsOk ?_ | ((first | refine go_op rfl ?_ | refine go_nil ?_ | refine go_hit rfl rfl rfl ?_ | refine go_splitT rfl rfl rfl (fun h => ?_) (fun h => ?_) | refine go_splitF rfl rfl rfl (fun h => ?_) (fun h => ?_) | refine go_dop rfl ?_ | refine go_dhit rfl rfl ?_ | refine go_dmiss rfl rfl ?_ | refine go_dundef rfl rfl ?_ | refine go_dend (by kernel_rfl) ?_ | refine go_pickT rfl ?_ | refine go_pickF rfl ?_ | refine go_pick rfl (fun h => ?_) (fun h => ?_)) <;> conv => whnf) | ((first | refine go_dsplit2 rfl (fun h => ?_) (fun h => ?_) | refine go_loadB ?_ | refine ⟨by kernel_rfl, ?_⟩ | refine go_ret ?_) <;> conv => whnf) | refine go_block ?_ | ((first | refine go_skip ?_ | refine go_exit ?_) <;> conv => whnf) | refine go_true rfl ?_ | refine go_false rfl ?_ | refine go_cond rfl (fun h => ?_) (fun h => ?_) | refine ⟨rfl, ?_⟩ | ((first | refine ⟨trivial, ?_⟩ | refine ⟨le_of_ble rfl, ?_⟩) <;> conv => whnf) | fail
          all_goals first
            | (exfalso; have h' := of_decide_eq_false h; omega)
            | (exfalso; have h' := of_decide_eq_true h; omega)
            | (exfalso; rename_i hq; have h' := of_decide_eq_true hq; omega)
            | (exfalso; rename_i hq; have h' := of_decide_eq_false hq; omega)
            | (exfalso; rename_i hq _; have h' := of_decide_eq_true hq; omega)
            | (exfalso; rename_i hq _; have h' := of_decide_eq_false hq; omega)
            | exact ret_imm rfl rfl rfl rfl (by rw [hv]) rfl
            | trace_state
    · have hv : validB l = false := by
        rw [Bool.eq_false_iff, ne_eq, hiff]
        rintro ⟨_, e, _⟩
        exact h2 e
      have hA : (!decide (((endOf l.all : Nat) : Int) = IntKind.i64.wrap (((ofL l.d).size : Int) + ((ofL l.p).size : Int)))) = false := by rw [hw, h1]; simp
      have hB : (!decide (l.n = (((recsTo l.all l.all.length).length : Nat) : Int))) = true := by rw [hlen]; simpa using h2
      repeat' first | refine go_seq ?_ | refine go_region ?_ | refine go_miss rfl rfl rfl ?_ | refine go_undef rfl rfl rfl ?_ | refine go_draw drawsOk ?_ | ((first | refine go_op rfl ?_ | refine go_nil ?_ | refine go_hit rfl rfl rfl ?_ | refine go_splitT rfl rfl rfl (fun h => ?_) (fun h => ?_) | refine go_splitF rfl rfl rfl (fun h => ?_) (fun h => ?_) | refine go_dop rfl ?_ | refine go_dhit rfl rfl ?_ | refine go_dmiss rfl rfl ?_ | refine go_dundef rfl rfl ?_ | refine go_dend (by kernel_rfl) ?_ | refine go_pickT rfl ?_ | refine go_pickF rfl ?_ | refine go_pick rfl (fun h => ?_) (fun h => ?_) | refine go_call [] (hr) rfl rfl rfl rfl ?_ | refine go_idx rfl rfl rfl rfl (by omega) hxr rfl ?_ | refine ⟨by rw [ofL_size, ofL_size]; omega, ?_⟩) <;> conv => whnf) | ((first | refine go_dsplit2 rfl (fun h => ?_) (fun h => ?_) | refine go_loadB ?_ | refine ⟨by kernel_rfl, ?_⟩ | refine go_ret ?_) <;> conv => whnf) | refine go_block ?_ | ((first | refine go_skip ?_ | refine go_exit ?_) <;> conv => whnf) | refine go_true rfl ?_ | refine go_false rfl ?_ | refine go_cond rfl (fun h => ?_) (fun h => ?_) | refine ⟨rfl, ?_⟩ | ((first | refine ⟨trivial, ?_⟩ | refine ⟨le_of_ble rfl, ?_⟩) <;> conv => whnf) | fail
      all_goals first
        | (exfalso; first | (rw [hA] at h; cases h; done) | (rename_i hq; rw [hA] at hq; cases hq; done) | (rw [hB] at h; cases h; done) | (rename_i hq; rw [hB] at hq; cases hq; done))
        | exact ret_imm rfl rfl rfl rfl (by rw [hv]) rfl
  · have hv : validB l = false := by
      rw [Bool.eq_false_iff, ne_eq, hiff]
      rintro ⟨e, _⟩
      exact h1 e
    have hA : (!decide (((endOf l.all : Nat) : Int) = IntKind.i64.wrap (((ofL l.d).size : Int) + ((ofL l.p).size : Int)))) = true := by rw [hw]; simp; omega
    repeat' first | refine go_seq ?_ | refine go_region ?_ | refine go_miss rfl rfl rfl ?_ | refine go_undef rfl rfl rfl ?_ | refine go_draw drawsOk ?_ | ((first | refine go_op rfl ?_ | refine go_nil ?_ | refine go_hit rfl rfl rfl ?_ | refine go_splitT rfl rfl rfl (fun h => ?_) (fun h => ?_) | refine go_splitF rfl rfl rfl (fun h => ?_) (fun h => ?_) | refine go_dop rfl ?_ | refine go_dhit rfl rfl ?_ | refine go_dmiss rfl rfl ?_ | refine go_dundef rfl rfl ?_ | refine go_dend (by kernel_rfl) ?_ | refine go_pickT rfl ?_ | refine go_pickF rfl ?_ | refine go_pick rfl (fun h => ?_) (fun h => ?_) | refine go_call [] (hr) rfl rfl rfl rfl ?_ | refine go_idx rfl rfl rfl rfl (by omega) hxr rfl ?_ | refine ⟨by rw [ofL_size, ofL_size]; omega, ?_⟩) <;> conv => whnf) | ((first | refine go_dsplit2 rfl (fun h => ?_) (fun h => ?_) | refine go_loadB ?_ | refine ⟨by kernel_rfl, ?_⟩ | refine go_ret ?_) <;> conv => whnf) | refine go_block ?_ | ((first | refine go_skip ?_ | refine go_exit ?_) <;> conv => whnf) | refine go_true rfl ?_ | refine go_false rfl ?_ | refine go_cond rfl (fun h => ?_) (fun h => ?_) | refine ⟨rfl, ?_⟩ | ((first | refine ⟨trivial, ?_⟩ | refine ⟨le_of_ble rfl, ?_⟩) <;> conv => whnf) | fail
    all_goals first
      | (exfalso; first | (rw [hA] at h; cases h; done) | (rename_i hq; rw [hA] at hq; cases hq; done))
      | exact ret_imm rfl rfl rfl rfl (by rw [hv]) rfl

theorem c8 (l : LogV) (hf : l.fit) : CallOk Tryd.prog 8 [.imm (.agg l.enc)] { res := [.imm (.bool (validB l))] } := by
  refine callOk_of tyOk Tryd.func8 rfl rfl (le_of_ble rfl) (le_of_ble rfl) (mutOk_imm rfl _) ?_
  obtain ⟨hf1, hf2⟩ := hf
  have hw : IntKind.i64.wrap (((ofL l.d).size : Int) + ((ofL l.p).size : Int)) = ((l.d.length + l.p.length : Nat) : Int) := by rw [ofL_size, ofL_size, wrap_small (by omega) (by omega)]; omega
  by_cases h0 : l.d.length + l.p.length ≤ 30000
  · have hr : CallOk Tryd.prog 12 [.imm (.str (ofL l.d ++ ofL l.p))] { res := [.arr 42 2 (recsTo l.all l.all.length), .imm (.int .i64 (endOf l.all : Nat))] } := by
      rw [ofL_app]; exact c12 (l.d ++ l.p) (by rw [List.length_append]; omega)
    have hr2 := c12 l.d (by omega)
    have hlen := recs_len (Nat.le_refl l.all.length)
    have hv : validB l = (decide (((endOf l.all : Nat) : Int) = IntKind.i64.wrap (((ofL l.d).size : Int) + ((ofL l.p).size : Int))) && (decide (((endOf (opn l.d) : Nat) : Int) = ((ofL l.d).size : Int)) && decide ((((recsTo l.all l.all.length).length : Nat) : Int) = l.n))) := by
      rw [hw, hlen, ofL_size]
      unfold validB
      rw [decide_eq_true h0, Bool.true_and]
      congr 1
      · simp only [decide_eq_decide]; omega
      · congr 1
        simp only [decide_eq_decide]; omega
    rw [hv]
    generalize hb1 : decide (((endOf l.all : Nat) : Int) = IntKind.i64.wrap (((ofL l.d).size : Int) + ((ofL l.p).size : Int))) = b1
    generalize hb2 : decide (((endOf (opn l.d) : Nat) : Int) = ((ofL l.d).size : Int)) = b2
    repeat' first | refine go_seq ?_ | refine go_region ?_ | refine go_miss rfl rfl rfl ?_ | refine go_undef rfl rfl rfl ?_ | ((first | refine go_op rfl ?_ | refine go_nil ?_ | refine go_hit rfl rfl rfl ?_ | refine go_splitT rfl rfl rfl (fun h => ?_) (fun h => ?_) | refine go_splitF rfl rfl rfl (fun h => ?_) (fun h => ?_) | refine go_pickT rfl ?_ | refine go_pickF rfl ?_ | refine go_pick rfl (fun h => ?_) (fun h => ?_) | refine go_call [] (hr) rfl rfl rfl rfl ?_ | refine go_call [] (hr2) rfl rfl rfl rfl ?_ | refine ⟨by rw [ofL_size, ofL_size]; omega, ?_⟩) <;> conv => whnf) | ((first | refine go_loadB ?_ | refine ⟨by kernel_rfl, ?_⟩ | refine go_ret ?_) <;> conv => whnf) | ((first | refine go_skip ?_) <;> conv => whnf) | refine go_true rfl ?_ | refine go_false rfl ?_ | refine go_cond rfl (fun h => ?_) (fun h => ?_) | refine ⟨rfl, ?_⟩ | ((first | refine ⟨trivial, ?_⟩ | refine ⟨le_of_ble rfl, ?_⟩) <;> conv => whnf) | fail
    all_goals first
      | (exfalso; have h' := of_decide_eq_true h; rw [hw] at h'; omega)
      | (refine ret_imm rfl rfl rfl rfl ?_ rfl; subst hb1 hb2; simp_all; done)
      | trace_state
  · have hv : validB l = false := by unfold validB; rw [decide_eq_false h0, Bool.false_and]
    repeat' first | refine go_seq ?_ | refine go_region ?_ | refine go_miss rfl rfl rfl ?_ | refine go_undef rfl rfl rfl ?_ | ((first | refine go_op rfl ?_ | refine go_nil ?_ | refine go_hit rfl rfl rfl ?_ | refine go_splitT rfl rfl rfl (fun h => ?_) (fun h => ?_) | refine go_splitF rfl rfl rfl (fun h => ?_) (fun h => ?_) | refine go_pickT rfl ?_ | refine go_pickF rfl ?_ | refine go_pick rfl (fun h => ?_) (fun h => ?_)) <;> conv => whnf) | ((first | refine go_loadB ?_ | refine ⟨by kernel_rfl, ?_⟩ | refine go_ret ?_) <;> conv => whnf) | ((first | refine go_skip ?_) <;> conv => whnf) | refine go_true rfl ?_ | refine go_false rfl ?_ | refine go_cond rfl (fun h => ?_) (fun h => ?_) | refine ⟨rfl, ?_⟩ | ((first | refine ⟨trivial, ?_⟩ | refine ⟨le_of_ble rfl, ?_⟩) <;> conv => whnf) | fail
    all_goals first
      | exact ret_imm rfl rfl rfl rfl (by rw [hv]) rfl
      | (exfalso; have h' := of_decide_eq_false h; rw [hw] at h'; omega)
      | (exfalso; rename_i hq; have h' := of_decide_eq_false hq; rw [hw] at h'; omega)
      | trace_state
end Go.Proofs.YtnndgejlkljlaaaDoor

