/- The walks of sealed texts and of a record's line. -/
import Derived.Test.YtjebblagiiajaaaDoorD1
namespace Go.Proofs.YtjebblagiiajaaaDoor
open Go Go.Am Go.Lg
set_option maxRecDepth 100000
set_option maxHeartbeats 4000000
attribute [local irreducible] amOps amC opCall opIndexAddr opPick retQ opMake opStore amDraw opAppend opLoad opNilCmp opIndex opSlice

theorem szLit (l : List UInt8) : (ByteArray.mk (List.toArray l)).size = l.length := rfl

theorem c45 (l : List UInt8) (hl : l.length ≤ 4611686018427387000) : CallOk Tryd.prog 45 [.imm (.str (ofL l))] { res := [.imm (.str (ofL (l ++ [35] ++ num (sum l))))] } := by
  refine callOk_of tyOk Tryd.func45 rfl rfl (le_of_ble rfl) (le_of_ble rfl) (mutOk_imm rfl _) ?_
  have hlt := sum_lt l
  have hs := c54 l (by omega)
  have hn := c46 (sum l) (by omega)
  have hlen := num_len 5 (sum l) (by omega)
  repeat' first
    | refine go_seq ?_
    | refine go_region ?_
    | (refine go_op rfl ?_; conv => whnf)
    | (refine go_nil ?_; conv => whnf)
    | (refine go_hit rfl rfl rfl ?_; conv => whnf)
    | (refine go_miss rfl rfl rfl ?_)
    | (refine go_undef rfl rfl rfl ?_)
    | (refine go_splitT rfl rfl rfl (fun h => ?_) (fun h => ?_) <;> conv => whnf)
    | (refine go_splitF rfl rfl rfl (fun h => ?_) (fun h => ?_) <;> conv => whnf)
    | (refine go_storeBox rfl rfl rfl rfl rfl rfl ?_; conv => whnf)
    | (refine go_dop rfl ?_; conv => whnf)
    | (refine go_dhit rfl rfl ?_; conv => whnf)
    | (refine go_dmiss rfl rfl ?_; conv => whnf)
    | (refine go_dundef rfl rfl ?_; conv => whnf)
    | (refine go_dend (by kernel_rfl) ?_; conv => whnf)
    | refine go_draw drawsOk ?_
    | (refine go_pickT rfl ?_; conv => whnf)
    | (refine go_pickF rfl ?_; conv => whnf)
    | (refine go_pick rfl (fun h => ?_) (fun h => ?_) <;> conv => whnf)
    | (refine go_call [] (hs) rfl rfl rfl rfl ?_; conv => whnf)
    | (refine go_call [] (hn) rfl rfl rfl rfl ?_; conv => whnf)
    | (refine ⟨by simp only [ByteArray.size_append, ofL_size, szLit, List.length_cons, List.length_nil]; omega, ?_⟩; conv => whnf)
    | (refine go_dsplit2 rfl (fun h => ?_) (fun h => ?_) <;> conv => whnf)
    | (refine go_loadB ?_; conv => whnf)
    | (refine ⟨by kernel_rfl, ?_⟩; conv => whnf)
    | (refine go_ret ?_; conv => whnf)
    | refine go_block ?_
    | (refine go_skip ?_; conv => whnf)
    | (refine go_exit ?_; conv => whnf)
    | refine go_true rfl ?_
    | refine go_false rfl ?_
    | refine go_cond rfl (fun h => ?_) (fun h => ?_)
    | refine ⟨rfl, ?_⟩
    | (refine ⟨trivial, ?_⟩; conv => whnf)
    | (refine ⟨le_of_ble rfl, ?_⟩; conv => whnf)
    | fail
  all_goals exact ret_imm rfl rfl rfl rfl (by rw [← ofL_app, ← ofL_app]; rfl) rfl

theorem head_len {k : Nat} {e : Rec} (hg : good e = true) (hk : k < 60) : (headOf k e).length ≤ 364 ∧ (num k).length ≤ 2 ∧ e.cmd.length ≤ 160 ∧ e.reply.length ≤ 200 := by
  obtain ⟨_, h2, _, _, h5, _⟩ := (good_iff e).1 hg
  have h6 := num_len 1 k (by omega)
  unfold headOf
  simp only [List.length_append, List.length_cons, List.length_nil] at *
  omega

theorem line_app (k : Nat) (e : Rec) : ofL (lineOf k e ++ [10]) = ofL (headOf k e ++ [35] ++ num (sum (headOf k e))) ++ ofL [10] := by
  rw [ofL_app]; rfl
theorem head_app (k : Nat) (e : Rec) : ofL (headOf k e) = ofL (num k) ++ ofL [32] ++ ofL e.cmd ++ ofL [64] ++ ofL e.reply := by
  simp only [ofL_app]; rfl

theorem c34 (k : Nat) (e : Rec) (hg : good e = true) (hk : k < 60) : CallOk Tryd.prog 34 [.imm (.int .i64 (k : Nat)), .imm (.agg e.enc)] { res := [.imm (.str (ofL (lineOf k e ++ [10])))] } := by
  refine callOk_of tyOk Tryd.func34 rfl rfl (le_of_ble rfl) (le_of_ble rfl) (mutOk_imm rfl _) ?_
  obtain ⟨h1, h2, h3, h4⟩ := head_len hg hk
  have hn := c46 k (by omega)
  have hs := c45 (headOf k e) (by omega)
  have hll := line_len hg hk
  rw [head_app] at hs
  have hlo : (headOf k e ++ [35] ++ num (sum (headOf k e))).length ≤ 371 := hll
  repeat' first
    | refine go_seq ?_
    | refine go_region ?_
    | (refine go_op rfl ?_; conv => whnf)
    | (refine go_nil ?_; conv => whnf)
    | (refine go_hit rfl rfl rfl ?_; conv => whnf)
    | (refine go_miss rfl rfl rfl ?_)
    | (refine go_undef rfl rfl rfl ?_)
    | (refine go_splitT rfl rfl rfl (fun h => ?_) (fun h => ?_) <;> conv => whnf)
    | (refine go_splitF rfl rfl rfl (fun h => ?_) (fun h => ?_) <;> conv => whnf)
    | (refine go_storeBox rfl rfl rfl rfl rfl rfl ?_; conv => whnf)
    | (refine go_dop rfl ?_; conv => whnf)
    | (refine go_dhit rfl rfl ?_; conv => whnf)
    | (refine go_dmiss rfl rfl ?_; conv => whnf)
    | (refine go_dundef rfl rfl ?_; conv => whnf)
    | (refine go_dend (by kernel_rfl) ?_; conv => whnf)
    | refine go_draw drawsOk ?_
    | (refine go_pickT rfl ?_; conv => whnf)
    | (refine go_pickF rfl ?_; conv => whnf)
    | (refine go_pick rfl (fun h => ?_) (fun h => ?_) <;> conv => whnf)
    | (refine go_call [] (hn) rfl rfl rfl rfl ?_; conv => whnf)
    | (refine go_call [] (hs) rfl rfl rfl rfl ?_; conv => whnf)
    | (refine ⟨by simp only [ByteArray.size_append, ofL_size, szLit, List.length_cons, List.length_nil]; omega, ?_⟩; conv => whnf)
    | (refine go_dsplit2 rfl (fun h => ?_) (fun h => ?_) <;> conv => whnf)
    | (refine go_loadB ?_; conv => whnf)
    | (refine ⟨by kernel_rfl, ?_⟩; conv => whnf)
    | (refine go_ret ?_; conv => whnf)
    | refine go_block ?_
    | (refine go_skip ?_; conv => whnf)
    | (refine go_exit ?_; conv => whnf)
    | refine go_true rfl ?_
    | refine go_false rfl ?_
    | refine go_cond rfl (fun h => ?_) (fun h => ?_)
    | refine ⟨rfl, ?_⟩
    | (refine ⟨trivial, ?_⟩; conv => whnf)
    | (refine ⟨le_of_ble rfl, ?_⟩; conv => whnf)
    | fail
  all_goals exact ret_imm rfl rfl rfl rfl (by rw [line_app]; rfl) rfl

theorem c49 (l : List UInt8) (hl : l.length ≤ 3900) (hn : (35 : UInt8) ∉ l) : CallOk Tryd.prog 49 [.imm (.str (ofL l))] { res := [.imm (.str (ofL (l ++ [35] ++ num (sum l)))), .imm (.bool true)] } := by
  refine callOk_of tyOk Tryd.func49 rfl rfl (le_of_ble rfl) (le_of_ble rfl) (mutOk_imm rfl _) ?_
  have hlt := sum_lt l
  have hs := c56 l (by omega)
  have hi := c50 (sum l) (by omega)
  have hc := c55 l 35
  rw [decide_eq_false hn] at hc
  have hlen := num_len 5 (sum l) (by omega)
  have hsz := ofL_size l
  have hz : (ofL l ++ ofL [35] ++ ofL (num (sum l))).size ≤ 4000 := by
    simp only [ByteArray.size_append, ofL_size, List.length_cons, List.length_nil]; omega
  repeat' first
    | refine go_seq ?_
    | refine go_region ?_
    | (refine go_op rfl ?_; conv => whnf)
    | (refine go_nil ?_; conv => whnf)
    | (refine go_hit rfl rfl rfl ?_; conv => whnf)
    | (refine go_miss rfl rfl rfl ?_)
    | (refine go_undef rfl rfl rfl ?_)
    | (refine go_splitT rfl rfl rfl (fun h => ?_) (fun h => ?_) <;> conv => whnf)
    | (refine go_splitF rfl rfl rfl (fun h => ?_) (fun h => ?_) <;> conv => whnf)
    | (refine go_storeBox rfl rfl rfl rfl rfl rfl ?_; conv => whnf)
    | (refine go_dop rfl ?_; conv => whnf)
    | (refine go_dhit rfl rfl ?_; conv => whnf)
    | (refine go_dmiss rfl rfl ?_; conv => whnf)
    | (refine go_dundef rfl rfl ?_; conv => whnf)
    | (refine go_dend (by kernel_rfl) ?_; conv => whnf)
    | refine go_draw drawsOk ?_
    | (refine go_pickT rfl ?_; conv => whnf)
    | (refine go_pickF rfl ?_; conv => whnf)
    | (refine go_pick rfl (fun h => ?_) (fun h => ?_) <;> conv => whnf)
    | (refine go_call [] (hs) rfl rfl rfl rfl ?_; conv => whnf)
    | (refine go_call [] (hi) rfl rfl rfl rfl ?_; conv => whnf)
    | (refine go_call [] (hc) rfl rfl rfl rfl ?_; conv => whnf)
    | (refine ⟨by simp only [ByteArray.size_append, ofL_size, szLit, List.length_cons, List.length_nil]; omega, ?_⟩; conv => whnf)
    | (refine go_dsplit2 rfl (fun h => ?_) (fun h => ?_) <;> conv => whnf)
    | (refine go_loadB ?_; conv => whnf)
    | (refine ⟨by kernel_rfl, ?_⟩; conv => whnf)
    | (refine go_ret ?_; conv => whnf)
    | refine go_block ?_
    | (refine go_skip ?_; conv => whnf)
    | (refine go_exit ?_; conv => whnf)
    | refine go_true rfl ?_
    | refine go_false rfl ?_
    | refine go_cond rfl (fun h => ?_) (fun h => ?_)
    | refine ⟨rfl, ?_⟩
    | (refine ⟨trivial, ?_⟩; conv => whnf)
    | (refine ⟨le_of_ble rfl, ?_⟩; conv => whnf)
    | fail
  all_goals first
    | (exfalso; simp at h; omega)
    | (exfalso; have h' := of_decide_eq_true h; have : ((ofL l ++ ofL [35] ++ ofL (num (sum l))).size : Int) > 4000 := h'; omega)
    | exact ret_imm2 rfl rfl rfl rfl rfl (by rw [← ofL_app, ← ofL_app]; rfl) rfl rfl
    | trace_state

theorem c37 (k : Nat) (e : Rec) (hg : good e = true) (hk : k < 60) : CallOk Tryd.prog 37 [.imm (.int .i64 (k : Nat)), .imm (.agg e.enc)] { res := [.imm (.str (ofL (lineOf k e ++ [10])))] } := by
  refine callOk_of tyOk Tryd.func37 rfl rfl (le_of_ble rfl) (le_of_ble rfl) (mutOk_imm rfl _) ?_
  obtain ⟨h1, h2, h3, h4⟩ := head_len hg hk
  have hn := c50 k (by omega)
  have hs := c49 (headOf k e) (by omega) (head_no35 hg)
  have hll := line_len hg hk
  rw [head_app] at hs
  have hlo : (headOf k e ++ [35] ++ num (sum (headOf k e))).length ≤ 371 := hll
  repeat' first
    | refine go_seq ?_
    | refine go_region ?_
    | (refine go_op rfl ?_; conv => whnf)
    | (refine go_nil ?_; conv => whnf)
    | (refine go_hit rfl rfl rfl ?_; conv => whnf)
    | (refine go_miss rfl rfl rfl ?_)
    | (refine go_undef rfl rfl rfl ?_)
    | (refine go_splitT rfl rfl rfl (fun h => ?_) (fun h => ?_) <;> conv => whnf)
    | (refine go_splitF rfl rfl rfl (fun h => ?_) (fun h => ?_) <;> conv => whnf)
    | (refine go_storeBox rfl rfl rfl rfl rfl rfl ?_; conv => whnf)
    | (refine go_dop rfl ?_; conv => whnf)
    | (refine go_dhit rfl rfl ?_; conv => whnf)
    | (refine go_dmiss rfl rfl ?_; conv => whnf)
    | (refine go_dundef rfl rfl ?_; conv => whnf)
    | (refine go_dend (by kernel_rfl) ?_; conv => whnf)
    | refine go_draw drawsOk ?_
    | (refine go_pickT rfl ?_; conv => whnf)
    | (refine go_pickF rfl ?_; conv => whnf)
    | (refine go_pick rfl (fun h => ?_) (fun h => ?_) <;> conv => whnf)
    | (refine go_call [] (hn) rfl rfl rfl rfl ?_; conv => whnf)
    | (refine go_call [] (hs) rfl rfl rfl rfl ?_; conv => whnf)
    | (refine ⟨by simp only [ByteArray.size_append, ofL_size, szLit, List.length_cons, List.length_nil]; omega, ?_⟩; conv => whnf)
    | (refine go_dsplit2 rfl (fun h => ?_) (fun h => ?_) <;> conv => whnf)
    | (refine go_loadB ?_; conv => whnf)
    | (refine ⟨by kernel_rfl, ?_⟩; conv => whnf)
    | (refine go_ret ?_; conv => whnf)
    | refine go_block ?_
    | (refine go_skip ?_; conv => whnf)
    | (refine go_exit ?_; conv => whnf)
    | refine go_true rfl ?_
    | refine go_false rfl ?_
    | refine go_cond rfl (fun h => ?_) (fun h => ?_)
    | refine ⟨rfl, ?_⟩
    | (refine ⟨trivial, ?_⟩; conv => whnf)
    | (refine ⟨le_of_ble rfl, ?_⟩; conv => whnf)
    | fail
  all_goals exact ret_imm rfl rfl rfl rfl (by rw [line_app]; rfl) rfl
end Go.Proofs.YtjebblagiiajaaaDoor

