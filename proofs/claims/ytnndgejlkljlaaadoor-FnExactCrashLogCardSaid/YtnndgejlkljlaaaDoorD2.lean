/- The walks of sealed texts and of a record's line. -/
import Derived.Test.YtnndgejlkljlaaaDoorD1
namespace Go.Proofs.YtnndgejlkljlaaaDoor
open Go Go.Am Go.Lg
set_option maxRecDepth 100000
set_option maxHeartbeats 4000000
attribute [local irreducible] amOps amC opCall opIndexAddr opPick retQ opMake opStore amDraw opAppend opLoad opNilCmp opIndex opSlice

theorem szLit (l : List UInt8) : (ByteArray.mk (List.toArray l)).size = l.length := rfl

theorem c25 (l : List UInt8) (hl : l.length ≤ 4611686018427387000) : CallOk Tryd.prog 25 [.imm (.str (ofL l))] { res := [.imm (.str (ofL (l ++ [35] ++ num (sum l))))] } := by
  refine callOk_of tyOk Tryd.func25 rfl rfl (le_of_ble rfl) (le_of_ble rfl) (mutOk_imm rfl _) ?_
  have hlt := sum_lt l
  have hs := c31 l (by omega)
  have hn := c17 (sum l) (by omega)
  have hlen := num_len 5 (sum l) (by omega)
  repeat' first | refine go_seq ?_ | refine go_region ?_ | ((first | refine go_op rfl ?_ | refine go_nil ?_ | refine go_call [] (hs) rfl rfl rfl rfl ?_ | refine go_call [] (hn) rfl rfl rfl rfl ?_ | refine ⟨by simp only [ByteArray.size_append, ofL_size, szLit, List.length_cons, List.length_nil]; omega, ?_⟩) <;> conv => whnf) | ((first | refine ⟨by kernel_rfl, ?_⟩ | refine go_ret ?_) <;> conv => whnf) | ((first | refine go_skip ?_) <;> conv => whnf) | refine ⟨rfl, ?_⟩ | ((first | refine ⟨trivial, ?_⟩ | refine ⟨le_of_ble rfl, ?_⟩) <;> conv => whnf) | fail
  all_goals exact ret_imm rfl rfl rfl rfl (by rw [← ofL_app, ← ofL_app]; rfl) rfl

theorem head_len {k : Nat} {e : Rec} (hg : good e = true) (hk : k < 60) : (headOf k e).length ≤ 364 ∧ (num k).length ≤ 2 ∧ e.cmd.length ≤ 160 ∧ e.reply.length ≤ 200 := by
  obtain ⟨_, h2, _, _, h5, _⟩ := (good_iff e).1 hg
  have h6 := num_len 1 k (by omega)
  unfold headOf
  simp only [List.length_append, List.length_cons, List.length_nil] at *
  omega

theorem line_app (k : Nat) (e : Rec) : ofL (lineOf k e ++ [10]) = ofL (headOf k e ++ [35] ++ num (sum (headOf k e))) ++ ofL [10] := by
  rw [ofL_app]; rfl
theorem head_app (k : Nat) (e : Rec) : ofL (headOf k e) = ofL (num k) ++ ofL [32] ++ ofL e.cmd ++ ofL [64] ++ ofL e.reply := by
  simp only [ofL_app]; rfl

theorem c19 (k : Nat) (e : Rec) (hg : good e = true) (hk : k < 60) : CallOk Tryd.prog 19 [.imm (.int .i64 (k : Nat)), .imm (.agg e.enc)] { res := [.imm (.str (ofL (lineOf k e ++ [10])))] } := by
  refine callOk_of tyOk Tryd.func19 rfl rfl (le_of_ble rfl) (le_of_ble rfl) (mutOk_imm rfl _) ?_
  obtain ⟨h1, h2, h3, h4⟩ := head_len hg hk
  have hn := c17 k (by omega)
  have hs := c25 (headOf k e) (by omega)
  have hll := line_len hg hk
  rw [head_app] at hs
  have hlo : (headOf k e ++ [35] ++ num (sum (headOf k e))).length ≤ 371 := hll
  repeat' first | refine go_seq ?_ | refine go_region ?_ | refine go_draw drawsOk ?_ | ((first | refine go_op rfl ?_ | refine go_nil ?_ | refine go_dop rfl ?_ | refine go_dend (by kernel_rfl) ?_ | refine go_call [] (hn) rfl rfl rfl rfl ?_ | refine go_call [] (hs) rfl rfl rfl rfl ?_ | refine ⟨by simp only [ByteArray.size_append, ofL_size, szLit, List.length_cons, List.length_nil]; omega, ?_⟩) <;> conv => whnf) | ((first | refine go_loadB ?_ | refine ⟨by kernel_rfl, ?_⟩ | refine go_ret ?_) <;> conv => whnf) | ((first | refine go_skip ?_) <;> conv => whnf) | refine ⟨rfl, ?_⟩ | ((first | refine ⟨trivial, ?_⟩ | refine ⟨le_of_ble rfl, ?_⟩) <;> conv => whnf) | fail
  all_goals exact ret_imm rfl rfl rfl rfl (by rw [line_app]; rfl) rfl

theorem c29 (l : List UInt8) (hl : l.length ≤ 3900) (hn : (35 : UInt8) ∉ l) : CallOk Tryd.prog 29 [.imm (.str (ofL l))] { res := [.imm (.str (ofL (l ++ [35] ++ num (sum l)))), .imm (.bool true)] } := by
  refine callOk_of tyOk Tryd.func29 rfl rfl (le_of_ble rfl) (le_of_ble rfl) (mutOk_imm rfl _) ?_
  have hlt := sum_lt l
  have hs := c34 l (by omega)
  have hi := c30 (sum l) (by omega)
  have hc := c33 l 35
  rw [decide_eq_false hn] at hc
  have hlen := num_len 5 (sum l) (by omega)
  have hsz := ofL_size l
  have hz : (ofL l ++ ofL [35] ++ ofL (num (sum l))).size ≤ 4000 := by
    simp only [ByteArray.size_append, ofL_size, List.length_cons, List.length_nil]; omega
  repeat' first | refine go_seq ?_ | refine go_region ?_ | refine go_miss rfl rfl rfl ?_ | refine go_undef rfl rfl rfl ?_ | ((first | refine go_op rfl ?_ | refine go_nil ?_ | refine go_hit rfl rfl rfl ?_ | refine go_splitT rfl rfl rfl (fun h => ?_) (fun h => ?_) | refine go_splitF rfl rfl rfl (fun h => ?_) (fun h => ?_) | refine go_pickT rfl ?_ | refine go_pickF rfl ?_ | refine go_pick rfl (fun h => ?_) (fun h => ?_) | refine go_call [] (hs) rfl rfl rfl rfl ?_ | refine go_call [] (hi) rfl rfl rfl rfl ?_ | refine go_call [] (hc) rfl rfl rfl rfl ?_ | refine ⟨by simp only [ByteArray.size_append, ofL_size, szLit, List.length_cons, List.length_nil]; omega, ?_⟩) <;> conv => whnf) | ((first | refine ⟨by kernel_rfl, ?_⟩ | refine go_ret ?_) <;> conv => whnf) | ((first | refine go_skip ?_) <;> conv => whnf) | refine go_true rfl ?_ | refine go_false rfl ?_ | refine go_cond rfl (fun h => ?_) (fun h => ?_) | refine ⟨rfl, ?_⟩ | ((first | refine ⟨trivial, ?_⟩ | refine ⟨le_of_ble rfl, ?_⟩) <;> conv => whnf) | fail
  all_goals first
    | (exfalso; simp at h; omega)
    | (exfalso; have h' := of_decide_eq_true h; have : ((ofL l ++ ofL [35] ++ ofL (num (sum l))).size : Int) > 4000 := h'; omega)
    | exact ret_imm2 rfl rfl rfl rfl rfl (by rw [← ofL_app, ← ofL_app]; rfl) rfl rfl
    | trace_state

theorem c22 (k : Nat) (e : Rec) (hg : good e = true) (hk : k < 60) : CallOk Tryd.prog 22 [.imm (.int .i64 (k : Nat)), .imm (.agg e.enc)] { res := [.imm (.str (ofL (lineOf k e ++ [10])))] } := by
  refine callOk_of tyOk Tryd.func22 rfl rfl (le_of_ble rfl) (le_of_ble rfl) (mutOk_imm rfl _) ?_
  obtain ⟨h1, h2, h3, h4⟩ := head_len hg hk
  have hn := c30 k (by omega)
  have hs := c29 (headOf k e) (by omega) (head_no35 hg)
  have hll := line_len hg hk
  rw [head_app] at hs
  have hlo : (headOf k e ++ [35] ++ num (sum (headOf k e))).length ≤ 371 := hll
  repeat' first | refine go_seq ?_ | refine go_region ?_ | refine go_draw drawsOk ?_ | ((first | refine go_op rfl ?_ | refine go_nil ?_ | refine go_dop rfl ?_ | refine go_dend (by kernel_rfl) ?_ | refine go_call [] (hn) rfl rfl rfl rfl ?_ | refine go_call [] (hs) rfl rfl rfl rfl ?_ | refine ⟨by simp only [ByteArray.size_append, ofL_size, szLit, List.length_cons, List.length_nil]; omega, ?_⟩) <;> conv => whnf) | ((first | refine go_loadB ?_ | refine ⟨by kernel_rfl, ?_⟩ | refine go_ret ?_) <;> conv => whnf) | ((first | refine go_skip ?_) <;> conv => whnf) | refine ⟨rfl, ?_⟩ | ((first | refine ⟨trivial, ?_⟩ | refine ⟨le_of_ble rfl, ?_⟩) <;> conv => whnf) | fail
  all_goals exact ret_imm rfl rfl rfl rfl (by rw [line_app]; rfl) rfl
end Go.Proofs.YtnndgejlkljlaaaDoor

