/- The walks of a row's text (out of r7/K5). -/
import Derived.Test.YtkfdhhljjeihgaaGreatDoorKD
import Derived.Test.YtkfdhhljjeihgaaGreatDoorAmW
namespace Go.Proofs.YtkfdhhljjeihgaaGreatDoor
open Go Go.Am
set_option maxRecDepth 100000
set_option maxHeartbeats 4000000
attribute [local irreducible] amOps amC opCall opIndexAddr opPick retQ opMake opStore amDraw opAppend opLoad opNilCmp opIndex opSlice

/-- A text with spaces up to a width. -/
def padL (l : List UInt8) (k : Nat) : List UInt8 := l ++ List.replicate (k - l.length) 32
theorem padL_len (l : List UInt8) (k : Nat) : (padL l k).length = l.length + (k - l.length) := by simp [padL]

theorem c86 (c : Nat) (hc : c ≤ 1048576) : CallOk Tryz.prog 86 [.imm (.str (ofL [32])), .imm (.int .i64 (c : Int))] { res := [.imm (.str (ofL (List.replicate c 32)))] } :=
  callOk_repeat1 (ρ := lays105_ren) lays105 Builder_Extra_105 ⟨_, Tryz.func86, rfl, rfl⟩ 32 c hc

theorem c67 (l : List UInt8) (k : Nat) (hl : l.length ≤ 1000) (hk : k ≤ 1000) : CallOk Tryz.prog 67 [.imm (.str (ofL l)), .imm (.int .i64 (k : Nat))] { res := [.imm (.str (ofL (padL l k)))] } := by
  refine callOk_of tyOk Tryz.func67 rfl rfl (le_of_ble rfl) (le_of_ble rfl) (mutOk_imm rfl _) ?_
  have hsz : ((ofL l).size : Int) = l.length := by rw [ofL_size]
  have hw : IntKind.i64.wrap ((k : Int) - ((ofL l).size : Int)) = (k : Int) - l.length := by rw [hsz, wrap_small (by omega) (by omega)]
  have he : (if IntKind.i64.wrap ((k : Int) - ((ofL l).size : Int)) > 0 then IntKind.i64.wrap ((k : Int) - ((ofL l).size : Int)) else 0) = ((k - l.length : Nat) : Int) := by
    rw [hw]; split <;> omega
  have hc : CallOk Tryz.prog 86 [.imm (.str (ofL [32])), .imm (.int .i64 (if IntKind.i64.wrap ((k : Int) - ((ofL l).size : Int)) > 0 then IntKind.i64.wrap ((k : Int) - ((ofL l).size : Int)) else 0))] { res := [.imm (.str (ofL (List.replicate (k - l.length) 32)))] } := by
    rw [he]; exact c86 _ (by omega)
  repeat' first | refine go_seq ?_ | refine go_region ?_ | ((first | refine go_op rfl ?_ | refine go_nil ?_ | refine go_call [] (hc) rfl rfl rfl rfl ?_ | refine ⟨by simp only [ofL_size, List.length_replicate]; omega, ?_⟩) <;> conv => whnf) | ((first | refine ⟨by kernel_rfl, ?_⟩ | refine go_ret ?_) <;> conv => whnf) | ((first | refine go_skip ?_) <;> conv => whnf) | refine ⟨rfl, ?_⟩ | ((first | refine ⟨trivial, ?_⟩ | refine ⟨le_of_ble rfl, ?_⟩) <;> conv => whnf) | fail
  all_goals exact ret_imm rfl rfl rfl rfl (by rw [ofL_app]; rfl) rfl

theorem c33 (l : List UInt8) (k : Nat) (hl : l.length ≤ 1000) (hk : k ≤ 1000) : CallOk Tryz.prog 33 [.imm (.str (ofL l)), .imm (.int .i64 (k : Nat))] { res := [.imm (.str (ofL (padL l k)))] } := by
  refine callOk_of tyOk Tryz.func33 rfl rfl (le_of_ble rfl) (le_of_ble rfl) (mutOk_imm rfl _) ?_
  repeat' first | refine go_seq ?_ | refine go_region ?_ | ((first | refine go_op rfl ?_ | refine go_nil ?_) <;> conv => whnf) | ((first | refine ⟨by kernel_rfl, ?_⟩ | refine go_ret ?_) <;> conv => whnf) | refine go_block ?_ | ((first | refine go_skip ?_ | refine go_exit ?_) <;> conv => whnf) | refine go_true rfl ?_ | refine go_false rfl ?_ | refine go_cond rfl (fun h => ?_) (fun h => ?_) | refine ⟨rfl, ?_⟩ | ((first | refine ⟨trivial, ?_⟩ | refine ⟨le_of_ble rfl, ?_⟩) <;> conv => whnf) | fail
  refine go_loop (α := Nat) (fun i => i ≤ k - l.length) (fun i => k - l.length - i)
    (fun i => st Tryz.f33.ntmps [(0, .imm (.str (ofL (l ++ List.replicate i 32)))), (1, .imm (.int .i64 (k : Nat)))] [] []) 0 (Nat.zero_le _) (ref_st0 rfl ⟨?_, rfl, trivial⟩ rfl) ?_
  · show AV.imm _ = AV.imm _
    rw [List.replicate_zero, List.append_nil]
  intro i hi
  have hsz : ((ofL (l ++ List.replicate i 32)).size : Int) = l.length + i := by rw [ofL_size, List.length_append, List.length_replicate]; omega
  by_cases he : i < k - l.length
  · skip
    repeat' first | refine go_seq ?_ | refine go_region ?_ | ((first | refine go_op rfl ?_ | refine go_nil ?_ | refine ⟨by rw [ofL_size, List.length_append, List.length_replicate]; show l.length + i + 1 ≤ _; omega, ?_⟩) <;> conv => whnf) | ((first | refine ⟨by kernel_rfl, ?_⟩ | refine go_ret ?_) <;> conv => whnf) | refine go_block ?_ | ((first | refine go_skip ?_ | refine go_exit ?_) <;> conv => whnf) | refine go_true rfl ?_ | refine go_false rfl ?_ | refine go_cond rfl (fun h => ?_) (fun h => ?_) | refine ⟨rfl, ?_⟩ | ((first | refine ⟨trivial, ?_⟩ | refine ⟨le_of_ble rfl, ?_⟩) <;> conv => whnf) | fail
    all_goals first
      | (refine go_next (i + 1) (by omega) (by omega) (ref_st0 rfl ⟨?_, rfl, trivial⟩ rfl)
         show AV.imm (.str (ofL _ ++ ofL [32])) = AV.imm _
         rw [ofL_app, List.append_assoc, ← List.replicate_succ']
         done)
      | (exfalso; have h' := of_decide_eq_false h; rw [hsz] at h'; omega)
      | trace_state
  · have hi' : i = k - l.length := by omega
    subst hi'
    repeat' first | refine go_seq ?_ | refine go_region ?_ | ((first | refine go_op rfl ?_ | refine go_nil ?_ | refine ⟨by rw [ofL_size, List.length_append, List.length_replicate]; show l.length + (k - l.length) + 1 ≤ _; omega, ?_⟩) <;> conv => whnf) | ((first | refine ⟨by kernel_rfl, ?_⟩ | refine go_ret ?_) <;> conv => whnf) | refine go_block ?_ | ((first | refine go_skip ?_ | refine go_exit ?_) <;> conv => whnf) | refine go_true rfl ?_ | refine go_false rfl ?_ | refine go_cond rfl (fun h => ?_) (fun h => ?_) | refine ⟨rfl, ?_⟩ | ((first | refine ⟨trivial, ?_⟩ | refine ⟨le_of_ble rfl, ?_⟩) <;> conv => whnf) | fail
    all_goals first
      | (exfalso; have h' := of_decide_eq_true h; rw [hsz] at h'; omega)
      | exact ret_imm rfl rfl rfl rfl rfl rfl
      | trace_state

/-- The text of a row. -/
def rowHead (r : BoardRow) : List UInt8 := clockL r.time.toNat ++ [32] ++ padL (bytes r.line) 8 ++ [32] ++ padL (bytes r.dest) 8 ++ [32]
def rowDue (r : BoardRow) (now : Int) : List UInt8 := if r.time + r.delay - now = 0 then [110, 111, 119] else if r.time + r.delay - now < 60 then numT (r.time + r.delay - now).toNat ++ [32, 109, 105, 110] else []
def rowT (r : BoardRow) (now : Int) : List UInt8 := padL (rowHead r ++ rowDue r now) 30
/-- What is asked of a row and the time. -/
def RowFit (r : BoardRow) (now : Int) : Prop := (0 ≤ r.time ∧ r.time ≤ 5999) ∧ (0 ≤ r.delay ∧ r.delay ≤ 600) ∧ (bytes r.line).length ≤ 8 ∧ (bytes r.dest).length ≤ 8 ∧ (0 ≤ now ∧ now ≤ 1799) ∧ now ≤ r.time + r.delay

theorem c43 (r : BoardRow) (now : Int) (hrf : RowFit r now) : CallOk Tryz.prog 43 [.imm (.agg r.enc), .imm (.int .i64 now)] { res := [.imm (.str (ofL (rowT r now)))] } := by
  refine callOk_of tyOk Tryz.func43 rfl rfl (le_of_ble rfl) (le_of_ble rfl) (mutOk_imm rfl _) ?_
  obtain ⟨⟨ht0, ht1⟩, ⟨hd0, hd1⟩, hl8, hm8, ⟨hn0, hn1⟩, hle⟩ := hrf
  have hcl : CallOk Tryz.prog 66 [.imm (.int .i64 r.time)] { res := [.imm (.str (ofL (clockL r.time.toNat)))] } := by
    have := c66 r.time.toNat (by omega)
    rwa [Int.toNat_of_nonneg ht0] at this
  have hp1 : CallOk Tryz.prog 67 [.imm (.str r.line), .imm (.int .i64 8)] { res := [.imm (.str (ofL (padL (bytes r.line) 8)))] } := c67 (bytes r.line) 8 (by omega) (by omega)
  have hp2 : CallOk Tryz.prog 67 [.imm (.str r.dest), .imm (.int .i64 8)] { res := [.imm (.str (ofL (padL (bytes r.dest) 8)))] } := c67 (bytes r.dest) 8 (by omega) (by omega)
  have hw1 : IntKind.i64.wrap (r.time + r.delay) = r.time + r.delay := wrap_small (by omega) (by omega)
  have hw2 : IntKind.i64.wrap (IntKind.i64.wrap (r.time + r.delay) - now) = r.time + r.delay - now := by rw [hw1]; exact wrap_small (by omega) (by omega)
  have hc5 : (clockL r.time.toNat).length = 5 := rfl
  have hq1 := padL_len (bytes r.line) 8
  have hq2 := padL_len (bytes r.dest) 8
  by_cases h0 : r.time + r.delay - now = 0
  · have hdue : rowDue r now = [110, 111, 119] := by unfold rowDue; rw [if_pos h0]
    have hE : ofL (clockL r.time.toNat) ++ ofL [32] ++ ofL (padL (bytes r.line) 8) ++ ofL [32] ++ ofL (padL (bytes r.dest) 8) ++ ofL [32] ++ ofL [110, 111, 119] = ofL (rowHead r ++ rowDue r now) := by
      rw [hdue]; unfold rowHead; simp only [ofL_app, List.append_assoc]
    have hp3 : CallOk Tryz.prog 67 [.imm (.str (ofL (clockL r.time.toNat) ++ ofL [32] ++ ofL (padL (bytes r.line) 8) ++ ofL [32] ++ ofL (padL (bytes r.dest) 8) ++ ofL [32] ++ ofL [110, 111, 119])), .imm (.int .i64 30)] { res := [.imm (.str (ofL (rowT r now)))] } := by
      rw [hE]
      exact c67 _ 30 (by rw [hdue]; unfold rowHead; simp only [List.length_append, List.length_cons, List.length_nil, hc5, hq1, hq2]; omega) (by omega)
    have hdec : decide (IntKind.i64.wrap (IntKind.i64.wrap (r.time + r.delay) - now) = 0) = true := by rw [hw2]; exact decide_eq_true h0
    repeat' first | refine go_seq ?_ | refine go_region ?_ | refine go_draw drawsOk ?_ | ((first | refine go_op rfl ?_ | refine go_nil ?_ | refine go_dop rfl ?_ | refine go_dend (by kernel_rfl) ?_ | refine go_call [] (hcl) rfl rfl rfl rfl ?_ | refine go_call [] (hp1) rfl rfl rfl rfl ?_ | refine go_call [] (hp2) rfl rfl rfl rfl ?_ | refine go_call [] (hp3) rfl rfl rfl rfl ?_ | refine ⟨by simp only [ByteArray.size_append, ofL_size, szLit, List.length_cons, List.length_nil, hc5, hq1, hq2]; omega, ?_⟩) <;> conv => whnf) | ((first | refine go_loadB ?_ | refine ⟨by kernel_rfl, ?_⟩ | refine go_ret ?_) <;> conv => whnf) | refine go_block ?_ | ((first | refine go_skip ?_ | refine go_exit ?_) <;> conv => whnf) | refine go_true rfl ?_ | refine go_false rfl ?_ | refine go_cond rfl (fun h => ?_) (fun h => ?_) | refine ⟨rfl, ?_⟩ | ((first | refine ⟨trivial, ?_⟩ | refine ⟨le_of_ble rfl, ?_⟩) <;> conv => whnf) | fail
    all_goals first
      | exact ret_imm rfl rfl rfl rfl rfl rfl
      | (exfalso; rw [hdec] at h; cases h; done)
      | (exfalso; rename_i hq; rw [hdec] at hq; cases hq; done)
      | trace_state
  · have hdec : decide (IntKind.i64.wrap (IntKind.i64.wrap (r.time + r.delay) - now) = 0) = false := by rw [hw2]; exact decide_eq_false h0
    by_cases h60 : r.time + r.delay - now < 60
    · have hnn : ((r.time + r.delay - now).toNat : Int) = r.time + r.delay - now := Int.toNat_of_nonneg (by omega)
      have hnum : CallOk Tryz.prog 68 [.imm (.int .i64 (IntKind.i64.wrap (IntKind.i64.wrap (r.time + r.delay) - now)))] { res := [.imm (.str (ofL (numT (r.time + r.delay - now).toNat)))] } := by
        have := c68 (r.time + r.delay - now).toNat (by omega)
        rw [hnn] at this
        rw [hw2]
        exact this
      have hnl : (numT (r.time + r.delay - now).toNat).length ≤ 19 := by
        have := Lg.num_len 18 (r.time + r.delay - now).toNat (by omega)
        exact Nat.le_trans this (by omega)
      have hdue : rowDue r now = numT (r.time + r.delay - now).toNat ++ [32, 109, 105, 110] := by unfold rowDue; rw [if_neg h0, if_pos h60]
      have hE : ofL (clockL r.time.toNat) ++ ofL [32] ++ ofL (padL (bytes r.line) 8) ++ ofL [32] ++ ofL (padL (bytes r.dest) 8) ++ ofL [32] ++ (ofL (numT (r.time + r.delay - now).toNat) ++ ofL [32, 109, 105, 110]) = ofL (rowHead r ++ rowDue r now) := by
        rw [hdue]; unfold rowHead; simp only [ofL_app, List.append_assoc]
      have hp3 : CallOk Tryz.prog 67 [.imm (.str (ofL (clockL r.time.toNat) ++ ofL [32] ++ ofL (padL (bytes r.line) 8) ++ ofL [32] ++ ofL (padL (bytes r.dest) 8) ++ ofL [32] ++ (ofL (numT (r.time + r.delay - now).toNat) ++ ofL [32, 109, 105, 110]))), .imm (.int .i64 30)] { res := [.imm (.str (ofL (rowT r now)))] } := by
        rw [hE]
        exact c67 _ 30 (by rw [hdue]; unfold rowHead; simp only [List.length_append, List.length_cons, List.length_nil, hc5, hq1, hq2]; omega) (by omega)
      have hdec2 : decide (IntKind.i64.wrap (IntKind.i64.wrap (r.time + r.delay) - now) < 60) = true := by rw [hw2]; exact decide_eq_true h60
      repeat' first | refine go_seq ?_ | refine go_region ?_ | refine go_draw drawsOk ?_ | ((first | refine go_op rfl ?_ | refine go_nil ?_ | refine go_dop rfl ?_ | refine go_dend (by kernel_rfl) ?_ | refine go_call [] (hcl) rfl rfl rfl rfl ?_ | refine go_call [] (hp1) rfl rfl rfl rfl ?_ | refine go_call [] (hp2) rfl rfl rfl rfl ?_ | refine go_call [] (hp3) rfl rfl rfl rfl ?_ | refine go_call [] (hnum) rfl rfl rfl rfl ?_ | refine ⟨by simp only [ByteArray.size_append, ofL_size, szLit, List.length_cons, List.length_nil, hc5, hq1, hq2]; omega, ?_⟩) <;> conv => whnf) | ((first | refine go_loadB ?_ | refine ⟨by kernel_rfl, ?_⟩ | refine go_ret ?_) <;> conv => whnf) | refine go_block ?_ | ((first | refine go_skip ?_ | refine go_exit ?_) <;> conv => whnf) | refine go_true rfl ?_ | refine go_false rfl ?_ | refine go_cond rfl (fun h => ?_) (fun h => ?_) | refine ⟨rfl, ?_⟩ | ((first | refine ⟨trivial, ?_⟩ | refine ⟨le_of_ble rfl, ?_⟩) <;> conv => whnf) | fail
      all_goals first
        | exact ret_imm rfl rfl rfl rfl rfl rfl
        | (exfalso; rw [hdec2] at h; cases h; done)
        | (exfalso; rw [hdec] at h; cases h; done)
        | (exfalso; rename_i hq; rw [hdec] at hq; cases hq; done)
        | (exfalso; rename_i hq; rw [hdec2] at hq; cases hq; done)
        | trace_state
    · have hdue : rowDue r now = [] := by unfold rowDue; rw [if_neg h0, if_neg h60]
      have hE : ofL (clockL r.time.toNat) ++ ofL [32] ++ ofL (padL (bytes r.line) 8) ++ ofL [32] ++ ofL (padL (bytes r.dest) 8) ++ ofL [32] = ofL (rowHead r ++ rowDue r now) := by
        rw [hdue]; unfold rowHead; simp only [ofL_app, List.append_assoc, List.append_nil]
      have hp3 : CallOk Tryz.prog 67 [.imm (.str (ofL (clockL r.time.toNat) ++ ofL [32] ++ ofL (padL (bytes r.line) 8) ++ ofL [32] ++ ofL (padL (bytes r.dest) 8) ++ ofL [32])), .imm (.int .i64 30)] { res := [.imm (.str (ofL (rowT r now)))] } := by
        rw [hE]
        exact c67 _ 30 (by rw [hdue]; unfold rowHead; simp only [List.length_append, List.length_cons, List.length_nil, hc5, hq1, hq2]; omega) (by omega)
      have hdec2 : decide (IntKind.i64.wrap (IntKind.i64.wrap (r.time + r.delay) - now) < 60) = false := by rw [hw2]; exact decide_eq_false h60
      repeat' first | refine go_seq ?_ | refine go_region ?_ | refine go_draw drawsOk ?_ | ((first | refine go_op rfl ?_ | refine go_nil ?_ | refine go_dop rfl ?_ | refine go_dend (by kernel_rfl) ?_ | refine go_call [] (hcl) rfl rfl rfl rfl ?_ | refine go_call [] (hp1) rfl rfl rfl rfl ?_ | refine go_call [] (hp2) rfl rfl rfl rfl ?_ | refine go_call [] (hp3) rfl rfl rfl rfl ?_ | refine ⟨by simp only [ByteArray.size_append, ofL_size, szLit, List.length_cons, List.length_nil, hc5, hq1, hq2]; omega, ?_⟩) <;> conv => whnf) | ((first | refine go_loadB ?_ | refine ⟨by kernel_rfl, ?_⟩ | refine go_ret ?_) <;> conv => whnf) | refine go_block ?_ | ((first | refine go_skip ?_ | refine go_exit ?_) <;> conv => whnf) | refine go_true rfl ?_ | refine go_false rfl ?_ | refine go_cond rfl (fun h => ?_) (fun h => ?_) | refine ⟨rfl, ?_⟩ | ((first | refine ⟨trivial, ?_⟩ | refine ⟨le_of_ble rfl, ?_⟩) <;> conv => whnf) | fail
      all_goals first
        | exact ret_imm rfl rfl rfl rfl rfl rfl
        | (exfalso; rw [hdec2] at h; cases h; done)
        | (exfalso; rw [hdec] at h; cases h; done)
        | (exfalso; rename_i hq; rw [hdec] at hq; cases hq; done)
        | (exfalso; rename_i hq; rw [hdec2] at hq; cases hq; done)
        | trace_state

theorem c15 (r : BoardRow) (now : Int) (hrf : RowFit r now) : CallOk Tryz.prog 15 [.imm (.agg r.enc), .imm (.int .i64 now)] { res := [.imm (.str (ofL (rowT r now)))] } := by
  refine callOk_of tyOk Tryz.func15 rfl rfl (le_of_ble rfl) (le_of_ble rfl) (mutOk_imm rfl _) ?_
  obtain ⟨⟨ht0, ht1⟩, ⟨hd0, hd1⟩, hl8, hm8, ⟨hn0, hn1⟩, hle⟩ := hrf
  have hcl : CallOk Tryz.prog 32 [.imm (.int .i64 r.time)] { res := [.imm (.str (ofL (clockL r.time.toNat)))] } := by
    have := c32 r.time.toNat (by omega)
    rwa [Int.toNat_of_nonneg ht0] at this
  have hp1 : CallOk Tryz.prog 33 [.imm (.str r.line), .imm (.int .i64 8)] { res := [.imm (.str (ofL (padL (bytes r.line) 8)))] } := c33 (bytes r.line) 8 (by omega) (by omega)
  have hp2 : CallOk Tryz.prog 33 [.imm (.str r.dest), .imm (.int .i64 8)] { res := [.imm (.str (ofL (padL (bytes r.dest) 8)))] } := c33 (bytes r.dest) 8 (by omega) (by omega)
  have hw1 : IntKind.i64.wrap (r.time + r.delay) = r.time + r.delay := wrap_small (by omega) (by omega)
  have hw2 : IntKind.i64.wrap (IntKind.i64.wrap (r.time + r.delay) - now) = r.time + r.delay - now := by rw [hw1]; exact wrap_small (by omega) (by omega)
  have hc5 : (clockL r.time.toNat).length = 5 := rfl
  have hq1 := padL_len (bytes r.line) 8
  have hq2 := padL_len (bytes r.dest) 8
  by_cases h0 : r.time + r.delay - now = 0
  · have hdue : rowDue r now = [110, 111, 119] := by unfold rowDue; rw [if_pos h0]
    have hE : ofL (clockL r.time.toNat) ++ ofL [32] ++ ofL (padL (bytes r.line) 8) ++ ofL [32] ++ ofL (padL (bytes r.dest) 8) ++ ofL [32] ++ ofL [110, 111, 119] = ofL (rowHead r ++ rowDue r now) := by
      rw [hdue]; unfold rowHead; simp only [ofL_app, List.append_assoc]
    have hp3 : CallOk Tryz.prog 33 [.imm (.str (ofL (clockL r.time.toNat) ++ ofL [32] ++ ofL (padL (bytes r.line) 8) ++ ofL [32] ++ ofL (padL (bytes r.dest) 8) ++ ofL [32] ++ ofL [110, 111, 119])), .imm (.int .i64 30)] { res := [.imm (.str (ofL (rowT r now)))] } := by
      rw [hE]
      exact c33 _ 30 (by rw [hdue]; unfold rowHead; simp only [List.length_append, List.length_cons, List.length_nil, hc5, hq1, hq2]; omega) (by omega)
    have hdec : decide (IntKind.i64.wrap (IntKind.i64.wrap (r.time + r.delay) - now) = 0) = true := by rw [hw2]; exact decide_eq_true h0
    repeat' first | refine go_seq ?_ | refine go_region ?_ | refine go_draw drawsOk ?_ | ((first | refine go_op rfl ?_ | refine go_nil ?_ | refine go_dop rfl ?_ | refine go_dend (by kernel_rfl) ?_ | refine go_call [] (hcl) rfl rfl rfl rfl ?_ | refine go_call [] (hp1) rfl rfl rfl rfl ?_ | refine go_call [] (hp2) rfl rfl rfl rfl ?_ | refine go_call [] (hp3) rfl rfl rfl rfl ?_ | refine ⟨by simp only [ByteArray.size_append, ofL_size, szLit, List.length_cons, List.length_nil, hc5, hq1, hq2]; omega, ?_⟩) <;> conv => whnf) | ((first | refine go_loadB ?_ | refine ⟨by kernel_rfl, ?_⟩ | refine go_ret ?_) <;> conv => whnf) | refine go_block ?_ | ((first | refine go_skip ?_ | refine go_exit ?_) <;> conv => whnf) | refine go_true rfl ?_ | refine go_false rfl ?_ | refine go_cond rfl (fun h => ?_) (fun h => ?_) | refine ⟨rfl, ?_⟩ | ((first | refine ⟨trivial, ?_⟩ | refine ⟨le_of_ble rfl, ?_⟩) <;> conv => whnf) | fail
    all_goals first
      | exact ret_imm rfl rfl rfl rfl rfl rfl
      | (exfalso; rw [hdec] at h; cases h; done)
      | (exfalso; rename_i hq; rw [hdec] at hq; cases hq; done)
      | trace_state
  · have hdec : decide (IntKind.i64.wrap (IntKind.i64.wrap (r.time + r.delay) - now) = 0) = false := by rw [hw2]; exact decide_eq_false h0
    by_cases h60 : r.time + r.delay - now < 60
    · have hnn : ((r.time + r.delay - now).toNat : Int) = r.time + r.delay - now := Int.toNat_of_nonneg (by omega)
      have hnum : CallOk Tryz.prog 34 [.imm (.int .i64 (IntKind.i64.wrap (IntKind.i64.wrap (r.time + r.delay) - now)))] { res := [.imm (.str (ofL (numT (r.time + r.delay - now).toNat)))] } := by
        have := c34 (r.time + r.delay - now).toNat (by omega)
        rw [hnn] at this
        rw [hw2]
        exact this
      have hnl : (numT (r.time + r.delay - now).toNat).length ≤ 19 := by
        have := Lg.num_len 18 (r.time + r.delay - now).toNat (by omega)
        exact Nat.le_trans this (by omega)
      have hdue : rowDue r now = numT (r.time + r.delay - now).toNat ++ [32, 109, 105, 110] := by unfold rowDue; rw [if_neg h0, if_pos h60]
      have hE : ofL (clockL r.time.toNat) ++ ofL [32] ++ ofL (padL (bytes r.line) 8) ++ ofL [32] ++ ofL (padL (bytes r.dest) 8) ++ ofL [32] ++ ofL (numT (r.time + r.delay - now).toNat) ++ ofL [32, 109, 105, 110] = ofL (rowHead r ++ rowDue r now) := by
        rw [hdue]; unfold rowHead; simp only [ofL_app, List.append_assoc]
      have hp3 : CallOk Tryz.prog 33 [.imm (.str (ofL (clockL r.time.toNat) ++ ofL [32] ++ ofL (padL (bytes r.line) 8) ++ ofL [32] ++ ofL (padL (bytes r.dest) 8) ++ ofL [32] ++ ofL (numT (r.time + r.delay - now).toNat) ++ ofL [32, 109, 105, 110])), .imm (.int .i64 30)] { res := [.imm (.str (ofL (rowT r now)))] } := by
        rw [hE]
        exact c33 _ 30 (by rw [hdue]; unfold rowHead; simp only [List.length_append, List.length_cons, List.length_nil, hc5, hq1, hq2]; omega) (by omega)
      have hdec2 : decide (IntKind.i64.wrap (IntKind.i64.wrap (r.time + r.delay) - now) < 60) = true := by rw [hw2]; exact decide_eq_true h60
      repeat' first | refine go_seq ?_ | refine go_region ?_ | refine go_draw drawsOk ?_ | ((first | refine go_op rfl ?_ | refine go_nil ?_ | refine go_dop rfl ?_ | refine go_dend (by kernel_rfl) ?_ | refine go_call [] (hcl) rfl rfl rfl rfl ?_ | refine go_call [] (hp1) rfl rfl rfl rfl ?_ | refine go_call [] (hp2) rfl rfl rfl rfl ?_ | refine go_call [] (hp3) rfl rfl rfl rfl ?_ | refine go_call [] (hnum) rfl rfl rfl rfl ?_ | refine ⟨by simp only [ByteArray.size_append, ofL_size, szLit, List.length_cons, List.length_nil, hc5, hq1, hq2]; omega, ?_⟩) <;> conv => whnf) | ((first | refine go_loadB ?_ | refine ⟨by kernel_rfl, ?_⟩ | refine go_ret ?_) <;> conv => whnf) | refine go_block ?_ | ((first | refine go_skip ?_ | refine go_exit ?_) <;> conv => whnf) | refine go_true rfl ?_ | refine go_false rfl ?_ | refine go_cond rfl (fun h => ?_) (fun h => ?_) | refine ⟨rfl, ?_⟩ | ((first | refine ⟨trivial, ?_⟩ | refine ⟨le_of_ble rfl, ?_⟩) <;> conv => whnf) | fail
      all_goals first
        | exact ret_imm rfl rfl rfl rfl rfl rfl
        | (exfalso; rw [hdec2] at h; cases h; done)
        | (exfalso; rw [hdec] at h; cases h; done)
        | (exfalso; rename_i hq; rw [hdec] at hq; cases hq; done)
        | (exfalso; rename_i hq; rw [hdec2] at hq; cases hq; done)
        | trace_state
    · have hdue : rowDue r now = [] := by unfold rowDue; rw [if_neg h0, if_neg h60]
      have hE : ofL (clockL r.time.toNat) ++ ofL [32] ++ ofL (padL (bytes r.line) 8) ++ ofL [32] ++ ofL (padL (bytes r.dest) 8) ++ ofL [32] = ofL (rowHead r ++ rowDue r now) := by
        rw [hdue]; unfold rowHead; simp only [ofL_app, List.append_assoc, List.append_nil]
      have hp3 : CallOk Tryz.prog 33 [.imm (.str (ofL (clockL r.time.toNat) ++ ofL [32] ++ ofL (padL (bytes r.line) 8) ++ ofL [32] ++ ofL (padL (bytes r.dest) 8) ++ ofL [32])), .imm (.int .i64 30)] { res := [.imm (.str (ofL (rowT r now)))] } := by
        rw [hE]
        exact c33 _ 30 (by rw [hdue]; unfold rowHead; simp only [List.length_append, List.length_cons, List.length_nil, hc5, hq1, hq2]; omega) (by omega)
      have hdec2 : decide (IntKind.i64.wrap (IntKind.i64.wrap (r.time + r.delay) - now) < 60) = false := by rw [hw2]; exact decide_eq_false h60
      repeat' first | refine go_seq ?_ | refine go_region ?_ | refine go_draw drawsOk ?_ | ((first | refine go_op rfl ?_ | refine go_nil ?_ | refine go_dop rfl ?_ | refine go_dend (by kernel_rfl) ?_ | refine go_call [] (hcl) rfl rfl rfl rfl ?_ | refine go_call [] (hp1) rfl rfl rfl rfl ?_ | refine go_call [] (hp2) rfl rfl rfl rfl ?_ | refine go_call [] (hp3) rfl rfl rfl rfl ?_ | refine ⟨by simp only [ByteArray.size_append, ofL_size, szLit, List.length_cons, List.length_nil, hc5, hq1, hq2]; omega, ?_⟩) <;> conv => whnf) | ((first | refine go_loadB ?_ | refine ⟨by kernel_rfl, ?_⟩ | refine go_ret ?_) <;> conv => whnf) | refine go_block ?_ | ((first | refine go_skip ?_ | refine go_exit ?_) <;> conv => whnf) | refine go_true rfl ?_ | refine go_false rfl ?_ | refine go_cond rfl (fun h => ?_) (fun h => ?_) | refine ⟨rfl, ?_⟩ | ((first | refine ⟨trivial, ?_⟩ | refine ⟨le_of_ble rfl, ?_⟩) <;> conv => whnf) | fail
      all_goals first
        | exact ret_imm rfl rfl rfl rfl rfl rfl
        | (exfalso; rw [hdec2] at h; cases h; done)
        | (exfalso; rw [hdec] at h; cases h; done)
        | (exfalso; rename_i hq; rw [hdec] at hq; cases hq; done)
        | (exfalso; rename_i hq; rw [hdec2] at hq; cases hq; done)
        | trace_state


end Go.Proofs.YtkfdhhljjeihgaaGreatDoor

