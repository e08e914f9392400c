/- The walks of a row's text, and the law. -/
import Derived.Test.YtphoamcbapfbkaaDoorK1R
import Derived.Test.YtphoamcbapfbkaaDoorAmW
namespace Go.Proofs.YtphoamcbapfbkaaDoor
open Go Go.Am
set_option maxRecDepth 100000
set_option maxHeartbeats 4000000
attribute [local irreducible] amOps amC opCall opIndexAddr opPick retQ opMake opStore amDraw opAppend opLoad opNilCmp opIndex opSlice

structure BoardRow where
  time : Int
  delay : Int
  line : ByteArray
  dest : ByteArray

def BoardRow.enc (v : BoardRow) : List D := [.int .i64 v.time, .int .i64 v.delay, .str v.line, .str v.dest]
def BoardRow.ok (v : BoardRow) : Prop := i64 v.time ∧ i64 v.delay ∧ v.line.size ≤ maxLen ∧ v.dest.size ≤ maxLen

theorem inR_iff (x a b : Int) : inR x a b = true ↔ a ≤ x ∧ x ≤ b := by simp [inR]
/-- A text with spaces up to a width. -/
def padL (l : List UInt8) (k : Nat) : List UInt8 := l ++ List.replicate (k - l.length) 32
theorem padL_len (l : List UInt8) (k : Nat) : (padL l k).length = l.length + (k - l.length) := by simp [padL]

theorem c24 (c : Nat) (hc : c ≤ 1048576) : CallOk Tryd.prog 24 [.imm (.str (ofL [32])), .imm (.int .i64 (c : Int))] { res := [.imm (.str (ofL (List.replicate c 32)))] } :=
  callOk_repeat1 (ρ := lays105_ren) lays105 Builder_Extra_105 ⟨_, Tryd.func24, rfl, rfl⟩ 32 c hc

theorem c20 (l : List UInt8) (k : Nat) (hl : l.length ≤ 1000) (hk : k ≤ 1000) : CallOk Tryd.prog 20 [.imm (.str (ofL l)), .imm (.int .i64 (k : Nat))] { res := [.imm (.str (ofL (padL l k)))] } := by
  refine callOk_of tyOk Tryd.func20 rfl rfl (le_of_ble rfl) (le_of_ble rfl) (mutOk_imm rfl _) ?_
  have hsz : ((ofL l).size : Int) = l.length := by rw [ofL_size]
  have hw : IntKind.i64.wrap ((k : Int) - ((ofL l).size : Int)) = (k : Int) - l.length := by rw [hsz, wrap_small (by omega) (by omega)]
  have he : (if IntKind.i64.wrap ((k : Int) - ((ofL l).size : Int)) > 0 then IntKind.i64.wrap ((k : Int) - ((ofL l).size : Int)) else 0) = ((k - l.length : Nat) : Int) := by
    rw [hw]; split <;> omega
  have hc : CallOk Tryd.prog 24 [.imm (.str (ofL [32])), .imm (.int .i64 (if IntKind.i64.wrap ((k : Int) - ((ofL l).size : Int)) > 0 then IntKind.i64.wrap ((k : Int) - ((ofL l).size : Int)) else 0))] { res := [.imm (.str (ofL (List.replicate (k - l.length) 32)))] } := by
    rw [he]; exact c24 _ (by omega)
  repeat' first | refine go_seq ?_ | refine go_region ?_ | ((first | refine go_op rfl ?_ | refine go_nil ?_ | refine go_call [] (hc) rfl rfl rfl rfl ?_ | refine ⟨by simp only [ofL_size, List.length_replicate]; omega, ?_⟩) <;> conv => whnf) | ((first | refine ⟨by kernel_rfl, ?_⟩ | refine go_ret ?_) <;> conv => whnf) | ((first | refine go_skip ?_) <;> conv => whnf) | refine ⟨rfl, ?_⟩ | ((first | refine ⟨trivial, ?_⟩ | refine ⟨le_of_ble rfl, ?_⟩) <;> conv => whnf) | fail
  all_goals exact ret_imm rfl rfl rfl rfl (by rw [ofL_app]; rfl) rfl

theorem c17 (l : List UInt8) (k : Nat) (hl : l.length ≤ 1000) (hk : k ≤ 1000) : CallOk Tryd.prog 17 [.imm (.str (ofL l)), .imm (.int .i64 (k : Nat))] { res := [.imm (.str (ofL (padL l k)))] } := by
  refine callOk_of tyOk Tryd.func17 rfl rfl (le_of_ble rfl) (le_of_ble rfl) (mutOk_imm rfl _) ?_
  repeat' first | refine go_seq ?_ | refine go_region ?_ | ((first | refine go_op rfl ?_ | refine go_nil ?_) <;> conv => whnf) | ((first | refine ⟨by kernel_rfl, ?_⟩ | refine go_ret ?_) <;> conv => whnf) | refine go_block ?_ | ((first | refine go_skip ?_ | refine go_exit ?_) <;> conv => whnf) | refine go_true rfl ?_ | refine go_false rfl ?_ | refine go_cond rfl (fun h => ?_) (fun h => ?_) | refine ⟨rfl, ?_⟩ | ((first | refine ⟨trivial, ?_⟩ | refine ⟨le_of_ble rfl, ?_⟩) <;> conv => whnf) | fail
  refine go_loop (α := Nat) (fun i => i ≤ k - l.length) (fun i => k - l.length - i)
    (fun i => st Tryd.f17.ntmps [(0, .imm (.str (ofL (l ++ List.replicate i 32)))), (1, .imm (.int .i64 (k : Nat)))] [] []) 0 (Nat.zero_le _) (ref_st0 rfl ⟨?_, rfl, trivial⟩ rfl) ?_
  · show AV.imm _ = AV.imm _
    rw [List.replicate_zero, List.append_nil]
  intro i hi
  have hsz : ((ofL (l ++ List.replicate i 32)).size : Int) = l.length + i := by rw [ofL_size, List.length_append, List.length_replicate]; omega
  by_cases he : i < k - l.length
  · skip
    repeat' first | refine go_seq ?_ | refine go_region ?_ | ((first | refine go_op rfl ?_ | refine go_nil ?_ | refine ⟨by rw [ofL_size, List.length_append, List.length_replicate]; show l.length + i + 1 ≤ _; omega, ?_⟩) <;> conv => whnf) | ((first | refine ⟨by kernel_rfl, ?_⟩ | refine go_ret ?_) <;> conv => whnf) | refine go_block ?_ | ((first | refine go_skip ?_ | refine go_exit ?_) <;> conv => whnf) | refine go_true rfl ?_ | refine go_false rfl ?_ | refine go_cond rfl (fun h => ?_) (fun h => ?_) | refine ⟨rfl, ?_⟩ | ((first | refine ⟨trivial, ?_⟩ | refine ⟨le_of_ble rfl, ?_⟩) <;> conv => whnf) | fail
    all_goals first
      | (refine go_next (i + 1) (by omega) (by omega) (ref_st0 rfl ⟨?_, rfl, trivial⟩ rfl)
         show AV.imm (.str (ofL _ ++ ofL [32])) = AV.imm _
         rw [ofL_app, List.append_assoc, ← List.replicate_succ']
         done)
      | (exfalso; have h' := of_decide_eq_false h; rw [hsz] at h'; omega)
      | trace_state
  · have hi' : i = k - l.length := by omega
    subst hi'
    repeat' first | refine go_seq ?_ | refine go_region ?_ | ((first | refine go_op rfl ?_ | refine go_nil ?_ | refine ⟨by rw [ofL_size, List.length_append, List.length_replicate]; show l.length + (k - l.length) + 1 ≤ _; omega, ?_⟩) <;> conv => whnf) | ((first | refine ⟨by kernel_rfl, ?_⟩ | refine go_ret ?_) <;> conv => whnf) | refine go_block ?_ | ((first | refine go_skip ?_ | refine go_exit ?_) <;> conv => whnf) | refine go_true rfl ?_ | refine go_false rfl ?_ | refine go_cond rfl (fun h => ?_) (fun h => ?_) | refine ⟨rfl, ?_⟩ | ((first | refine ⟨trivial, ?_⟩ | refine ⟨le_of_ble rfl, ?_⟩) <;> conv => whnf) | fail
    all_goals first
      | (exfalso; have h' := of_decide_eq_true h; rw [hsz] at h'; omega)
      | exact ret_imm rfl rfl rfl rfl rfl rfl
      | trace_state

/-- The text of a row. -/
def rowHead (r : BoardRow) : List UInt8 := clockL r.time.toNat ++ [32] ++ padL (bytes r.line) 8 ++ [32] ++ padL (bytes r.dest) 8 ++ [32]
def rowDue (r : BoardRow) (now : Int) : List UInt8 := if r.time + r.delay - now = 0 then [110, 111, 119] else if r.time + r.delay - now < 60 then numT (r.time + r.delay - now).toNat ++ [32, 109, 105, 110] else []
def rowT (r : BoardRow) (now : Int) : List UInt8 := padL (rowHead r ++ rowDue r now) 30
def rowOk (r : BoardRow) (now : Int) : Bool := timeOk r.time && inR r.delay 0 600 && nameOk r.line && nameOk r.dest && timeOk now && decide (now ≤ r.time + r.delay)
def rowR (r : BoardRow) (now : Int) : List UInt8 := if rowOk r now then rowT r now else []

theorem row_facts {r : BoardRow} {now : Int} (h : rowOk r now = true) : (0 ≤ r.time ∧ r.time ≤ 1799) ∧ (0 ≤ r.delay ∧ r.delay ≤ 600) ∧ (bytes r.line).length ≤ 8 ∧ (bytes r.dest).length ≤ 8 ∧ (0 ≤ now ∧ now ≤ 1799) ∧ now ≤ r.time + r.delay := by
  unfold rowOk timeOk nameOk at h
  simp only [Bool.and_eq_true, decide_eq_true_eq, inR] at h
  rw [bytes_len, bytes_len]
  omega

theorem c15 (r : BoardRow) (now : Int) (h : rowOk r now = true) : CallOk Tryd.prog 15 [.imm (.agg r.enc), .imm (.int .i64 now)] { res := [.imm (.str (ofL (rowT r now)))] } := by
  refine callOk_of tyOk Tryd.func15 rfl rfl (le_of_ble rfl) (le_of_ble rfl) (mutOk_imm rfl _) ?_
  obtain ⟨⟨ht0, ht1⟩, ⟨hd0, hd1⟩, hl8, hm8, ⟨hn0, hn1⟩, hle⟩ := row_facts h
  have hcl : CallOk Tryd.prog 19 [.imm (.int .i64 r.time)] { res := [.imm (.str (ofL (clockL r.time.toNat)))] } := by
    have := c19 r.time.toNat (by omega)
    rwa [Int.toNat_of_nonneg ht0] at this
  have hp1 : CallOk Tryd.prog 20 [.imm (.str r.line), .imm (.int .i64 8)] { res := [.imm (.str (ofL (padL (bytes r.line) 8)))] } := c20 (bytes r.line) 8 (by omega) (by omega)
  have hp2 : CallOk Tryd.prog 20 [.imm (.str r.dest), .imm (.int .i64 8)] { res := [.imm (.str (ofL (padL (bytes r.dest) 8)))] } := c20 (bytes r.dest) 8 (by omega) (by omega)
  have hw1 : IntKind.i64.wrap (r.time + r.delay) = r.time + r.delay := wrap_small (by omega) (by omega)
  have hw2 : IntKind.i64.wrap (IntKind.i64.wrap (r.time + r.delay) - now) = r.time + r.delay - now := by rw [hw1]; exact wrap_small (by omega) (by omega)
  have hc5 : (clockL r.time.toNat).length = 5 := rfl
  have hq1 := padL_len (bytes r.line) 8
  have hq2 := padL_len (bytes r.dest) 8
  by_cases h0 : r.time + r.delay - now = 0
  · have hdue : rowDue r now = [110, 111, 119] := by unfold rowDue; rw [if_pos h0]
    have hE : ofL (clockL r.time.toNat) ++ ofL [32] ++ ofL (padL (bytes r.line) 8) ++ ofL [32] ++ ofL (padL (bytes r.dest) 8) ++ ofL [32] ++ ofL [110, 111, 119] = ofL (rowHead r ++ rowDue r now) := by
      rw [hdue]; unfold rowHead; simp only [ofL_app, List.append_assoc]
    have hp3 : CallOk Tryd.prog 20 [.imm (.str (ofL (clockL r.time.toNat) ++ ofL [32] ++ ofL (padL (bytes r.line) 8) ++ ofL [32] ++ ofL (padL (bytes r.dest) 8) ++ ofL [32] ++ ofL [110, 111, 119])), .imm (.int .i64 30)] { res := [.imm (.str (ofL (rowT r now)))] } := by
      rw [hE]
      exact c20 _ 30 (by rw [hdue]; unfold rowHead; simp only [List.length_append, List.length_cons, List.length_nil, hc5, hq1, hq2]; omega) (by omega)
    have hdec : decide (IntKind.i64.wrap (IntKind.i64.wrap (r.time + r.delay) - now) = 0) = true := by rw [hw2]; exact decide_eq_true h0
    repeat' first | refine go_seq ?_ | refine go_region ?_ | refine go_draw drawsOk ?_ | ((first | refine go_op rfl ?_ | refine go_nil ?_ | refine go_dop rfl ?_ | refine go_dend (by kernel_rfl) ?_ | refine go_call [] (hcl) rfl rfl rfl rfl ?_ | refine go_call [] (hp1) rfl rfl rfl rfl ?_ | refine go_call [] (hp2) rfl rfl rfl rfl ?_ | refine go_call [] (hp3) rfl rfl rfl rfl ?_ | refine ⟨by simp only [ByteArray.size_append, ofL_size, szLit, List.length_cons, List.length_nil, hc5, hq1, hq2]; omega, ?_⟩) <;> conv => whnf) | ((first | refine go_loadB ?_ | refine ⟨by kernel_rfl, ?_⟩ | refine go_ret ?_) <;> conv => whnf) | refine go_block ?_ | ((first | refine go_skip ?_ | refine go_exit ?_) <;> conv => whnf) | refine go_true rfl ?_ | refine go_false rfl ?_ | refine go_cond rfl (fun h => ?_) (fun h => ?_) | refine ⟨rfl, ?_⟩ | ((first | refine ⟨trivial, ?_⟩ | refine ⟨le_of_ble rfl, ?_⟩) <;> conv => whnf) | fail
    all_goals first
      | exact ret_imm rfl rfl rfl rfl rfl rfl
      | (exfalso; rw [hdec] at h; cases h; done)
      | (exfalso; rename_i hq; rw [hdec] at hq; cases hq; done)
      | trace_state
  · have hdec : decide (IntKind.i64.wrap (IntKind.i64.wrap (r.time + r.delay) - now) = 0) = false := by rw [hw2]; exact decide_eq_false h0
    by_cases h60 : r.time + r.delay - now < 60
    · have hnn : ((r.time + r.delay - now).toNat : Int) = r.time + r.delay - now := Int.toNat_of_nonneg (by omega)
      have hnum : CallOk Tryd.prog 21 [.imm (.int .i64 (IntKind.i64.wrap (IntKind.i64.wrap (r.time + r.delay) - now)))] { res := [.imm (.str (ofL (numT (r.time + r.delay - now).toNat)))] } := by
        have := c21 (r.time + r.delay - now).toNat (by omega)
        rw [hnn] at this
        rw [hw2]
        exact this
      have hnl : (numT (r.time + r.delay - now).toNat).length ≤ 19 := by
        have := Lg.num_len 18 (r.time + r.delay - now).toNat (by omega)
        exact Nat.le_trans this (by omega)
      have hdue : rowDue r now = numT (r.time + r.delay - now).toNat ++ [32, 109, 105, 110] := by unfold rowDue; rw [if_neg h0, if_pos h60]
      have hE : ofL (clockL r.time.toNat) ++ ofL [32] ++ ofL (padL (bytes r.line) 8) ++ ofL [32] ++ ofL (padL (bytes r.dest) 8) ++ ofL [32] ++ (ofL (numT (r.time + r.delay - now).toNat) ++ ofL [32, 109, 105, 110]) = ofL (rowHead r ++ rowDue r now) := by
        rw [hdue]; unfold rowHead; simp only [ofL_app, List.append_assoc]
      have hp3 : CallOk Tryd.prog 20 [.imm (.str (ofL (clockL r.time.toNat) ++ ofL [32] ++ ofL (padL (bytes r.line) 8) ++ ofL [32] ++ ofL (padL (bytes r.dest) 8) ++ ofL [32] ++ (ofL (numT (r.time + r.delay - now).toNat) ++ ofL [32, 109, 105, 110]))), .imm (.int .i64 30)] { res := [.imm (.str (ofL (rowT r now)))] } := by
        rw [hE]
        exact c20 _ 30 (by rw [hdue]; unfold rowHead; simp only [List.length_append, List.length_cons, List.length_nil, hc5, hq1, hq2]; omega) (by omega)
      have hdec2 : decide (IntKind.i64.wrap (IntKind.i64.wrap (r.time + r.delay) - now) < 60) = true := by rw [hw2]; exact decide_eq_true h60
      repeat' first | refine go_seq ?_ | refine go_region ?_ | refine go_draw drawsOk ?_ | ((first | refine go_op rfl ?_ | refine go_nil ?_ | refine go_dop rfl ?_ | refine go_dend (by kernel_rfl) ?_ | refine go_call [] (hcl) rfl rfl rfl rfl ?_ | refine go_call [] (hp1) rfl rfl rfl rfl ?_ | refine go_call [] (hp2) rfl rfl rfl rfl ?_ | refine go_call [] (hp3) rfl rfl rfl rfl ?_ | refine go_call [] (hnum) rfl rfl rfl rfl ?_ | refine ⟨by simp only [ByteArray.size_append, ofL_size, szLit, List.length_cons, List.length_nil, hc5, hq1, hq2]; omega, ?_⟩) <;> conv => whnf) | ((first | refine go_loadB ?_ | refine ⟨by kernel_rfl, ?_⟩ | refine go_ret ?_) <;> conv => whnf) | refine go_block ?_ | ((first | refine go_skip ?_ | refine go_exit ?_) <;> conv => whnf) | refine go_true rfl ?_ | refine go_false rfl ?_ | refine go_cond rfl (fun h => ?_) (fun h => ?_) | refine ⟨rfl, ?_⟩ | ((first | refine ⟨trivial, ?_⟩ | refine ⟨le_of_ble rfl, ?_⟩) <;> conv => whnf) | fail
      all_goals first
        | exact ret_imm rfl rfl rfl rfl rfl rfl
        | (exfalso; rw [hdec2] at h; cases h; done)
        | (exfalso; rw [hdec] at h; cases h; done)
        | (exfalso; rename_i hq; rw [hdec] at hq; cases hq; done)
        | (exfalso; rename_i hq; rw [hdec2] at hq; cases hq; done)
        | trace_state
    · have hdue : rowDue r now = [] := by unfold rowDue; rw [if_neg h0, if_neg h60]
      have hE : ofL (clockL r.time.toNat) ++ ofL [32] ++ ofL (padL (bytes r.line) 8) ++ ofL [32] ++ ofL (padL (bytes r.dest) 8) ++ ofL [32] = ofL (rowHead r ++ rowDue r now) := by
        rw [hdue]; unfold rowHead; simp only [ofL_app, List.append_assoc, List.append_nil]
      have hp3 : CallOk Tryd.prog 20 [.imm (.str (ofL (clockL r.time.toNat) ++ ofL [32] ++ ofL (padL (bytes r.line) 8) ++ ofL [32] ++ ofL (padL (bytes r.dest) 8) ++ ofL [32])), .imm (.int .i64 30)] { res := [.imm (.str (ofL (rowT r now)))] } := by
        rw [hE]
        exact c20 _ 30 (by rw [hdue]; unfold rowHead; simp only [List.length_append, List.length_cons, List.length_nil, hc5, hq1, hq2]; omega) (by omega)
      have hdec2 : decide (IntKind.i64.wrap (IntKind.i64.wrap (r.time + r.delay) - now) < 60) = false := by rw [hw2]; exact decide_eq_false h60
      repeat' first | refine go_seq ?_ | refine go_region ?_ | refine go_draw drawsOk ?_ | ((first | refine go_op rfl ?_ | refine go_nil ?_ | refine go_dop rfl ?_ | refine go_dend (by kernel_rfl) ?_ | refine go_call [] (hcl) rfl rfl rfl rfl ?_ | refine go_call [] (hp1) rfl rfl rfl rfl ?_ | refine go_call [] (hp2) rfl rfl rfl rfl ?_ | refine go_call [] (hp3) rfl rfl rfl rfl ?_ | refine ⟨by simp only [ByteArray.size_append, ofL_size, szLit, List.length_cons, List.length_nil, hc5, hq1, hq2]; omega, ?_⟩) <;> conv => whnf) | ((first | refine go_loadB ?_ | refine ⟨by kernel_rfl, ?_⟩ | refine go_ret ?_) <;> conv => whnf) | refine go_block ?_ | ((first | refine go_skip ?_ | refine go_exit ?_) <;> conv => whnf) | refine go_true rfl ?_ | refine go_false rfl ?_ | refine go_cond rfl (fun h => ?_) (fun h => ?_) | refine ⟨rfl, ?_⟩ | ((first | refine ⟨trivial, ?_⟩ | refine ⟨le_of_ble rfl, ?_⟩) <;> conv => whnf) | fail
      all_goals first
        | exact ret_imm rfl rfl rfl rfl rfl rfl
        | (exfalso; rw [hdec2] at h; cases h; done)
        | (exfalso; rw [hdec] at h; cases h; done)
        | (exfalso; rename_i hq; rw [hdec] at hq; cases hq; done)
        | (exfalso; rename_i hq; rw [hdec2] at hq; cases hq; done)
        | trace_state

theorem c11 (r : BoardRow) (now : Int) (h : rowOk r now = true) : CallOk Tryd.prog 11 [.imm (.agg r.enc), .imm (.int .i64 now)] { res := [.imm (.str (ofL (rowT r now)))] } := by
  refine callOk_of tyOk Tryd.func11 rfl rfl (le_of_ble rfl) (le_of_ble rfl) (mutOk_imm rfl _) ?_
  obtain ⟨⟨ht0, ht1⟩, ⟨hd0, hd1⟩, hl8, hm8, ⟨hn0, hn1⟩, hle⟩ := row_facts h
  have hcl : CallOk Tryd.prog 16 [.imm (.int .i64 r.time)] { res := [.imm (.str (ofL (clockL r.time.toNat)))] } := by
    have := c16 r.time.toNat (by omega)
    rwa [Int.toNat_of_nonneg ht0] at this
  have hp1 : CallOk Tryd.prog 17 [.imm (.str r.line), .imm (.int .i64 8)] { res := [.imm (.str (ofL (padL (bytes r.line) 8)))] } := c17 (bytes r.line) 8 (by omega) (by omega)
  have hp2 : CallOk Tryd.prog 17 [.imm (.str r.dest), .imm (.int .i64 8)] { res := [.imm (.str (ofL (padL (bytes r.dest) 8)))] } := c17 (bytes r.dest) 8 (by omega) (by omega)
  have hw1 : IntKind.i64.wrap (r.time + r.delay) = r.time + r.delay := wrap_small (by omega) (by omega)
  have hw2 : IntKind.i64.wrap (IntKind.i64.wrap (r.time + r.delay) - now) = r.time + r.delay - now := by rw [hw1]; exact wrap_small (by omega) (by omega)
  have hc5 : (clockL r.time.toNat).length = 5 := rfl
  have hq1 := padL_len (bytes r.line) 8
  have hq2 := padL_len (bytes r.dest) 8
  by_cases h0 : r.time + r.delay - now = 0
  · have hdue : rowDue r now = [110, 111, 119] := by unfold rowDue; rw [if_pos h0]
    have hE : ofL (clockL r.time.toNat) ++ ofL [32] ++ ofL (padL (bytes r.line) 8) ++ ofL [32] ++ ofL (padL (bytes r.dest) 8) ++ ofL [32] ++ ofL [110, 111, 119] = ofL (rowHead r ++ rowDue r now) := by
      rw [hdue]; unfold rowHead; simp only [ofL_app, List.append_assoc]
    have hp3 : CallOk Tryd.prog 17 [.imm (.str (ofL (clockL r.time.toNat) ++ ofL [32] ++ ofL (padL (bytes r.line) 8) ++ ofL [32] ++ ofL (padL (bytes r.dest) 8) ++ ofL [32] ++ ofL [110, 111, 119])), .imm (.int .i64 30)] { res := [.imm (.str (ofL (rowT r now)))] } := by
      rw [hE]
      exact c17 _ 30 (by rw [hdue]; unfold rowHead; simp only [List.length_append, List.length_cons, List.length_nil, hc5, hq1, hq2]; omega) (by omega)
    have hdec : decide (IntKind.i64.wrap (IntKind.i64.wrap (r.time + r.delay) - now) = 0) = true := by rw [hw2]; exact decide_eq_true h0
    repeat' first | refine go_seq ?_ | refine go_region ?_ | refine go_draw drawsOk ?_ | ((first | refine go_op rfl ?_ | refine go_nil ?_ | refine go_dop rfl ?_ | refine go_dend (by kernel_rfl) ?_ | refine go_call [] (hcl) rfl rfl rfl rfl ?_ | refine go_call [] (hp1) rfl rfl rfl rfl ?_ | refine go_call [] (hp2) rfl rfl rfl rfl ?_ | refine go_call [] (hp3) rfl rfl rfl rfl ?_ | refine ⟨by simp only [ByteArray.size_append, ofL_size, szLit, List.length_cons, List.length_nil, hc5, hq1, hq2]; omega, ?_⟩) <;> conv => whnf) | ((first | refine go_loadB ?_ | refine ⟨by kernel_rfl, ?_⟩ | refine go_ret ?_) <;> conv => whnf) | refine go_block ?_ | ((first | refine go_skip ?_ | refine go_exit ?_) <;> conv => whnf) | refine go_true rfl ?_ | refine go_false rfl ?_ | refine go_cond rfl (fun h => ?_) (fun h => ?_) | refine ⟨rfl, ?_⟩ | ((first | refine ⟨trivial, ?_⟩ | refine ⟨le_of_ble rfl, ?_⟩) <;> conv => whnf) | fail
    all_goals first
      | exact ret_imm rfl rfl rfl rfl rfl rfl
      | (exfalso; rw [hdec] at h; cases h; done)
      | (exfalso; rename_i hq; rw [hdec] at hq; cases hq; done)
      | trace_state
  · have hdec : decide (IntKind.i64.wrap (IntKind.i64.wrap (r.time + r.delay) - now) = 0) = false := by rw [hw2]; exact decide_eq_false h0
    by_cases h60 : r.time + r.delay - now < 60
    · have hnn : ((r.time + r.delay - now).toNat : Int) = r.time + r.delay - now := Int.toNat_of_nonneg (by omega)
      have hnum : CallOk Tryd.prog 18 [.imm (.int .i64 (IntKind.i64.wrap (IntKind.i64.wrap (r.time + r.delay) - now)))] { res := [.imm (.str (ofL (numT (r.time + r.delay - now).toNat)))] } := by
        have := c18 (r.time + r.delay - now).toNat (by omega)
        rw [hnn] at this
        rw [hw2]
        exact this
      have hnl : (numT (r.time + r.delay - now).toNat).length ≤ 19 := by
        have := Lg.num_len 18 (r.time + r.delay - now).toNat (by omega)
        exact Nat.le_trans this (by omega)
      have hdue : rowDue r now = numT (r.time + r.delay - now).toNat ++ [32, 109, 105, 110] := by unfold rowDue; rw [if_neg h0, if_pos h60]
      have hE : ofL (clockL r.time.toNat) ++ ofL [32] ++ ofL (padL (bytes r.line) 8) ++ ofL [32] ++ ofL (padL (bytes r.dest) 8) ++ ofL [32] ++ ofL (numT (r.time + r.delay - now).toNat) ++ ofL [32, 109, 105, 110] = ofL (rowHead r ++ rowDue r now) := by
        rw [hdue]; unfold rowHead; simp only [ofL_app, List.append_assoc]
      have hp3 : CallOk Tryd.prog 17 [.imm (.str (ofL (clockL r.time.toNat) ++ ofL [32] ++ ofL (padL (bytes r.line) 8) ++ ofL [32] ++ ofL (padL (bytes r.dest) 8) ++ ofL [32] ++ ofL (numT (r.time + r.delay - now).toNat) ++ ofL [32, 109, 105, 110])), .imm (.int .i64 30)] { res := [.imm (.str (ofL (rowT r now)))] } := by
        rw [hE]
        exact c17 _ 30 (by rw [hdue]; unfold rowHead; simp only [List.length_append, List.length_cons, List.length_nil, hc5, hq1, hq2]; omega) (by omega)
      have hdec2 : decide (IntKind.i64.wrap (IntKind.i64.wrap (r.time + r.delay) - now) < 60) = true := by rw [hw2]; exact decide_eq_true h60
      repeat' first | refine go_seq ?_ | refine go_region ?_ | refine go_draw drawsOk ?_ | ((first | refine go_op rfl ?_ | refine go_nil ?_ | refine go_dop rfl ?_ | refine go_dend (by kernel_rfl) ?_ | refine go_call [] (hcl) rfl rfl rfl rfl ?_ | refine go_call [] (hp1) rfl rfl rfl rfl ?_ | refine go_call [] (hp2) rfl rfl rfl rfl ?_ | refine go_call [] (hp3) rfl rfl rfl rfl ?_ | refine go_call [] (hnum) rfl rfl rfl rfl ?_ | refine ⟨by simp only [ByteArray.size_append, ofL_size, szLit, List.length_cons, List.length_nil, hc5, hq1, hq2]; omega, ?_⟩) <;> conv => whnf) | ((first | refine go_loadB ?_ | refine ⟨by kernel_rfl, ?_⟩ | refine go_ret ?_) <;> conv => whnf) | refine go_block ?_ | ((first | refine go_skip ?_ | refine go_exit ?_) <;> conv => whnf) | refine go_true rfl ?_ | refine go_false rfl ?_ | refine go_cond rfl (fun h => ?_) (fun h => ?_) | refine ⟨rfl, ?_⟩ | ((first | refine ⟨trivial, ?_⟩ | refine ⟨le_of_ble rfl, ?_⟩) <;> conv => whnf) | fail
      all_goals first
        | exact ret_imm rfl rfl rfl rfl rfl rfl
        | (exfalso; rw [hdec2] at h; cases h; done)
        | (exfalso; rw [hdec] at h; cases h; done)
        | (exfalso; rename_i hq; rw [hdec] at hq; cases hq; done)
        | (exfalso; rename_i hq; rw [hdec2] at hq; cases hq; done)
        | trace_state
    · have hdue : rowDue r now = [] := by unfold rowDue; rw [if_neg h0, if_neg h60]
      have hE : ofL (clockL r.time.toNat) ++ ofL [32] ++ ofL (padL (bytes r.line) 8) ++ ofL [32] ++ ofL (padL (bytes r.dest) 8) ++ ofL [32] = ofL (rowHead r ++ rowDue r now) := by
        rw [hdue]; unfold rowHead; simp only [ofL_app, List.append_assoc, List.append_nil]
      have hp3 : CallOk Tryd.prog 17 [.imm (.str (ofL (clockL r.time.toNat) ++ ofL [32] ++ ofL (padL (bytes r.line) 8) ++ ofL [32] ++ ofL (padL (bytes r.dest) 8) ++ ofL [32])), .imm (.int .i64 30)] { res := [.imm (.str (ofL (rowT r now)))] } := by
        rw [hE]
        exact c17 _ 30 (by rw [hdue]; unfold rowHead; simp only [List.length_append, List.length_cons, List.length_nil, hc5, hq1, hq2]; omega) (by omega)
      have hdec2 : decide (IntKind.i64.wrap (IntKind.i64.wrap (r.time + r.delay) - now) < 60) = false := by rw [hw2]; exact decide_eq_false h60
      repeat' first | refine go_seq ?_ | refine go_region ?_ | refine go_draw drawsOk ?_ | ((first | refine go_op rfl ?_ | refine go_nil ?_ | refine go_dop rfl ?_ | refine go_dend (by kernel_rfl) ?_ | refine go_call [] (hcl) rfl rfl rfl rfl ?_ | refine go_call [] (hp1) rfl rfl rfl rfl ?_ | refine go_call [] (hp2) rfl rfl rfl rfl ?_ | refine go_call [] (hp3) rfl rfl rfl rfl ?_ | refine ⟨by simp only [ByteArray.size_append, ofL_size, szLit, List.length_cons, List.length_nil, hc5, hq1, hq2]; omega, ?_⟩) <;> conv => whnf) | ((first | refine go_loadB ?_ | refine ⟨by kernel_rfl, ?_⟩ | refine go_ret ?_) <;> conv => whnf) | refine go_block ?_ | ((first | refine go_skip ?_ | refine go_exit ?_) <;> conv => whnf) | refine go_true rfl ?_ | refine go_false rfl ?_ | refine go_cond rfl (fun h => ?_) (fun h => ?_) | refine ⟨rfl, ?_⟩ | ((first | refine ⟨trivial, ?_⟩ | refine ⟨le_of_ble rfl, ?_⟩) <;> conv => whnf) | fail
      all_goals first
        | exact ret_imm rfl rfl rfl rfl rfl rfl
        | (exfalso; rw [hdec2] at h; cases h; done)
        | (exfalso; rw [hdec] at h; cases h; done)
        | (exfalso; rename_i hq; rw [hdec] at hq; cases hq; done)
        | (exfalso; rename_i hq; rw [hdec2] at hq; cases hq; done)
        | trace_state


theorem c7 (r : BoardRow) (now : Int) : CallOk Tryd.prog 7 [.imm (.agg r.enc), .imm (.int .i64 now)] { res := [.imm (.str (ofL (rowR r now))), .imm (.bool (rowOk r now))] } := by
  refine callOk_of tyOk Tryd.func7 rfl rfl (le_of_ble rfl) (le_of_ble rfl) (mutOk_imm rfl _) ?_
  have h1 := c12 r.time
  have h2 := c12 now
  have h3 := c13 r.delay 0 600
  have h4 := c14 r.line
  have h5 := c14 r.dest
  unfold rowR
  cases hp : rowOk r now with
  | false =>
    have hx : (timeOk r.time && inR r.delay 0 600 && nameOk r.line && nameOk r.dest && timeOk now) = true → ¬ (now ≤ r.time + r.delay) := fun h hh => by unfold rowOk at hp; rw [h, decide_eq_true hh] at hp; cases hp
    cases b1 : timeOk r.time <;> cases b2 : timeOk now <;> cases b3 : inR r.delay 0 600 <;> cases b4 : nameOk r.line <;> cases b5 : nameOk r.dest <;> rw [b1] at h1 <;> rw [b2] at h2 <;> rw [b3] at h3 <;> rw [b4] at h4 <;> rw [b5] at h5 <;>
    (
    repeat' first | refine go_seq ?_ | refine go_region ?_ | refine go_miss rfl rfl rfl ?_ | refine go_undef rfl rfl rfl ?_ | ((first | refine go_op rfl ?_ | refine go_nil ?_ | refine go_hit rfl rfl rfl ?_ | refine go_splitT rfl rfl rfl (fun h => ?_) (fun h => ?_) | refine go_splitF rfl rfl rfl (fun h => ?_) (fun h => ?_) | refine go_pickT rfl ?_ | refine go_pickF rfl ?_ | refine go_pick rfl (fun h => ?_) (fun h => ?_) | refine go_call [] (h1) rfl rfl rfl rfl ?_ | refine go_call [] (h2) rfl rfl rfl rfl ?_ | refine go_call [] (h3) rfl rfl rfl rfl ?_ | refine go_call [] (h4) rfl rfl rfl rfl ?_ | refine go_call [] (h5) rfl rfl rfl rfl ?_) <;> conv => whnf) | ((first | refine go_loadB ?_ | refine ⟨by kernel_rfl, ?_⟩ | refine go_ret ?_) <;> conv => whnf) | ((first | refine go_skip ?_) <;> conv => whnf) | refine go_true rfl ?_ | refine go_false rfl ?_ | refine go_cond rfl (fun h => ?_) (fun h => ?_) | refine ⟨rfl, ?_⟩ | ((first | refine ⟨trivial, ?_⟩ | refine ⟨le_of_ble rfl, ?_⟩) <;> conv => whnf) | fail
    all_goals first
      | exact ret_imm2 rfl rfl rfl rfl rfl rfl rfl rfl
      | (exfalso
         have q1 := (inR_iff _ _ _).1 b1
         have q2 := (inR_iff _ _ _).1 b2
         have q3 := (inR_iff _ _ _).1 b3
         have q4 := hx (by rw [b1, b2, b3, b4, b5]; rfl)
         have q5 : IntKind.i64.wrap (r.time + r.delay) = r.time + r.delay := wrap_small (by omega) (by omega)
         have q6 := of_decide_eq_false h
         omega)
      | trace_state
    )
  | true =>
    have ht := c15 r now hp
    obtain ⟨⟨ht0, ht1⟩, ⟨hd0, hd1⟩, hl8, hm8, ⟨hn0, hn1⟩, hle⟩ := row_facts hp
    have q5 : IntKind.i64.wrap (r.time + r.delay) = r.time + r.delay := wrap_small (by omega) (by omega)
    unfold rowOk at hp
    simp only [Bool.and_eq_true, decide_eq_true_eq] at hp
    rw [hp.1.1.1.1.1] at h1
    rw [hp.1.2] at h2
    rw [hp.1.1.1.1.2] at h3
    rw [hp.1.1.1.2] at h4
    rw [hp.1.1.2] at h5
    repeat' first | refine go_seq ?_ | refine go_region ?_ | refine go_miss rfl rfl rfl ?_ | refine go_undef rfl rfl rfl ?_ | ((first | refine go_op rfl ?_ | refine go_nil ?_ | refine go_hit rfl rfl rfl ?_ | refine go_splitT rfl rfl rfl (fun h => ?_) (fun h => ?_) | refine go_splitF rfl rfl rfl (fun h => ?_) (fun h => ?_) | refine go_pickT rfl ?_ | refine go_pickF rfl ?_ | refine go_pick rfl (fun h => ?_) (fun h => ?_) | refine go_call [] (h1) rfl rfl rfl rfl ?_ | refine go_call [] (h2) rfl rfl rfl rfl ?_ | refine go_call [] (h3) rfl rfl rfl rfl ?_ | refine go_call [] (h4) rfl rfl rfl rfl ?_ | refine go_call [] (h5) rfl rfl rfl rfl ?_ | refine go_call [] (ht) rfl rfl rfl rfl ?_) <;> conv => whnf) | ((first | refine go_loadB ?_ | refine ⟨by kernel_rfl, ?_⟩ | refine go_ret ?_) <;> conv => whnf) | ((first | refine go_skip ?_) <;> conv => whnf) | refine go_true rfl ?_ | refine go_false rfl ?_ | refine go_cond rfl (fun h => ?_) (fun h => ?_) | refine ⟨rfl, ?_⟩ | ((first | refine ⟨trivial, ?_⟩ | refine ⟨le_of_ble rfl, ?_⟩) <;> conv => whnf) | fail
    all_goals first
      | exact ret_imm2 rfl rfl rfl rfl rfl rfl rfl rfl
      | (exfalso; have q6 := of_decide_eq_true h; omega)
      | trace_state

theorem c5 (r : BoardRow) (now : Int) : CallOk Tryd.prog 5 [.imm (.agg r.enc), .imm (.int .i64 now)] { res := [.imm (.str (ofL (rowR r now))), .imm (.bool (rowOk r now))] } := by
  refine callOk_of tyOk Tryd.func5 rfl rfl (le_of_ble rfl) (le_of_ble rfl) (mutOk_imm rfl _) ?_
  have h1 := c8 r.time
  have h2 := c8 now
  have h3 := c9 r.delay 0 600
  have h4 := c10 r.line
  have h5 := c10 r.dest
  unfold rowR
  cases hp : rowOk r now with
  | false =>
    have hx : (timeOk r.time && inR r.delay 0 600 && nameOk r.line && nameOk r.dest && timeOk now) = true → ¬ (now ≤ r.time + r.delay) := fun h hh => by unfold rowOk at hp; rw [h, decide_eq_true hh] at hp; cases hp
    cases b1 : timeOk r.time <;> cases b2 : timeOk now <;> cases b3 : inR r.delay 0 600 <;> cases b4 : nameOk r.line <;> cases b5 : nameOk r.dest <;> rw [b1] at h1 <;> rw [b2] at h2 <;> rw [b3] at h3 <;> rw [b4] at h4 <;> rw [b5] at h5 <;>
    (
    repeat' first | refine go_seq ?_ | refine go_region ?_ | refine go_miss rfl rfl rfl ?_ | refine go_undef rfl rfl rfl ?_ | ((first | refine go_op rfl ?_ | refine go_nil ?_ | refine go_hit rfl rfl rfl ?_ | refine go_splitT rfl rfl rfl (fun h => ?_) (fun h => ?_) | refine go_splitF rfl rfl rfl (fun h => ?_) (fun h => ?_) | refine go_pickT rfl ?_ | refine go_pickF rfl ?_ | refine go_pick rfl (fun h => ?_) (fun h => ?_) | refine go_call [] (h1) rfl rfl rfl rfl ?_ | refine go_call [] (h2) rfl rfl rfl rfl ?_ | refine go_call [] (h3) rfl rfl rfl rfl ?_ | refine go_call [] (h4) rfl rfl rfl rfl ?_ | refine go_call [] (h5) rfl rfl rfl rfl ?_) <;> conv => whnf) | ((first | refine go_loadB ?_ | refine ⟨by kernel_rfl, ?_⟩ | refine go_ret ?_) <;> conv => whnf) | ((first | refine go_skip ?_) <;> conv => whnf) | refine go_true rfl ?_ | refine go_false rfl ?_ | refine go_cond rfl (fun h => ?_) (fun h => ?_) | refine ⟨rfl, ?_⟩ | ((first | refine ⟨trivial, ?_⟩ | refine ⟨le_of_ble rfl, ?_⟩) <;> conv => whnf) | fail
    all_goals first
      | exact ret_imm2 rfl rfl rfl rfl rfl rfl rfl rfl
      | (exfalso
         have q1 := (inR_iff _ _ _).1 b1
         have q2 := (inR_iff _ _ _).1 b2
         have q3 := (inR_iff _ _ _).1 b3
         have q4 := hx (by rw [b1, b2, b3, b4, b5]; rfl)
         have q5 : IntKind.i64.wrap (r.time + r.delay) = r.time + r.delay := wrap_small (by omega) (by omega)
         have q6 := of_decide_eq_false h
         omega)
      | trace_state
    )
  | true =>
    have ht := c11 r now hp
    obtain ⟨⟨ht0, ht1⟩, ⟨hd0, hd1⟩, hl8, hm8, ⟨hn0, hn1⟩, hle⟩ := row_facts hp
    have q5 : IntKind.i64.wrap (r.time + r.delay) = r.time + r.delay := wrap_small (by omega) (by omega)
    unfold rowOk at hp
    simp only [Bool.and_eq_true, decide_eq_true_eq] at hp
    rw [hp.1.1.1.1.1] at h1
    rw [hp.1.2] at h2
    rw [hp.1.1.1.1.2] at h3
    rw [hp.1.1.1.2] at h4
    rw [hp.1.1.2] at h5
    repeat' first | refine go_seq ?_ | refine go_region ?_ | refine go_miss rfl rfl rfl ?_ | refine go_undef rfl rfl rfl ?_ | ((first | refine go_op rfl ?_ | refine go_nil ?_ | refine go_hit rfl rfl rfl ?_ | refine go_splitT rfl rfl rfl (fun h => ?_) (fun h => ?_) | refine go_splitF rfl rfl rfl (fun h => ?_) (fun h => ?_) | refine go_pickT rfl ?_ | refine go_pickF rfl ?_ | refine go_pick rfl (fun h => ?_) (fun h => ?_) | refine go_call [] (h1) rfl rfl rfl rfl ?_ | refine go_call [] (h2) rfl rfl rfl rfl ?_ | refine go_call [] (h3) rfl rfl rfl rfl ?_ | refine go_call [] (h4) rfl rfl rfl rfl ?_ | refine go_call [] (h5) rfl rfl rfl rfl ?_ | refine go_call [] (ht) rfl rfl rfl rfl ?_) <;> conv => whnf) | ((first | refine go_loadB ?_ | refine ⟨by kernel_rfl, ?_⟩ | refine go_ret ?_) <;> conv => whnf) | ((first | refine go_skip ?_) <;> conv => whnf) | refine go_true rfl ?_ | refine go_false rfl ?_ | refine go_cond rfl (fun h => ?_) (fun h => ?_) | refine ⟨rfl, ?_⟩ | ((first | refine ⟨trivial, ?_⟩ | refine ⟨le_of_ble rfl, ?_⟩) <;> conv => whnf) | fail
    all_goals first
      | exact ret_imm2 rfl rfl rfl rfl rfl rfl rfl rfl
      | (exfalso; have q6 := of_decide_eq_true h; omega)
      | trace_state



theorem c6 (v : BoardRow) : CallOk Tryd.prog 6 [.imm (.agg v.enc)] { res := [.imm (.agg v.enc)] } := by
  refine callOk_of tyOk Tryd.func6 rfl rfl (le_of_ble rfl) (le_of_ble rfl) (mutOk_imm rfl _) ?_
  repeat' first | refine go_seq ?_ | refine go_region ?_ | ((first | refine go_op rfl ?_ | refine go_nil ?_ | refine go_storeBox rfl rfl rfl rfl rfl rfl ?_) <;> conv => whnf) | ((first | refine go_loadB ?_ | refine ⟨by kernel_rfl, ?_⟩ | refine go_ret ?_) <;> conv => whnf) | ((first | refine go_skip ?_) <;> conv => whnf) | refine ⟨rfl, ?_⟩ | ((first | refine ⟨trivial, ?_⟩ | refine ⟨le_of_ble rfl, ?_⟩) <;> conv => whnf) | fail
  all_goals exact ret_imm rfl rfl rfl rfl rfl rfl

def szRow (n : Int) (v : BoardRow) : Int := if IntKind.i64.wrap (n - v.line.size) < 0 then -1 else if IntKind.i64.wrap (IntKind.i64.wrap (n - v.line.size) - v.dest.size) < 0 then -1 else IntKind.i64.wrap (IntKind.i64.wrap (n - v.line.size) - v.dest.size)
theorem c4 (v : BoardRow) (n : Int) : CallOk Tryd.prog 4 [.imm (.agg v.enc), .imm (.int .i64 n)] { res := [.imm (.int .i64 (szRow n v))] } := by
  refine callOk_of tyOk Tryd.func4 rfl rfl (le_of_ble rfl) (le_of_ble rfl) (mutOk_imm rfl _) ?_
  unfold szRow
  repeat' first | refine go_seq ?_ | refine go_region ?_ | ((first | refine go_op rfl ?_ | refine go_nil ?_) <;> conv => whnf) | ((first | refine go_loadB ?_ | refine ⟨by kernel_rfl, ?_⟩ | refine go_ret ?_) <;> conv => whnf) | ((first | refine go_skip ?_) <;> conv => whnf) | refine go_true rfl ?_ | refine go_false rfl ?_ | refine go_cond rfl (fun h => ?_) (fun h => ?_) | refine ⟨rfl, ?_⟩ | ((first | refine ⟨trivial, ?_⟩ | refine ⟨le_of_ble rfl, ?_⟩) <;> conv => whnf) | fail
  all_goals refine ret_imm rfl rfl rfl rfl ?_ rfl
  all_goals first
    | (simp_all; done)
    | (simp_all; rw [if_neg (by omega), if_neg (by omega)])

theorem c3 (r : BoardRow) (_ : r.ok) (now : Int) (_ : i64 now) : CallOk Tryd.prog 3 [.imm (.agg r.enc), .imm (.int .i64 now)] { res := [.imm (.bool true)] } := by
  refine callOk_of tyOk Tryd.func3 rfl rfl (le_of_ble rfl) (le_of_ble rfl) (mutOk_imm rfl _) ?_
  repeat' first | refine go_seq ?_ | refine go_region ?_ | refine go_miss rfl rfl rfl ?_ | refine go_undef rfl rfl rfl ?_ | ((first | refine go_op rfl ?_ | refine go_nil ?_ | refine go_hit rfl rfl rfl ?_ | refine go_splitT rfl rfl rfl (fun h => ?_) (fun h => ?_) | refine go_splitF rfl rfl rfl (fun h => ?_) (fun h => ?_) | refine go_pickT rfl ?_ | refine go_pickF rfl ?_ | refine go_pick rfl (fun h => ?_) (fun h => ?_) | refine go_call [] (c4 r _) rfl rfl rfl rfl ?_ | refine go_call [] (c6 r) rfl rfl rfl rfl ?_ | refine go_call [] (c5 r now) rfl rfl rfl rfl ?_ | refine go_call [] (c7 r now) rfl rfl rfl rfl ?_) <;> conv => whnf) | ((first | refine go_loadB ?_ | refine ⟨by kernel_rfl, ?_⟩ | refine go_ret ?_) <;> conv => whnf) | ((first | refine go_skip ?_) <;> conv => whnf) | refine go_true rfl ?_ | refine go_false rfl ?_ | refine go_cond rfl (fun h => ?_) (fun h => ?_) | refine ⟨rfl, ?_⟩ | ((first | refine ⟨trivial, ?_⟩ | refine ⟨le_of_ble rfl, ?_⟩) <;> conv => whnf) | fail
  all_goals first
    | exact ret_imm rfl rfl rfl rfl rfl rfl
    | (exfalso; simp [str_self] at h; done)
    | trace_state
end Go.Proofs.YtphoamcbapfbkaaDoor

