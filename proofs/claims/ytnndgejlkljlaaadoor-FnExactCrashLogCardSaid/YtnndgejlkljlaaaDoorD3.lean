/- The walks of the program's readers of logs. -/
import Derived.Test.YtnndgejlkljlaaaDoorD2
import Derived.Test.YtnndgejlkljlaaaDoorAmC
namespace Go.Proofs.YtnndgejlkljlaaaDoor
open Go Go.Am Go.Lg
set_option maxRecDepth 100000
set_option maxHeartbeats 4000000
attribute [local irreducible] amOps amC opCall opIndexAddr opPick retQ opMake opStore amDraw opAppend opLoad opNilCmp opIndex opSlice

theorem c32 (l : List UInt8) (c : UInt8) : CallOk Tryd.prog 32 [.imm (.str (ofL l)), .imm (.str ⟨#[c]⟩)] { res := [.imm (.int .i64 (if c ∈ l then ((pre c l).length : Int) else -1))] } := by
  have h := callOk_sliteIndex (ρ := lays143_ren) { lays143 with } ⟨_, Tryd.func32, rfl, rfl⟩ (ofL l) c
  rw [show (ofL l).data.toList = l from rfl, index_eq] at h
  exact h

theorem c26 (l : List UInt8) (c : UInt8) (hl : l.length ≤ 4611686018427387903) : CallOk Tryd.prog 26 [.imm (.str (ofL l)), .imm (.str ⟨#[c]⟩)]
    { res := [.imm (.str (ofL (pre c l))), .imm (.str (ofL (post c l))), .imm (.bool (decide (c ∈ l)))] } := by
  refine callOk_of tyOk Tryd.func26 rfl rfl (le_of_ble rfl) (le_of_ble rfl) (mutOk_imm rfl _) ?_
  have hc := c32 l c
  by_cases hm : c ∈ l
  · rw [if_pos hm] at hc
    have hsp := len_split hm
    have hw : IntKind.i64.wrap (((pre c l).length : Int) + ((⟨#[c]⟩ : ByteArray).size : Int)) = (((pre c l).length + 1 : Nat) : Int) := by
      rw [szLit]; simp only [List.length_cons, List.length_nil]; rw [wrap_small (by omega) (by omega)]; omega
    have e1 : (l.drop 0).take ((pre c l).length - 0) = pre c l := by rw [List.drop_zero, Nat.sub_zero, pre_take]
    have e2 : (l.drop ((pre c l).length + 1)).take (l.length - ((pre c l).length + 1)) = post c l := by
      rw [post_drop, List.take_of_length_le (by omega)]
    repeat' first | refine go_seq ?_ | refine go_region ?_ | refine go_draw drawsOk ?_ | ((first | refine go_op rfl ?_ | refine go_nil ?_ | refine go_dop rfl ?_ | refine go_dend (by kernel_rfl) ?_ | refine go_call [] (hc) rfl rfl rfl rfl ?_ | refine go_sliceL 0 (pre c l).length rfl rfl rfl rfl (by omega) (by omega) ?_ | refine go_sliceL ((pre c l).length + 1) l.length rfl rfl (by show some _ = some _; rw [hw]) rfl (by omega) (by omega) ?_) <;> conv => whnf) | ((first | refine ⟨by kernel_rfl, ?_⟩ | refine go_ret ?_) <;> conv => whnf) | ((first | refine go_skip ?_) <;> conv => whnf) | refine go_true rfl ?_ | refine go_false rfl ?_ | refine go_cond rfl (fun h => ?_) (fun h => ?_) | refine ⟨rfl, ?_⟩ | ((first | refine ⟨trivial, ?_⟩ | refine ⟨le_of_ble rfl, ?_⟩) <;> conv => whnf) | fail
    all_goals first
      | (exfalso; simp at h; omega)
      | (refine ret_imm3 rfl rfl rfl rfl rfl rfl (by rw [e1]) (by rw [e2]) (by rw [decide_eq_true hm]) rfl)
  · rw [if_neg hm] at hc
    repeat' first | refine go_seq ?_ | refine go_region ?_ | refine go_draw drawsOk ?_ | ((first | refine go_op rfl ?_ | refine go_nil ?_ | refine go_dop rfl ?_ | refine go_dend (by kernel_rfl) ?_ | refine go_call [] (hc) rfl rfl rfl rfl ?_) <;> conv => whnf) | ((first | refine ⟨by kernel_rfl, ?_⟩ | refine go_ret ?_) <;> conv => whnf) | ((first | refine go_skip ?_) <;> conv => whnf) | refine go_true rfl ?_ | refine go_false rfl ?_ | refine go_cond rfl (fun h => ?_) (fun h => ?_) | refine ⟨rfl, ?_⟩ | ((first | refine ⟨trivial, ?_⟩ | refine ⟨le_of_ble rfl, ?_⟩) <;> conv => whnf) | fail
    all_goals exact ret_imm3 rfl rfl rfl rfl rfl rfl (by rw [pre_no hm]) (by rw [post_no hm]; rfl) (by rw [decide_eq_false hm]) rfl

theorem c20 (l : List UInt8) (c : UInt8) (hl : l.length ≤ 4611686018427387903) : CallOk Tryd.prog 20 [.imm (.str (ofL l)), .imm (.str ⟨#[c]⟩)]
    { res := [.imm (.str (ofL (pre c l))), .imm (.str (ofL (post c l))), .imm (.bool (decide (c ∈ l)))] } := by
  refine callOk_of tyOk Tryd.func20 rfl rfl (le_of_ble rfl) (le_of_ble rfl) (mutOk_imm rfl _) ?_
  have hc := c26 l c hl
  repeat' first | refine go_seq ?_ | refine go_region ?_ | ((first | refine go_op rfl ?_ | refine go_nil ?_ | refine go_call [] (hc) rfl rfl rfl rfl ?_) <;> conv => whnf) | ((first | refine ⟨by kernel_rfl, ?_⟩ | refine go_ret ?_) <;> conv => whnf) | ((first | refine go_skip ?_) <;> conv => whnf) | refine ⟨rfl, ?_⟩ | ((first | refine ⟨trivial, ?_⟩ | refine ⟨le_of_ble rfl, ?_⟩) <;> conv => whnf) | fail
  all_goals exact ret_imm3 rfl rfl rfl rfl rfl rfl rfl rfl rfl rfl

def dR : Option (Rec × Nat) → Rec
  | some x => x.1
  | none => ⟨[], []⟩
def dN : Option (Rec × Nat) → Nat
  | some x => x.2
  | none => 0

theorem post_len {c : UInt8} (a : List UInt8) : (post c a).length ≤ a.length := by
  by_cases h : c ∈ a
  · have := len_split h; omega
  · rw [post_no h]; simp

theorem c16 (k : Nat) (s : List UInt8) (hl : s.length ≤ 4611686018427387000) (hk0 : k ≤ 1000) : CallOk Tryd.prog 16 [.imm (.int .i64 (k : Nat)), .imm (.str (ofL s))]
    { res := [.imm (.agg (dR (dec k s)).enc), .imm (.int .i64 (dN (dec k s) : Nat)), .imm (.bool (dec k s).isSome)] } := by
  refine callOk_of tyOk Tryd.func16 rfl rfl (le_of_ble rfl) (le_of_ble rfl) (mutOk_imm rfl _) ?_
  have hc1 := c20 s 10 (by omega)
  have hp1 := pre_len (c := 10) s
  by_cases h10 : (10 : UInt8) ∈ s
  · rw [decide_eq_true h10] at hc1
    have hsp := len_split h10
    by_cases hk : k < 60
    · have hc2 := c20 (pre 10 s) 35 (by omega)
      have hp2 := pre_len (c := 35) (pre 10 s)
      have hc3 := c20 (pre 35 (pre 10 s)) 32 (by omega)
      have hp3 := post_len (c := 32) (pre 35 (pre 10 s))
      have hc4 := c20 (post 32 (pre 35 (pre 10 s))) 64 (by omega)
      have hg := c21 (eOf (pre 10 s))
      cases hgd : good (eOf (pre 10 s)) with
      | false =>
        rw [hgd] at hg
        have hd : dec k s = none := by unfold dec; rw [if_neg]; rintro ⟨_, _, h⟩; simp [iOk, hgd] at h
        rw [hd]
        repeat' first | refine go_seq ?_ | refine go_region ?_ | refine go_miss rfl rfl rfl ?_ | refine go_undef rfl rfl rfl ?_ | ((first | refine go_op rfl ?_ | refine go_nil ?_ | refine go_hit rfl rfl rfl ?_ | refine go_splitT rfl rfl rfl (fun h => ?_) (fun h => ?_) | refine go_splitF rfl rfl rfl (fun h => ?_) (fun h => ?_) | refine go_storeBox rfl rfl rfl rfl rfl rfl ?_ | refine go_pickT rfl ?_ | refine go_pickF rfl ?_ | refine go_pick rfl (fun h => ?_) (fun h => ?_) | refine go_call [] (hc1) rfl rfl rfl rfl ?_ | refine go_call [] (hc2) rfl rfl rfl rfl ?_ | refine go_call [] (hc3) rfl rfl rfl rfl ?_ | refine go_call [] (hc4) rfl rfl rfl rfl ?_ | refine go_call [] (hg) rfl rfl rfl rfl ?_) <;> conv => whnf) | ((first | refine Or.inl ?_ | refine go_loadB ?_ | refine ⟨by kernel_rfl, ?_⟩ | refine go_ret ?_) <;> conv => whnf) | ((first | refine go_skip ?_) <;> conv => whnf) | refine go_true rfl ?_ | refine go_false rfl ?_ | refine go_cond rfl (fun h => ?_) (fun h => ?_) | refine ⟨rfl, ?_⟩ | ((first | refine ⟨trivial, ?_⟩ | refine ⟨le_of_ble rfl, ?_⟩) <;> conv => whnf) | fail
        all_goals first
          | (exfalso; simp at h; omega)
          | exact ret_imm3 rfl rfl rfl rfl rfl rfl rfl rfl rfl rfl
          | trace_state
      | true =>
        rw [hgd] at hg
        have he := c22 k (eOf (pre 10 s)) hgd hk
        have hcmp : (ofL (lineOf k (eOf (pre 10 s)) ++ [10]) == ofL (pre 10 s) ++ ⟨#[10]⟩) = decide (lineOf k (eOf (pre 10 s)) = pre 10 s) := by
          rw [show (⟨#[10]⟩ : ByteArray) = ofL [10] from rfl, ofL_app, beqL]
          simp
        have hiok : iOk k (pre 10 s) = decide (lineOf k (eOf (pre 10 s)) = pre 10 s) := by unfold iOk; rw [hgd, Bool.true_and]
        by_cases hq : lineOf k (eOf (pre 10 s)) = pre 10 s
        · rw [decide_eq_true hq] at hcmp hiok
          have hd : dec k s = some (eOf (pre 10 s), (pre 10 s).length + 1) := by unfold dec; rw [if_pos ⟨h10, hk, hiok⟩]
          rw [hd]
          have hw : IntKind.i64.wrap (((ofL (pre 10 s)).size : Int) + 1) = (((pre 10 s).length + 1 : Nat) : Int) := by rw [ofL_size, wrap_small (by omega) (by omega)]; omega
          repeat' first | refine go_seq ?_ | refine go_region ?_ | refine go_miss rfl rfl rfl ?_ | refine go_undef rfl rfl rfl ?_ | ((first | refine go_op rfl ?_ | refine go_nil ?_ | refine go_hit rfl rfl rfl ?_ | refine go_splitT rfl rfl rfl (fun h => ?_) (fun h => ?_) | refine go_splitF rfl rfl rfl (fun h => ?_) (fun h => ?_) | refine go_storeBox rfl rfl rfl rfl rfl rfl ?_ | refine go_pickT rfl ?_ | refine go_pickF rfl ?_ | refine go_pick rfl (fun h => ?_) (fun h => ?_) | refine go_call [] (hc1) rfl rfl rfl rfl ?_ | refine go_call [] (hc2) rfl rfl rfl rfl ?_ | refine go_call [] (hc3) rfl rfl rfl rfl ?_ | refine go_call [] (hc4) rfl rfl rfl rfl ?_ | refine go_call [] (hg) rfl rfl rfl rfl ?_ | refine go_call [] (he) rfl rfl rfl rfl ?_ | refine ⟨by simp only [ByteArray.size_append, ofL_size, szLit, List.length_cons, List.length_nil]; omega, ?_⟩) <;> conv => whnf) | ((first | refine Or.inl ?_ | refine go_loadB ?_ | refine ⟨by kernel_rfl, ?_⟩ | refine go_ret ?_) <;> conv => whnf) | ((first | refine go_skip ?_) <;> conv => whnf) | refine go_true rfl ?_ | refine go_false rfl ?_ | refine go_cond rfl (fun h => ?_) (fun h => ?_) | refine ⟨rfl, ?_⟩ | ((first | refine ⟨trivial, ?_⟩ | refine ⟨le_of_ble rfl, ?_⟩) <;> conv => whnf) | fail
          all_goals first
            | (exfalso; simp at h; omega)
            | (exfalso; simp [hcmp] at h; done)
            | exact ret_imm3 rfl rfl rfl rfl rfl rfl rfl (congrArg (D.int .i64) hw) rfl rfl
            | trace_state
        · rw [decide_eq_false hq] at hcmp hiok
          have hd : dec k s = none := by unfold dec; rw [if_neg]; rintro ⟨_, _, h⟩; rw [hiok] at h; cases h
          rw [hd]
          repeat' first | refine go_seq ?_ | refine go_region ?_ | refine go_miss rfl rfl rfl ?_ | refine go_undef rfl rfl rfl ?_ | ((first | refine go_op rfl ?_ | refine go_nil ?_ | refine go_hit rfl rfl rfl ?_ | refine go_splitT rfl rfl rfl (fun h => ?_) (fun h => ?_) | refine go_splitF rfl rfl rfl (fun h => ?_) (fun h => ?_) | refine go_storeBox rfl rfl rfl rfl rfl rfl ?_ | refine go_pickT rfl ?_ | refine go_pickF rfl ?_ | refine go_pick rfl (fun h => ?_) (fun h => ?_) | refine go_call [] (hc1) rfl rfl rfl rfl ?_ | refine go_call [] (hc2) rfl rfl rfl rfl ?_ | refine go_call [] (hc3) rfl rfl rfl rfl ?_ | refine go_call [] (hc4) rfl rfl rfl rfl ?_ | refine go_call [] (hg) rfl rfl rfl rfl ?_ | refine go_call [] (he) rfl rfl rfl rfl ?_ | refine ⟨by simp only [ByteArray.size_append, ofL_size, szLit, List.length_cons, List.length_nil]; omega, ?_⟩) <;> conv => whnf) | ((first | refine Or.inl ?_ | refine go_loadB ?_ | refine ⟨by kernel_rfl, ?_⟩ | refine go_ret ?_) <;> conv => whnf) | ((first | refine go_skip ?_) <;> conv => whnf) | refine go_true rfl ?_ | refine go_false rfl ?_ | refine go_cond rfl (fun h => ?_) (fun h => ?_) | refine ⟨rfl, ?_⟩ | ((first | refine ⟨trivial, ?_⟩ | refine ⟨le_of_ble rfl, ?_⟩) <;> conv => whnf) | fail
          all_goals first
            | (exfalso; simp at h; omega)
            | (exfalso; simp [hcmp] at h; done)
            | exact ret_imm3 rfl rfl rfl rfl rfl rfl rfl rfl rfl rfl
            | trace_state
    · have hd : dec k s = none := by unfold dec; rw [if_neg]; rintro ⟨_, h, _⟩; exact hk h
      rw [hd]
      repeat' first | refine go_seq ?_ | refine go_region ?_ | refine go_miss rfl rfl rfl ?_ | refine go_undef rfl rfl rfl ?_ | ((first | refine go_op rfl ?_ | refine go_nil ?_ | refine go_hit rfl rfl rfl ?_ | refine go_splitT rfl rfl rfl (fun h => ?_) (fun h => ?_) | refine go_splitF rfl rfl rfl (fun h => ?_) (fun h => ?_) | refine go_storeBox rfl rfl rfl rfl rfl rfl ?_ | refine go_pickT rfl ?_ | refine go_pickF rfl ?_ | refine go_pick rfl (fun h => ?_) (fun h => ?_) | refine go_call [] (hc1) rfl rfl rfl rfl ?_) <;> conv => whnf) | ((first | refine Or.inl ?_ | refine go_loadB ?_ | refine ⟨by kernel_rfl, ?_⟩ | refine go_ret ?_) <;> conv => whnf) | ((first | refine go_skip ?_) <;> conv => whnf) | refine go_true rfl ?_ | refine go_false rfl ?_ | refine go_cond rfl (fun h => ?_) (fun h => ?_) | refine ⟨rfl, ?_⟩ | ((first | refine ⟨trivial, ?_⟩ | refine ⟨le_of_ble rfl, ?_⟩) <;> conv => whnf) | fail
      all_goals first
        | (exfalso; simp at h; omega)
        | exact ret_imm3 rfl rfl rfl rfl rfl rfl rfl rfl rfl rfl
        | trace_state
  · rw [decide_eq_false h10] at hc1
    have hd : dec k s = none := by unfold dec; rw [if_neg]; rintro ⟨h, _⟩; exact h10 h
    rw [hd]
    repeat' first | refine go_seq ?_ | refine go_region ?_ | refine go_miss rfl rfl rfl ?_ | refine go_undef rfl rfl rfl ?_ | ((first | refine go_op rfl ?_ | refine go_nil ?_ | refine go_hit rfl rfl rfl ?_ | refine go_splitT rfl rfl rfl (fun h => ?_) (fun h => ?_) | refine go_splitF rfl rfl rfl (fun h => ?_) (fun h => ?_) | refine go_storeBox rfl rfl rfl rfl rfl rfl ?_ | refine go_pickT rfl ?_ | refine go_pickF rfl ?_ | refine go_pick rfl (fun h => ?_) (fun h => ?_) | refine go_call [] (hc1) rfl rfl rfl rfl ?_) <;> conv => whnf) | ((first | refine Or.inl ?_ | refine go_loadB ?_ | refine ⟨by kernel_rfl, ?_⟩ | refine go_ret ?_) <;> conv => whnf) | ((first | refine go_skip ?_) <;> conv => whnf) | refine go_true rfl ?_ | refine go_false rfl ?_ | refine go_cond rfl (fun h => ?_) (fun h => ?_) | refine ⟨rfl, ?_⟩ | ((first | refine ⟨trivial, ?_⟩ | refine ⟨le_of_ble rfl, ?_⟩) <;> conv => whnf) | fail
    all_goals exact ret_imm3 rfl rfl rfl rfl rfl rfl rfl rfl rfl rfl
end Go.Proofs.YtnndgejlkljlaaaDoor

