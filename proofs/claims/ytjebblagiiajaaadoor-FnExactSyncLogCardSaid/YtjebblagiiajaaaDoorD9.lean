/- The walks of what is done with logs. -/
import Derived.Test.YtjebblagiiajaaaDoorD8
namespace Go.Proofs.YtjebblagiiajaaaDoor
open Go Go.Am Go.Lg
set_option maxRecDepth 100000
set_option maxHeartbeats 4000000
attribute [local irreducible] amOps amC opCall opIndexAddr opPick retQ opMake opStore amDraw opAppend opLoad opNilCmp opIndex opSlice

def encOk (k : Int) (e : Rec) : Bool := inR k 0 59 && good e
def encR (k : Int) (e : Rec) : List UInt8 := if encOk k e then lineOf k.toNat e ++ [10] else []
theorem encR_no {k : Int} {e : Rec} (h : encOk k e = false) : encR k e = [] := by unfold encR; rw [h]; rfl
theorem encR_yes {k : Nat} {e : Rec} (h : encOk k e = true) : encR k e = lineOf k e ++ [10] := by unfold encR; rw [h]; rfl

theorem c11 (k : Int) (e : Rec) (hf : e.fit) : CallOk Tryd.prog 11 [.imm (.int .i64 k), .imm (.agg e.enc)] { res := [.imm (.str (ofL (encR k e))), .imm (.bool (encOk k e))] } := by
  refine callOk_of tyOk Tryd.func11 rfl rfl (le_of_ble rfl) (le_of_ble rfl) (mutOk_imm rfl _) ?_
  have hi := c32 k 0 59
  have hg := c33 e hf
  cases h1 : inR k 0 59 with
  | false =>
    have h0 : encOk k e = false := by unfold encOk; rw [h1]; rfl
    rw [h1] at hi
    rw [encR_no h0, h0]
    repeat' first
      | refine go_seq ?_
      | refine go_region ?_
      | (refine go_op rfl ?_; conv => whnf)
      | (refine go_nil ?_; conv => whnf)
      | (refine go_hit rfl rfl rfl ?_; conv => whnf)
      | (refine go_miss rfl rfl rfl ?_)
      | (refine go_undef rfl rfl rfl ?_)
      | (refine go_splitT rfl rfl rfl (fun h => ?_) (fun h => ?_) <;> conv => whnf)
      | (refine go_splitF rfl rfl rfl (fun h => ?_) (fun h => ?_) <;> conv => whnf)
      | (refine go_storeBox rfl rfl rfl rfl rfl rfl ?_; conv => whnf)
      | (refine go_dop rfl ?_; conv => whnf)
      | (refine go_dhit rfl rfl ?_; conv => whnf)
      | (refine go_dmiss rfl rfl ?_; conv => whnf)
      | (refine go_dundef rfl rfl ?_; conv => whnf)
      | (refine go_dend (by kernel_rfl) ?_; conv => whnf)
      | refine go_draw drawsOk ?_
      | (refine go_pickT rfl ?_; conv => whnf)
      | (refine go_pickF rfl ?_; conv => whnf)
      | (refine go_pick rfl (fun h => ?_) (fun h => ?_) <;> conv => whnf)
      | (refine go_call [] (hi) rfl rfl rfl rfl ?_; conv => whnf)
      | (refine go_dsplit2 rfl (fun h => ?_) (fun h => ?_) <;> conv => whnf)
      | (refine go_loadB ?_; conv => whnf)
      | (refine ⟨by kernel_rfl, ?_⟩; conv => whnf)
      | (refine go_ret ?_; conv => whnf)
      | refine go_block ?_
      | (refine go_skip ?_; conv => whnf)
      | (refine go_exit ?_; conv => whnf)
      | refine go_true rfl ?_
      | refine go_false rfl ?_
      | refine go_cond rfl (fun h => ?_) (fun h => ?_)
      | refine ⟨rfl, ?_⟩
      | (refine ⟨trivial, ?_⟩; conv => whnf)
      | (refine ⟨le_of_ble rfl, ?_⟩; conv => whnf)
      | fail
    all_goals exact ret_imm2 rfl rfl rfl rfl rfl rfl rfl rfl
  | true =>
    rw [h1] at hi
    cases h2 : good e with
    | false =>
      have h0 : encOk k e = false := by unfold encOk; rw [h1, h2]; rfl
      rw [h2] at hg
      rw [encR_no h0, h0]
      repeat' first
        | refine go_seq ?_
        | refine go_region ?_
        | (refine go_op rfl ?_; conv => whnf)
        | (refine go_nil ?_; conv => whnf)
        | (refine go_hit rfl rfl rfl ?_; conv => whnf)
        | (refine go_miss rfl rfl rfl ?_)
        | (refine go_undef rfl rfl rfl ?_)
        | (refine go_splitT rfl rfl rfl (fun h => ?_) (fun h => ?_) <;> conv => whnf)
        | (refine go_splitF rfl rfl rfl (fun h => ?_) (fun h => ?_) <;> conv => whnf)
        | (refine go_storeBox rfl rfl rfl rfl rfl rfl ?_; conv => whnf)
        | (refine go_dop rfl ?_; conv => whnf)
        | (refine go_dhit rfl rfl ?_; conv => whnf)
        | (refine go_dmiss rfl rfl ?_; conv => whnf)
        | (refine go_dundef rfl rfl ?_; conv => whnf)
        | (refine go_dend (by kernel_rfl) ?_; conv => whnf)
        | refine go_draw drawsOk ?_
        | (refine go_pickT rfl ?_; conv => whnf)
        | (refine go_pickF rfl ?_; conv => whnf)
        | (refine go_pick rfl (fun h => ?_) (fun h => ?_) <;> conv => whnf)
        | (refine go_call [] (hi) rfl rfl rfl rfl ?_; conv => whnf)
        | (refine go_call [] (hg) rfl rfl rfl rfl ?_; conv => whnf)
        | (refine go_dsplit2 rfl (fun h => ?_) (fun h => ?_) <;> conv => whnf)
        | (refine go_loadB ?_; conv => whnf)
        | (refine ⟨by kernel_rfl, ?_⟩; conv => whnf)
        | (refine go_ret ?_; conv => whnf)
        | refine go_block ?_
        | (refine go_skip ?_; conv => whnf)
        | (refine go_exit ?_; conv => whnf)
        | refine go_true rfl ?_
        | refine go_false rfl ?_
        | refine go_cond rfl (fun h => ?_) (fun h => ?_)
        | refine ⟨rfl, ?_⟩
        | (refine ⟨trivial, ?_⟩; conv => whnf)
        | (refine ⟨le_of_ble rfl, ?_⟩; conv => whnf)
        | fail
      all_goals exact ret_imm2 rfl rfl rfl rfl rfl rfl rfl rfl
    | true =>
      have h0 : encOk k e = true := by unfold encOk; rw [h1, h2]; rfl
      rw [h2] at hg
      obtain ⟨n, rfl⟩ : ∃ n : Nat, k = n := ⟨k.toNat, by simp [inR] at h1; omega⟩
      have hl := c34 n e h2 (by simp [inR] at h1; omega)
      rw [encR_yes h0, h0]
      repeat' first
        | refine go_seq ?_
        | refine go_region ?_
        | (refine go_op rfl ?_; conv => whnf)
        | (refine go_nil ?_; conv => whnf)
        | (refine go_hit rfl rfl rfl ?_; conv => whnf)
        | (refine go_miss rfl rfl rfl ?_)
        | (refine go_undef rfl rfl rfl ?_)
        | (refine go_splitT rfl rfl rfl (fun h => ?_) (fun h => ?_) <;> conv => whnf)
        | (refine go_splitF rfl rfl rfl (fun h => ?_) (fun h => ?_) <;> conv => whnf)
        | (refine go_storeBox rfl rfl rfl rfl rfl rfl ?_; conv => whnf)
        | (refine go_dop rfl ?_; conv => whnf)
        | (refine go_dhit rfl rfl ?_; conv => whnf)
        | (refine go_dmiss rfl rfl ?_; conv => whnf)
        | (refine go_dundef rfl rfl ?_; conv => whnf)
        | (refine go_dend (by kernel_rfl) ?_; conv => whnf)
        | refine go_draw drawsOk ?_
        | (refine go_pickT rfl ?_; conv => whnf)
        | (refine go_pickF rfl ?_; conv => whnf)
        | (refine go_pick rfl (fun h => ?_) (fun h => ?_) <;> conv => whnf)
        | (refine go_call [] (hi) rfl rfl rfl rfl ?_; conv => whnf)
        | (refine go_call [] (hg) rfl rfl rfl rfl ?_; conv => whnf)
        | (refine go_call [] (hl) rfl rfl rfl rfl ?_; conv => whnf)
        | (refine go_dsplit2 rfl (fun h => ?_) (fun h => ?_) <;> conv => whnf)
        | (refine go_loadB ?_; conv => whnf)
        | (refine ⟨by kernel_rfl, ?_⟩; conv => whnf)
        | (refine go_ret ?_; conv => whnf)
        | refine go_block ?_
        | (refine go_skip ?_; conv => whnf)
        | (refine go_exit ?_; conv => whnf)
        | refine go_true rfl ?_
        | refine go_false rfl ?_
        | refine go_cond rfl (fun h => ?_) (fun h => ?_)
        | refine ⟨rfl, ?_⟩
        | (refine ⟨trivial, ?_⟩; conv => whnf)
        | (refine ⟨le_of_ble rfl, ?_⟩; conv => whnf)
        | fail
      all_goals exact ret_imm2 rfl rfl rfl rfl rfl rfl rfl rfl

theorem c13 (k : Int) (e : Rec) : CallOk Tryd.prog 13 [.imm (.int .i64 k), .imm (.agg e.enc)] { res := [.imm (.str (ofL (encR k e))), .imm (.bool (encOk k e))] } := by
  refine callOk_of tyOk Tryd.func13 rfl rfl (le_of_ble rfl) (le_of_ble rfl) (mutOk_imm rfl _) ?_
  have hi := c35 k 0 59
  have hg := c36 e
  cases h1 : inR k 0 59 with
  | false =>
    have h0 : encOk k e = false := by unfold encOk; rw [h1]; rfl
    rw [h1] at hi
    rw [encR_no h0, h0]
    repeat' first
      | refine go_seq ?_
      | refine go_region ?_
      | (refine go_op rfl ?_; conv => whnf)
      | (refine go_nil ?_; conv => whnf)
      | (refine go_hit rfl rfl rfl ?_; conv => whnf)
      | (refine go_miss rfl rfl rfl ?_)
      | (refine go_undef rfl rfl rfl ?_)
      | (refine go_splitT rfl rfl rfl (fun h => ?_) (fun h => ?_) <;> conv => whnf)
      | (refine go_splitF rfl rfl rfl (fun h => ?_) (fun h => ?_) <;> conv => whnf)
      | (refine go_storeBox rfl rfl rfl rfl rfl rfl ?_; conv => whnf)
      | (refine go_dop rfl ?_; conv => whnf)
      | (refine go_dhit rfl rfl ?_; conv => whnf)
      | (refine go_dmiss rfl rfl ?_; conv => whnf)
      | (refine go_dundef rfl rfl ?_; conv => whnf)
      | (refine go_dend (by kernel_rfl) ?_; conv => whnf)
      | refine go_draw drawsOk ?_
      | (refine go_pickT rfl ?_; conv => whnf)
      | (refine go_pickF rfl ?_; conv => whnf)
      | (refine go_pick rfl (fun h => ?_) (fun h => ?_) <;> conv => whnf)
      | (refine go_call [] (hi) rfl rfl rfl rfl ?_; conv => whnf)
      | (refine go_dsplit2 rfl (fun h => ?_) (fun h => ?_) <;> conv => whnf)
      | (refine go_loadB ?_; conv => whnf)
      | (refine ⟨by kernel_rfl, ?_⟩; conv => whnf)
      | (refine go_ret ?_; conv => whnf)
      | refine go_block ?_
      | (refine go_skip ?_; conv => whnf)
      | (refine go_exit ?_; conv => whnf)
      | refine go_true rfl ?_
      | refine go_false rfl ?_
      | refine go_cond rfl (fun h => ?_) (fun h => ?_)
      | refine ⟨rfl, ?_⟩
      | (refine ⟨trivial, ?_⟩; conv => whnf)
      | (refine ⟨le_of_ble rfl, ?_⟩; conv => whnf)
      | fail
    all_goals exact ret_imm2 rfl rfl rfl rfl rfl rfl rfl rfl
  | true =>
    rw [h1] at hi
    cases h2 : good e with
    | false =>
      have h0 : encOk k e = false := by unfold encOk; rw [h1, h2]; rfl
      rw [h2] at hg
      rw [encR_no h0, h0]
      repeat' first
        | refine go_seq ?_
        | refine go_region ?_
        | (refine go_op rfl ?_; conv => whnf)
        | (refine go_nil ?_; conv => whnf)
        | (refine go_hit rfl rfl rfl ?_; conv => whnf)
        | (refine go_miss rfl rfl rfl ?_)
        | (refine go_undef rfl rfl rfl ?_)
        | (refine go_splitT rfl rfl rfl (fun h => ?_) (fun h => ?_) <;> conv => whnf)
        | (refine go_splitF rfl rfl rfl (fun h => ?_) (fun h => ?_) <;> conv => whnf)
        | (refine go_storeBox rfl rfl rfl rfl rfl rfl ?_; conv => whnf)
        | (refine go_dop rfl ?_; conv => whnf)
        | (refine go_dhit rfl rfl ?_; conv => whnf)
        | (refine go_dmiss rfl rfl ?_; conv => whnf)
        | (refine go_dundef rfl rfl ?_; conv => whnf)
        | (refine go_dend (by kernel_rfl) ?_; conv => whnf)
        | refine go_draw drawsOk ?_
        | (refine go_pickT rfl ?_; conv => whnf)
        | (refine go_pickF rfl ?_; conv => whnf)
        | (refine go_pick rfl (fun h => ?_) (fun h => ?_) <;> conv => whnf)
        | (refine go_call [] (hi) rfl rfl rfl rfl ?_; conv => whnf)
        | (refine go_call [] (hg) rfl rfl rfl rfl ?_; conv => whnf)
        | (refine go_dsplit2 rfl (fun h => ?_) (fun h => ?_) <;> conv => whnf)
        | (refine go_loadB ?_; conv => whnf)
        | (refine ⟨by kernel_rfl, ?_⟩; conv => whnf)
        | (refine go_ret ?_; conv => whnf)
        | refine go_block ?_
        | (refine go_skip ?_; conv => whnf)
        | (refine go_exit ?_; conv => whnf)
        | refine go_true rfl ?_
        | refine go_false rfl ?_
        | refine go_cond rfl (fun h => ?_) (fun h => ?_)
        | refine ⟨rfl, ?_⟩
        | (refine ⟨trivial, ?_⟩; conv => whnf)
        | (refine ⟨le_of_ble rfl, ?_⟩; conv => whnf)
        | fail
      all_goals exact ret_imm2 rfl rfl rfl rfl rfl rfl rfl rfl
    | true =>
      have h0 : encOk k e = true := by unfold encOk; rw [h1, h2]; rfl
      rw [h2] at hg
      obtain ⟨n, rfl⟩ : ∃ n : Nat, k = n := ⟨k.toNat, by simp [inR] at h1; omega⟩
      have hl := c37 n e h2 (by simp [inR] at h1; omega)
      rw [encR_yes h0, h0]
      repeat' first
        | refine go_seq ?_
        | refine go_region ?_
        | (refine go_op rfl ?_; conv => whnf)
        | (refine go_nil ?_; conv => whnf)
        | (refine go_hit rfl rfl rfl ?_; conv => whnf)
        | (refine go_miss rfl rfl rfl ?_)
        | (refine go_undef rfl rfl rfl ?_)
        | (refine go_splitT rfl rfl rfl (fun h => ?_) (fun h => ?_) <;> conv => whnf)
        | (refine go_splitF rfl rfl rfl (fun h => ?_) (fun h => ?_) <;> conv => whnf)
        | (refine go_storeBox rfl rfl rfl rfl rfl rfl ?_; conv => whnf)
        | (refine go_dop rfl ?_; conv => whnf)
        | (refine go_dhit rfl rfl ?_; conv => whnf)
        | (refine go_dmiss rfl rfl ?_; conv => whnf)
        | (refine go_dundef rfl rfl ?_; conv => whnf)
        | (refine go_dend (by kernel_rfl) ?_; conv => whnf)
        | refine go_draw drawsOk ?_
        | (refine go_pickT rfl ?_; conv => whnf)
        | (refine go_pickF rfl ?_; conv => whnf)
        | (refine go_pick rfl (fun h => ?_) (fun h => ?_) <;> conv => whnf)
        | (refine go_call [] (hi) rfl rfl rfl rfl ?_; conv => whnf)
        | (refine go_call [] (hg) rfl rfl rfl rfl ?_; conv => whnf)
        | (refine go_call [] (hl) rfl rfl rfl rfl ?_; conv => whnf)
        | (refine go_dsplit2 rfl (fun h => ?_) (fun h => ?_) <;> conv => whnf)
        | (refine go_loadB ?_; conv => whnf)
        | (refine ⟨by kernel_rfl, ?_⟩; conv => whnf)
        | (refine go_ret ?_; conv => whnf)
        | refine go_block ?_
        | (refine go_skip ?_; conv => whnf)
        | (refine go_exit ?_; conv => whnf)
        | refine go_true rfl ?_
        | refine go_false rfl ?_
        | refine go_cond rfl (fun h => ?_) (fun h => ?_)
        | refine ⟨rfl, ?_⟩
        | (refine ⟨trivial, ?_⟩; conv => whnf)
        | (refine ⟨le_of_ble rfl, ?_⟩; conv => whnf)
        | fail
      all_goals exact ret_imm2 rfl rfl rfl rfl rfl rfl rfl rfl

def syncR (l : LogV) : LogV := if validB l then ⟨l.d ++ l.p, [], l.n⟩ else ⟨[], [], 0⟩
theorem c23 (l : LogV) (hf : l.fit) : CallOk Tryd.prog 23 [.imm (.agg l.enc)] { res := [.imm (.agg (syncR l).enc), .imm (.bool (validB l))] } := by
  refine callOk_of tyOk Tryd.func23 rfl rfl (le_of_ble rfl) (le_of_ble rfl) (mutOk_imm rfl _) ?_
  have hv := c40 l hf
  obtain ⟨hf1, hf2⟩ := hf
  cases h1 : validB l with
  | false =>
    rw [h1] at hv
    have h0 : syncR l = ⟨[], [], 0⟩ := by unfold syncR; rw [h1]; rfl
    rw [h0]
    repeat' first
      | refine go_seq ?_
      | refine go_region ?_
      | (refine go_op rfl ?_; conv => whnf)
      | (refine go_nil ?_; conv => whnf)
      | (refine go_hit rfl rfl rfl ?_; conv => whnf)
      | (refine go_miss rfl rfl rfl ?_)
      | (refine go_undef rfl rfl rfl ?_)
      | (refine go_splitT rfl rfl rfl (fun h => ?_) (fun h => ?_) <;> conv => whnf)
      | (refine go_splitF rfl rfl rfl (fun h => ?_) (fun h => ?_) <;> conv => whnf)
      | (refine go_storeBox rfl rfl rfl rfl rfl rfl ?_; conv => whnf)
      | (refine go_dop rfl ?_; conv => whnf)
      | (refine go_dhit rfl rfl ?_; conv => whnf)
      | (refine go_dmiss rfl rfl ?_; conv => whnf)
      | (refine go_dundef rfl rfl ?_; conv => whnf)
      | (refine go_dend (by kernel_rfl) ?_; conv => whnf)
      | refine go_draw drawsOk ?_
      | (refine go_pickT rfl ?_; conv => whnf)
      | (refine go_pickF rfl ?_; conv => whnf)
      | (refine go_pick rfl (fun h => ?_) (fun h => ?_) <;> conv => whnf)
      | (refine go_call [] (hv) rfl rfl rfl rfl ?_; conv => whnf)
      | (refine go_dsplit2 rfl (fun h => ?_) (fun h => ?_) <;> conv => whnf)
      | (refine go_loadB ?_; conv => whnf)
      | (refine ⟨by kernel_rfl, ?_⟩; conv => whnf)
      | (refine go_ret ?_; conv => whnf)
      | refine go_block ?_
      | (refine go_skip ?_; conv => whnf)
      | (refine go_exit ?_; conv => whnf)
      | refine go_true rfl ?_
      | refine go_false rfl ?_
      | refine go_cond rfl (fun h => ?_) (fun h => ?_)
      | refine ⟨rfl, ?_⟩
      | (refine ⟨trivial, ?_⟩; conv => whnf)
      | (refine ⟨le_of_ble rfl, ?_⟩; conv => whnf)
      | fail
    all_goals exact ret_imm2 rfl rfl rfl rfl rfl rfl rfl rfl
  | true =>
    rw [h1] at hv
    have h0 : syncR l = ⟨l.d ++ l.p, [], l.n⟩ := by unfold syncR; rw [h1]; rfl
    rw [h0]
    repeat' first
      | refine go_seq ?_
      | refine go_region ?_
      | (refine go_op rfl ?_; conv => whnf)
      | (refine go_nil ?_; conv => whnf)
      | (refine go_hit rfl rfl rfl ?_; conv => whnf)
      | (refine go_miss rfl rfl rfl ?_)
      | (refine go_undef rfl rfl rfl ?_)
      | (refine go_splitT rfl rfl rfl (fun h => ?_) (fun h => ?_) <;> conv => whnf)
      | (refine go_splitF rfl rfl rfl (fun h => ?_) (fun h => ?_) <;> conv => whnf)
      | (refine go_storeBox rfl rfl rfl rfl rfl rfl ?_; conv => whnf)
      | (refine go_dop rfl ?_; conv => whnf)
      | (refine go_dhit rfl rfl ?_; conv => whnf)
      | (refine go_dmiss rfl rfl ?_; conv => whnf)
      | (refine go_dundef rfl rfl ?_; conv => whnf)
      | (refine go_dend (by kernel_rfl) ?_; conv => whnf)
      | refine go_draw drawsOk ?_
      | (refine go_pickT rfl ?_; conv => whnf)
      | (refine go_pickF rfl ?_; conv => whnf)
      | (refine go_pick rfl (fun h => ?_) (fun h => ?_) <;> conv => whnf)
      | (refine go_call [] (hv) rfl rfl rfl rfl ?_; conv => whnf)
      | (refine ⟨by rw [ofL_size, ofL_size]; omega, ?_⟩; conv => whnf)
      | (refine go_dsplit2 rfl (fun h => ?_) (fun h => ?_) <;> conv => whnf)
      | (refine go_loadB ?_; conv => whnf)
      | (refine ⟨by kernel_rfl, ?_⟩; conv => whnf)
      | (refine go_ret ?_; conv => whnf)
      | refine go_block ?_
      | (refine go_skip ?_; conv => whnf)
      | (refine go_exit ?_; conv => whnf)
      | refine go_true rfl ?_
      | refine go_false rfl ?_
      | refine go_cond rfl (fun h => ?_) (fun h => ?_)
      | refine ⟨rfl, ?_⟩
      | (refine ⟨trivial, ?_⟩; conv => whnf)
      | (refine ⟨le_of_ble rfl, ?_⟩; conv => whnf)
      | fail
    all_goals exact ret_imm2 rfl rfl rfl rfl rfl (by show D.agg _ = D.agg _; unfold LogV.enc; rw [← ofL_app]; rfl) rfl rfl
theorem c24 (l : LogV) (hf : l.fit) : CallOk Tryd.prog 24 [.imm (.agg l.enc)] { res := [.imm (.agg (syncR l).enc), .imm (.bool (validB l))] } := by
  refine callOk_of tyOk Tryd.func24 rfl rfl (le_of_ble rfl) (le_of_ble rfl) (mutOk_imm rfl _) ?_
  have hv := c20 l hf
  obtain ⟨hf1, hf2⟩ := hf
  cases h1 : validB l with
  | false =>
    rw [h1] at hv
    have h0 : syncR l = ⟨[], [], 0⟩ := by unfold syncR; rw [h1]; rfl
    rw [h0]
    repeat' first
      | refine go_seq ?_
      | refine go_region ?_
      | (refine go_op rfl ?_; conv => whnf)
      | (refine go_nil ?_; conv => whnf)
      | (refine go_hit rfl rfl rfl ?_; conv => whnf)
      | (refine go_miss rfl rfl rfl ?_)
      | (refine go_undef rfl rfl rfl ?_)
      | (refine go_splitT rfl rfl rfl (fun h => ?_) (fun h => ?_) <;> conv => whnf)
      | (refine go_splitF rfl rfl rfl (fun h => ?_) (fun h => ?_) <;> conv => whnf)
      | (refine go_storeBox rfl rfl rfl rfl rfl rfl ?_; conv => whnf)
      | (refine go_dop rfl ?_; conv => whnf)
      | (refine go_dhit rfl rfl ?_; conv => whnf)
      | (refine go_dmiss rfl rfl ?_; conv => whnf)
      | (refine go_dundef rfl rfl ?_; conv => whnf)
      | (refine go_dend (by kernel_rfl) ?_; conv => whnf)
      | refine go_draw drawsOk ?_
      | (refine go_pickT rfl ?_; conv => whnf)
      | (refine go_pickF rfl ?_; conv => whnf)
      | (refine go_pick rfl (fun h => ?_) (fun h => ?_) <;> conv => whnf)
      | (refine go_call [] (hv) rfl rfl rfl rfl ?_; conv => whnf)
      | (refine go_dsplit2 rfl (fun h => ?_) (fun h => ?_) <;> conv => whnf)
      | (refine go_loadB ?_; conv => whnf)
      | (refine ⟨by kernel_rfl, ?_⟩; conv => whnf)
      | (refine go_ret ?_; conv => whnf)
      | refine go_block ?_
      | (refine go_skip ?_; conv => whnf)
      | (refine go_exit ?_; conv => whnf)
      | refine go_true rfl ?_
      | refine go_false rfl ?_
      | refine go_cond rfl (fun h => ?_) (fun h => ?_)
      | refine ⟨rfl, ?_⟩
      | (refine ⟨trivial, ?_⟩; conv => whnf)
      | (refine ⟨le_of_ble rfl, ?_⟩; conv => whnf)
      | fail
    all_goals exact ret_imm2 rfl rfl rfl rfl rfl rfl rfl rfl
  | true =>
    rw [h1] at hv
    have h0 : syncR l = ⟨l.d ++ l.p, [], l.n⟩ := by unfold syncR; rw [h1]; rfl
    rw [h0]
    repeat' first
      | refine go_seq ?_
      | refine go_region ?_
      | (refine go_op rfl ?_; conv => whnf)
      | (refine go_nil ?_; conv => whnf)
      | (refine go_hit rfl rfl rfl ?_; conv => whnf)
      | (refine go_miss rfl rfl rfl ?_)
      | (refine go_undef rfl rfl rfl ?_)
      | (refine go_splitT rfl rfl rfl (fun h => ?_) (fun h => ?_) <;> conv => whnf)
      | (refine go_splitF rfl rfl rfl (fun h => ?_) (fun h => ?_) <;> conv => whnf)
      | (refine go_storeBox rfl rfl rfl rfl rfl rfl ?_; conv => whnf)
      | (refine go_dop rfl ?_; conv => whnf)
      | (refine go_dhit rfl rfl ?_; conv => whnf)
      | (refine go_dmiss rfl rfl ?_; conv => whnf)
      | (refine go_dundef rfl rfl ?_; conv => whnf)
      | (refine go_dend (by kernel_rfl) ?_; conv => whnf)
      | refine go_draw drawsOk ?_
      | (refine go_pickT rfl ?_; conv => whnf)
      | (refine go_pickF rfl ?_; conv => whnf)
      | (refine go_pick rfl (fun h => ?_) (fun h => ?_) <;> conv => whnf)
      | (refine go_call [] (hv) rfl rfl rfl rfl ?_; conv => whnf)
      | (refine ⟨by rw [ofL_size, ofL_size]; omega, ?_⟩; conv => whnf)
      | (refine go_dsplit2 rfl (fun h => ?_) (fun h => ?_) <;> conv => whnf)
      | (refine go_loadB ?_; conv => whnf)
      | (refine ⟨by kernel_rfl, ?_⟩; conv => whnf)
      | (refine go_ret ?_; conv => whnf)
      | refine go_block ?_
      | (refine go_skip ?_; conv => whnf)
      | (refine go_exit ?_; conv => whnf)
      | refine go_true rfl ?_
      | refine go_false rfl ?_
      | refine go_cond rfl (fun h => ?_) (fun h => ?_)
      | refine ⟨rfl, ?_⟩
      | (refine ⟨trivial, ?_⟩; conv => whnf)
      | (refine ⟨le_of_ble rfl, ?_⟩; conv => whnf)
      | fail
    all_goals exact ret_imm2 rfl rfl rfl rfl rfl (by show D.agg _ = D.agg _; unfold LogV.enc; rw [← ofL_app]; rfl) rfl rfl

def recOk (s : List UInt8) : Bool := decide (s.length ≤ 30000)
def recR (s : List UInt8) : LogV := if s.length ≤ 30000 then ⟨s.take (endOf (opn s)), [], (opn s).length⟩ else ⟨[], [], 0⟩
def recN (s : List UInt8) : Nat := if s.length ≤ 30000 then endOf (opn s) else 0
theorem c14 (s : List UInt8) (hl : s.length ≤ 1048576) : CallOk Tryd.prog 14 [.imm (.str (ofL s))] { res := [.imm (.agg (recR s).enc), .imm (.int .i64 (recN s : Nat)), .imm (.bool (recOk s))] } := by
  refine callOk_of tyOk Tryd.func14 rfl rfl (le_of_ble rfl) (le_of_ble rfl) (mutOk_imm rfl _) ?_
  have hsz := ofL_size s
  have ho := c38 s hl
  have hlen := recs_len (Nat.le_refl (opn s).length)
  have he : endOf (opn s) ≤ s.length := opn_upTo s _
  by_cases h0 : s.length ≤ 30000
  · have e1 : recR s = ⟨s.take (endOf (opn s)), [], (recsTo (opn s) (opn s).length).length⟩ := (if_pos h0).trans (by rw [hlen])
    have e2 : recN s = endOf (opn s) := if_pos h0
    have e3 : recOk s = true := decide_eq_true h0
    rw [e1, e2, e3]
    repeat' first
      | refine go_seq ?_
      | refine go_region ?_
      | (refine go_op rfl ?_; conv => whnf)
      | (refine go_nil ?_; conv => whnf)
      | (refine go_hit rfl rfl rfl ?_; conv => whnf)
      | (refine go_miss rfl rfl rfl ?_)
      | (refine go_undef rfl rfl rfl ?_)
      | (refine go_splitT rfl rfl rfl (fun h => ?_) (fun h => ?_) <;> conv => whnf)
      | (refine go_splitF rfl rfl rfl (fun h => ?_) (fun h => ?_) <;> conv => whnf)
      | (refine go_storeBox rfl rfl rfl rfl rfl rfl ?_; conv => whnf)
      | (refine go_dop rfl ?_; conv => whnf)
      | (refine go_dhit rfl rfl ?_; conv => whnf)
      | (refine go_dmiss rfl rfl ?_; conv => whnf)
      | (refine go_dundef rfl rfl ?_; conv => whnf)
      | (refine go_dend (by kernel_rfl) ?_; conv => whnf)
      | refine go_draw drawsOk ?_
      | (refine go_pickT rfl ?_; conv => whnf)
      | (refine go_pickF rfl ?_; conv => whnf)
      | (refine go_pick rfl (fun h => ?_) (fun h => ?_) <;> conv => whnf)
      | (refine go_call [] (ho) rfl rfl rfl rfl ?_; conv => whnf)
      | (refine go_sliceR 0 (endOf (opn s)) (s.take (endOf (opn s))) rfl rfl rfl rfl (by omega) (by omega) (by rw [List.drop_zero, Nat.sub_zero]) ?_; conv => whnf)
      | (refine go_dsplit2 rfl (fun h => ?_) (fun h => ?_) <;> conv => whnf)
      | (refine go_loadB ?_; conv => whnf)
      | (refine ⟨by kernel_rfl, ?_⟩; conv => whnf)
      | (refine go_ret ?_; conv => whnf)
      | refine go_block ?_
      | (refine go_skip ?_; conv => whnf)
      | (refine go_exit ?_; conv => whnf)
      | refine go_true rfl ?_
      | refine go_false rfl ?_
      | refine go_cond rfl (fun h => ?_) (fun h => ?_)
      | refine ⟨rfl, ?_⟩
      | (refine ⟨trivial, ?_⟩; conv => whnf)
      | (refine ⟨le_of_ble rfl, ?_⟩; conv => whnf)
      | fail
    all_goals first
      | (exfalso; have h' := of_decide_eq_false h; omega)
      | (exfalso; have h' := of_decide_eq_true h; omega)
      | (exfalso; rename_i hq; have h' := of_decide_eq_true hq; omega)
      | (exfalso; rename_i hq; have h' := of_decide_eq_false hq; omega)
      | (exfalso; rename_i hq _; have h' := of_decide_eq_true hq; omega)
      | (exfalso; rename_i hq _; have h' := of_decide_eq_false hq; omega)
      | exact ret_imm3 rfl rfl rfl rfl rfl rfl rfl rfl rfl rfl
      | trace_state
  · have e1 : recR s = ⟨[], [], 0⟩ := if_neg h0
    have e2 : recN s = 0 := if_neg h0
    have e3 : recOk s = false := decide_eq_false h0
    rw [e1, e2, e3]
    repeat' first
      | refine go_seq ?_
      | refine go_region ?_
      | (refine go_op rfl ?_; conv => whnf)
      | (refine go_nil ?_; conv => whnf)
      | (refine go_hit rfl rfl rfl ?_; conv => whnf)
      | (refine go_miss rfl rfl rfl ?_)
      | (refine go_undef rfl rfl rfl ?_)
      | (refine go_splitT rfl rfl rfl (fun h => ?_) (fun h => ?_) <;> conv => whnf)
      | (refine go_splitF rfl rfl rfl (fun h => ?_) (fun h => ?_) <;> conv => whnf)
      | (refine go_storeBox rfl rfl rfl rfl rfl rfl ?_; conv => whnf)
      | (refine go_dop rfl ?_; conv => whnf)
      | (refine go_dhit rfl rfl ?_; conv => whnf)
      | (refine go_dmiss rfl rfl ?_; conv => whnf)
      | (refine go_dundef rfl rfl ?_; conv => whnf)
      | (refine go_dend (by kernel_rfl) ?_; conv => whnf)
      | refine go_draw drawsOk ?_
      | (refine go_pickT rfl ?_; conv => whnf)
      | (refine go_pickF rfl ?_; conv => whnf)
      | (refine go_pick rfl (fun h => ?_) (fun h => ?_) <;> conv => whnf)
      | (refine go_dsplit2 rfl (fun h => ?_) (fun h => ?_) <;> conv => whnf)
      | (refine go_loadB ?_; conv => whnf)
      | (refine ⟨by kernel_rfl, ?_⟩; conv => whnf)
      | (refine go_ret ?_; conv => whnf)
      | refine go_block ?_
      | (refine go_skip ?_; conv => whnf)
      | (refine go_exit ?_; conv => whnf)
      | refine go_true rfl ?_
      | refine go_false rfl ?_
      | refine go_cond rfl (fun h => ?_) (fun h => ?_)
      | refine ⟨rfl, ?_⟩
      | (refine ⟨trivial, ?_⟩; conv => whnf)
      | (refine ⟨le_of_ble rfl, ?_⟩; conv => whnf)
      | fail
    all_goals first
      | exact ret_imm3 rfl rfl rfl rfl rfl rfl rfl rfl rfl rfl
      | (exfalso; have h' := of_decide_eq_false h; omega)
      | (exfalso; have h' := of_decide_eq_true h; omega)
      | (exfalso; rename_i hq; have h' := of_decide_eq_true hq; omega)
      | (exfalso; rename_i hq; have h' := of_decide_eq_false hq; omega)
      | (exfalso; rename_i hq _; have h' := of_decide_eq_true hq; omega)
      | (exfalso; rename_i hq _; have h' := of_decide_eq_false hq; omega)
      | trace_state
theorem c15 (s : List UInt8) (hl : s.length ≤ 1048576) : CallOk Tryd.prog 15 [.imm (.str (ofL s))] { res := [.imm (.agg (recR s).enc), .imm (.int .i64 (recN s : Nat)), .imm (.bool (recOk s))] } := by
  refine callOk_of tyOk Tryd.func15 rfl rfl (le_of_ble rfl) (le_of_ble rfl) (mutOk_imm rfl _) ?_
  have hsz := ofL_size s
  have ho := c39 s (by omega)
  have hlen := recs_len (Nat.le_refl (opn s).length)
  have he : endOf (opn s) ≤ s.length := opn_upTo s _
  have hxr : (endsTo (opn s) (opn s).length)[(((recsTo (opn s) (opn s).length).length : Nat) : Int).toNat]? = some (intRow (endOf (opn s) : Nat)) := by rw [hlen, Int.toNat_natCast]; exact ends_at _ (Nat.le_refl _)
  by_cases h0 : s.length ≤ 30000
  · have e1 : recR s = ⟨s.take (endOf (opn s)), [], (recsTo (opn s) (opn s).length).length⟩ := (if_pos h0).trans (by rw [hlen])
    have e2 : recN s = endOf (opn s) := if_pos h0
    have e3 : recOk s = true := decide_eq_true h0
    rw [e1, e2, e3]
    repeat' first
      | refine go_seq ?_
      | refine go_region ?_
      | (refine go_op rfl ?_; conv => whnf)
      | (refine go_nil ?_; conv => whnf)
      | (refine go_hit rfl rfl rfl ?_; conv => whnf)
      | (refine go_miss rfl rfl rfl ?_)
      | (refine go_undef rfl rfl rfl ?_)
      | (refine go_splitT rfl rfl rfl (fun h => ?_) (fun h => ?_) <;> conv => whnf)
      | (refine go_splitF rfl rfl rfl (fun h => ?_) (fun h => ?_) <;> conv => whnf)
      | (refine go_storeBox rfl rfl rfl rfl rfl rfl ?_; conv => whnf)
      | (refine go_dop rfl ?_; conv => whnf)
      | (refine go_dhit rfl rfl ?_; conv => whnf)
      | (refine go_dmiss rfl rfl ?_; conv => whnf)
      | (refine go_dundef rfl rfl ?_; conv => whnf)
      | (refine go_dend (by kernel_rfl) ?_; conv => whnf)
      | refine go_draw drawsOk ?_
      | (refine go_pickT rfl ?_; conv => whnf)
      | (refine go_pickF rfl ?_; conv => whnf)
      | (refine go_pick rfl (fun h => ?_) (fun h => ?_) <;> conv => whnf)
      | (refine go_call [] (ho) rfl rfl rfl rfl ?_; conv => whnf)
      | (refine go_idx rfl rfl rfl rfl (by omega) hxr rfl ?_; conv => whnf)
      | (refine go_sliceR 0 (endOf (opn s)) (s.take (endOf (opn s))) rfl rfl rfl rfl (by omega) (by omega) (by rw [List.drop_zero, Nat.sub_zero]) ?_; conv => whnf)
      | (refine go_dsplit2 rfl (fun h => ?_) (fun h => ?_) <;> conv => whnf)
      | (refine go_loadB ?_; conv => whnf)
      | (refine ⟨by kernel_rfl, ?_⟩; conv => whnf)
      | (refine go_ret ?_; conv => whnf)
      | refine go_block ?_
      | (refine go_skip ?_; conv => whnf)
      | (refine go_exit ?_; conv => whnf)
      | refine go_true rfl ?_
      | refine go_false rfl ?_
      | refine go_cond rfl (fun h => ?_) (fun h => ?_)
      | refine ⟨rfl, ?_⟩
      | (refine ⟨trivial, ?_⟩; conv => whnf)
      | (refine ⟨le_of_ble rfl, ?_⟩; conv => whnf)
      | fail
    all_goals first
      | (exfalso; have h' := of_decide_eq_false h; omega)
      | (exfalso; have h' := of_decide_eq_true h; omega)
      | (exfalso; rename_i hq; have h' := of_decide_eq_true hq; omega)
      | (exfalso; rename_i hq; have h' := of_decide_eq_false hq; omega)
      | (exfalso; rename_i hq _; have h' := of_decide_eq_true hq; omega)
      | (exfalso; rename_i hq _; have h' := of_decide_eq_false hq; omega)
      | exact ret_imm3 rfl rfl rfl rfl rfl rfl rfl rfl rfl rfl
      | trace_state
  · have e1 : recR s = ⟨[], [], 0⟩ := if_neg h0
    have e2 : recN s = 0 := if_neg h0
    have e3 : recOk s = false := decide_eq_false h0
    rw [e1, e2, e3]
    repeat' first
      | refine go_seq ?_
      | refine go_region ?_
      | (refine go_op rfl ?_; conv => whnf)
      | (refine go_nil ?_; conv => whnf)
      | (refine go_hit rfl rfl rfl ?_; conv => whnf)
      | (refine go_miss rfl rfl rfl ?_)
      | (refine go_undef rfl rfl rfl ?_)
      | (refine go_splitT rfl rfl rfl (fun h => ?_) (fun h => ?_) <;> conv => whnf)
      | (refine go_splitF rfl rfl rfl (fun h => ?_) (fun h => ?_) <;> conv => whnf)
      | (refine go_storeBox rfl rfl rfl rfl rfl rfl ?_; conv => whnf)
      | (refine go_dop rfl ?_; conv => whnf)
      | (refine go_dhit rfl rfl ?_; conv => whnf)
      | (refine go_dmiss rfl rfl ?_; conv => whnf)
      | (refine go_dundef rfl rfl ?_; conv => whnf)
      | (refine go_dend (by kernel_rfl) ?_; conv => whnf)
      | refine go_draw drawsOk ?_
      | (refine go_pickT rfl ?_; conv => whnf)
      | (refine go_pickF rfl ?_; conv => whnf)
      | (refine go_pick rfl (fun h => ?_) (fun h => ?_) <;> conv => whnf)
      | (refine go_dsplit2 rfl (fun h => ?_) (fun h => ?_) <;> conv => whnf)
      | (refine go_loadB ?_; conv => whnf)
      | (refine ⟨by kernel_rfl, ?_⟩; conv => whnf)
      | (refine go_ret ?_; conv => whnf)
      | refine go_block ?_
      | (refine go_skip ?_; conv => whnf)
      | (refine go_exit ?_; conv => whnf)
      | refine go_true rfl ?_
      | refine go_false rfl ?_
      | refine go_cond rfl (fun h => ?_) (fun h => ?_)
      | refine ⟨rfl, ?_⟩
      | (refine ⟨trivial, ?_⟩; conv => whnf)
      | (refine ⟨le_of_ble rfl, ?_⟩; conv => whnf)
      | fail
    all_goals first
      | exact ret_imm3 rfl rfl rfl rfl rfl rfl rfl rfl rfl rfl
      | (exfalso; have h' := of_decide_eq_false h; omega)
      | (exfalso; have h' := of_decide_eq_true h; omega)
      | (exfalso; rename_i hq; have h' := of_decide_eq_true hq; omega)
      | (exfalso; rename_i hq; have h' := of_decide_eq_false hq; omega)
      | (exfalso; rename_i hq _; have h' := of_decide_eq_true hq; omega)
      | (exfalso; rename_i hq _; have h' := of_decide_eq_false hq; omega)
      | trace_state

theorem valid_n {l : LogV} (h : validB l = true) : ∃ k : Nat, l.n = k ∧ k ≤ 60 := by
  have := (validB_iff l).1 h
  exact ⟨_, this.2.1, opn_len _⟩

def appR (l : LogV) (e : Rec) : LogV := if validB l && good e then (if l.n = 60 then l else ⟨l.d, l.p ++ (lineOf l.n.toNat e ++ [10]), l.n + 1⟩) else l
def appN (l : LogV) (e : Rec) : Int := if validB l && good e then (if l.n = 60 then 2 else 0) else 1

theorem c25 (l : LogV) (e : Rec) (hf : l.fit) (he : e.fit) : CallOk Tryd.prog 25 [.imm (.agg l.enc), .imm (.agg e.enc)] { res := [.imm (.agg (appR l e).enc), .imm (.int .i64 (appN l e))] } := by
  refine callOk_of tyOk Tryd.func25 rfl rfl (le_of_ble rfl) (le_of_ble rfl) (mutOk_imm rfl _) ?_
  have hv := c40 l hf
  have hg := c33 e he
  obtain ⟨hf1, hf2⟩ := hf
  cases h1 : validB l with
  | false =>
    rw [h1] at hv
    have e1 : appR l e = l := by unfold appR; rw [h1]; rfl
    have e2 : appN l e = 1 := by unfold appN; rw [h1]; rfl
    rw [e1, e2]
    repeat' first
      | refine go_seq ?_
      | refine go_region ?_
      | (refine go_op rfl ?_; conv => whnf)
      | (refine go_nil ?_; conv => whnf)
      | (refine go_hit rfl rfl rfl ?_; conv => whnf)
      | (refine go_miss rfl rfl rfl ?_)
      | (refine go_undef rfl rfl rfl ?_)
      | (refine go_splitT rfl rfl rfl (fun h => ?_) (fun h => ?_) <;> conv => whnf)
      | (refine go_splitF rfl rfl rfl (fun h => ?_) (fun h => ?_) <;> conv => whnf)
      | (refine go_storeBox rfl rfl rfl rfl rfl rfl ?_; conv => whnf)
      | (refine go_dop rfl ?_; conv => whnf)
      | (refine go_dhit rfl rfl ?_; conv => whnf)
      | (refine go_dmiss rfl rfl ?_; conv => whnf)
      | (refine go_dundef rfl rfl ?_; conv => whnf)
      | (refine go_dend (by kernel_rfl) ?_; conv => whnf)
      | refine go_draw drawsOk ?_
      | (refine go_pickT rfl ?_; conv => whnf)
      | (refine go_pickF rfl ?_; conv => whnf)
      | (refine go_pick rfl (fun h => ?_) (fun h => ?_) <;> conv => whnf)
      | (refine go_call [] (hv) rfl rfl rfl rfl ?_; conv => whnf)
      | (refine go_dsplit2 rfl (fun h => ?_) (fun h => ?_) <;> conv => whnf)
      | (refine go_loadB ?_; conv => whnf)
      | (refine ⟨by kernel_rfl, ?_⟩; conv => whnf)
      | (refine go_ret ?_; conv => whnf)
      | refine go_block ?_
      | (refine go_skip ?_; conv => whnf)
      | (refine go_exit ?_; conv => whnf)
      | refine go_true rfl ?_
      | refine go_false rfl ?_
      | refine go_cond rfl (fun h => ?_) (fun h => ?_)
      | refine ⟨rfl, ?_⟩
      | (refine ⟨trivial, ?_⟩; conv => whnf)
      | (refine ⟨le_of_ble rfl, ?_⟩; conv => whnf)
      | fail
    all_goals exact ret_imm2 rfl rfl rfl rfl rfl rfl rfl rfl
  | true =>
    rw [h1] at hv
    cases h2 : good e with
    | false =>
      rw [h2] at hg
      have e1 : appR l e = l := by unfold appR; rw [h1, h2]; rfl
      have e2 : appN l e = 1 := by unfold appN; rw [h1, h2]; rfl
      rw [e1, e2]
      repeat' first
        | refine go_seq ?_
        | refine go_region ?_
        | (refine go_op rfl ?_; conv => whnf)
        | (refine go_nil ?_; conv => whnf)
        | (refine go_hit rfl rfl rfl ?_; conv => whnf)
        | (refine go_miss rfl rfl rfl ?_)
        | (refine go_undef rfl rfl rfl ?_)
        | (refine go_splitT rfl rfl rfl (fun h => ?_) (fun h => ?_) <;> conv => whnf)
        | (refine go_splitF rfl rfl rfl (fun h => ?_) (fun h => ?_) <;> conv => whnf)
        | (refine go_storeBox rfl rfl rfl rfl rfl rfl ?_; conv => whnf)
        | (refine go_dop rfl ?_; conv => whnf)
        | (refine go_dhit rfl rfl ?_; conv => whnf)
        | (refine go_dmiss rfl rfl ?_; conv => whnf)
        | (refine go_dundef rfl rfl ?_; conv => whnf)
        | (refine go_dend (by kernel_rfl) ?_; conv => whnf)
        | refine go_draw drawsOk ?_
        | (refine go_pickT rfl ?_; conv => whnf)
        | (refine go_pickF rfl ?_; conv => whnf)
        | (refine go_pick rfl (fun h => ?_) (fun h => ?_) <;> conv => whnf)
        | (refine go_call [] (hv) rfl rfl rfl rfl ?_; conv => whnf)
        | (refine go_call [] (hg) rfl rfl rfl rfl ?_; conv => whnf)
        | (refine go_dsplit2 rfl (fun h => ?_) (fun h => ?_) <;> conv => whnf)
        | (refine go_loadB ?_; conv => whnf)
        | (refine ⟨by kernel_rfl, ?_⟩; conv => whnf)
        | (refine go_ret ?_; conv => whnf)
        | refine go_block ?_
        | (refine go_skip ?_; conv => whnf)
        | (refine go_exit ?_; conv => whnf)
        | refine go_true rfl ?_
        | refine go_false rfl ?_
        | refine go_cond rfl (fun h => ?_) (fun h => ?_)
        | refine ⟨rfl, ?_⟩
        | (refine ⟨trivial, ?_⟩; conv => whnf)
        | (refine ⟨le_of_ble rfl, ?_⟩; conv => whnf)
        | fail
      all_goals exact ret_imm2 rfl rfl rfl rfl rfl rfl rfl rfl
    | true =>
      rw [h2] at hg
      obtain ⟨k, hk, hk60⟩ := valid_n h1
      by_cases h3 : k = 60
      · have e1 : appR l e = l := by unfold appR; rw [h1, h2, Bool.and_true, if_pos rfl, if_pos (by omega)]
        have e2 : appN l e = 2 := by unfold appN; rw [h1, h2, Bool.and_true, if_pos rfl, if_pos (by omega)]
        rw [e1, e2]
        repeat' first
          | refine go_seq ?_
          | refine go_region ?_
          | (refine go_op rfl ?_; conv => whnf)
          | (refine go_nil ?_; conv => whnf)
          | (refine go_hit rfl rfl rfl ?_; conv => whnf)
          | (refine go_miss rfl rfl rfl ?_)
          | (refine go_undef rfl rfl rfl ?_)
          | (refine go_splitT rfl rfl rfl (fun h => ?_) (fun h => ?_) <;> conv => whnf)
          | (refine go_splitF rfl rfl rfl (fun h => ?_) (fun h => ?_) <;> conv => whnf)
          | (refine go_storeBox rfl rfl rfl rfl rfl rfl ?_; conv => whnf)
          | (refine go_dop rfl ?_; conv => whnf)
          | (refine go_dhit rfl rfl ?_; conv => whnf)
          | (refine go_dmiss rfl rfl ?_; conv => whnf)
          | (refine go_dundef rfl rfl ?_; conv => whnf)
          | (refine go_dend (by kernel_rfl) ?_; conv => whnf)
          | refine go_draw drawsOk ?_
          | (refine go_pickT rfl ?_; conv => whnf)
          | (refine go_pickF rfl ?_; conv => whnf)
          | (refine go_pick rfl (fun h => ?_) (fun h => ?_) <;> conv => whnf)
          | (refine go_call [] (hv) rfl rfl rfl rfl ?_; conv => whnf)
          | (refine go_call [] (hg) rfl rfl rfl rfl ?_; conv => whnf)
          | (refine go_dsplit2 rfl (fun h => ?_) (fun h => ?_) <;> conv => whnf)
          | (refine go_loadB ?_; conv => whnf)
          | (refine ⟨by kernel_rfl, ?_⟩; conv => whnf)
          | (refine go_ret ?_; conv => whnf)
          | refine go_block ?_
          | (refine go_skip ?_; conv => whnf)
          | (refine go_exit ?_; conv => whnf)
          | refine go_true rfl ?_
          | refine go_false rfl ?_
          | refine go_cond rfl (fun h => ?_) (fun h => ?_)
          | refine ⟨rfl, ?_⟩
          | (refine ⟨trivial, ?_⟩; conv => whnf)
          | (refine ⟨le_of_ble rfl, ?_⟩; conv => whnf)
          | fail
        all_goals first
          | exact ret_imm2 rfl rfl rfl rfl rfl rfl rfl rfl
          | (exfalso; have h' := of_decide_eq_false h; omega)
          | trace_state
      · have hli := c34 k e h2 (by omega)
        have hll := line_len h2 (k := k) (by omega)
        rw [← hk] at hli
        have hw : IntKind.i64.wrap (l.n + 1) = l.n + 1 := wrap_small (by omega) (by omega)
        have e1 : appR l e = ⟨l.d, l.p ++ (lineOf k e ++ [10]), IntKind.i64.wrap (l.n + 1)⟩ := by unfold appR; rw [h1, h2, Bool.and_true, if_pos rfl, if_neg (by omega), hk, Int.toNat_natCast, ← hk, hw]
        have e2 : appN l e = 0 := by unfold appN; rw [h1, h2, Bool.and_true, if_pos rfl, if_neg (by omega)]
        rw [e1, e2]
        repeat' first
          | refine go_seq ?_
          | refine go_region ?_
          | (refine go_op rfl ?_; conv => whnf)
          | (refine go_nil ?_; conv => whnf)
          | (refine go_hit rfl rfl rfl ?_; conv => whnf)
          | (refine go_miss rfl rfl rfl ?_)
          | (refine go_undef rfl rfl rfl ?_)
          | (refine go_splitT rfl rfl rfl (fun h => ?_) (fun h => ?_) <;> conv => whnf)
          | (refine go_splitF rfl rfl rfl (fun h => ?_) (fun h => ?_) <;> conv => whnf)
          | (refine go_storeBox rfl rfl rfl rfl rfl rfl ?_; conv => whnf)
          | (refine go_dop rfl ?_; conv => whnf)
          | (refine go_dhit rfl rfl ?_; conv => whnf)
          | (refine go_dmiss rfl rfl ?_; conv => whnf)
          | (refine go_dundef rfl rfl ?_; conv => whnf)
          | (refine go_dend (by kernel_rfl) ?_; conv => whnf)
          | refine go_draw drawsOk ?_
          | (refine go_pickT rfl ?_; conv => whnf)
          | (refine go_pickF rfl ?_; conv => whnf)
          | (refine go_pick rfl (fun h => ?_) (fun h => ?_) <;> conv => whnf)
          | (refine go_call [] (hv) rfl rfl rfl rfl ?_; conv => whnf)
          | (refine go_call [] (hg) rfl rfl rfl rfl ?_; conv => whnf)
          | (refine go_call [] (hli) rfl rfl rfl rfl ?_; conv => whnf)
          | (refine ⟨by simp only [ofL_size, List.length_append, List.length_cons, List.length_nil]; omega, ?_⟩; conv => whnf)
          | (refine go_dsplit2 rfl (fun h => ?_) (fun h => ?_) <;> conv => whnf)
          | (refine go_loadB ?_; conv => whnf)
          | (refine ⟨by kernel_rfl, ?_⟩; conv => whnf)
          | (refine go_ret ?_; conv => whnf)
          | refine go_block ?_
          | (refine go_skip ?_; conv => whnf)
          | (refine go_exit ?_; conv => whnf)
          | refine go_true rfl ?_
          | refine go_false rfl ?_
          | refine go_cond rfl (fun h => ?_) (fun h => ?_)
          | refine ⟨rfl, ?_⟩
          | (refine ⟨trivial, ?_⟩; conv => whnf)
          | (refine ⟨le_of_ble rfl, ?_⟩; conv => whnf)
          | fail
        all_goals first
          | (exfalso; have h' := of_decide_eq_true h; omega)
          | exact ret_imm2 rfl rfl rfl rfl rfl (congrArg (fun z => D.agg [D.str (ofL l.d), D.str z, D.int .i64 (IntKind.i64.wrap (l.n + 1))]) (ofL_app l.p (lineOf k e ++ [10]))) rfl rfl
          | trace_state

theorem c26 (l : LogV) (e : Rec) (hf : l.fit) : CallOk Tryd.prog 26 [.imm (.agg l.enc), .imm (.agg e.enc)] { res := [.imm (.agg (appR l e).enc), .imm (.int .i64 (appN l e))] } := by
  refine callOk_of tyOk Tryd.func26 rfl rfl (le_of_ble rfl) (le_of_ble rfl) (mutOk_imm rfl _) ?_
  have hv := c20 l hf
  have hg := c36 e
  obtain ⟨hf1, hf2⟩ := hf
  cases h1 : validB l with
  | false =>
    rw [h1] at hv
    have e1 : appR l e = l := by unfold appR; rw [h1]; rfl
    have e2 : appN l e = 1 := by unfold appN; rw [h1]; rfl
    rw [e1, e2]
    repeat' first
      | refine go_seq ?_
      | refine go_region ?_
      | (refine go_op rfl ?_; conv => whnf)
      | (refine go_nil ?_; conv => whnf)
      | (refine go_hit rfl rfl rfl ?_; conv => whnf)
      | (refine go_miss rfl rfl rfl ?_)
      | (refine go_undef rfl rfl rfl ?_)
      | (refine go_splitT rfl rfl rfl (fun h => ?_) (fun h => ?_) <;> conv => whnf)
      | (refine go_splitF rfl rfl rfl (fun h => ?_) (fun h => ?_) <;> conv => whnf)
      | (refine go_storeBox rfl rfl rfl rfl rfl rfl ?_; conv => whnf)
      | (refine go_dop rfl ?_; conv => whnf)
      | (refine go_dhit rfl rfl ?_; conv => whnf)
      | (refine go_dmiss rfl rfl ?_; conv => whnf)
      | (refine go_dundef rfl rfl ?_; conv => whnf)
      | (refine go_dend (by kernel_rfl) ?_; conv => whnf)
      | refine go_draw drawsOk ?_
      | (refine go_pickT rfl ?_; conv => whnf)
      | (refine go_pickF rfl ?_; conv => whnf)
      | (refine go_pick rfl (fun h => ?_) (fun h => ?_) <;> conv => whnf)
      | (refine go_call [] (hv) rfl rfl rfl rfl ?_; conv => whnf)
      | (refine go_dsplit2 rfl (fun h => ?_) (fun h => ?_) <;> conv => whnf)
      | (refine go_loadB ?_; conv => whnf)
      | (refine ⟨by kernel_rfl, ?_⟩; conv => whnf)
      | (refine go_ret ?_; conv => whnf)
      | refine go_block ?_
      | (refine go_skip ?_; conv => whnf)
      | (refine go_exit ?_; conv => whnf)
      | refine go_true rfl ?_
      | refine go_false rfl ?_
      | refine go_cond rfl (fun h => ?_) (fun h => ?_)
      | refine ⟨rfl, ?_⟩
      | (refine ⟨trivial, ?_⟩; conv => whnf)
      | (refine ⟨le_of_ble rfl, ?_⟩; conv => whnf)
      | fail
    all_goals exact ret_imm2 rfl rfl rfl rfl rfl rfl rfl rfl
  | true =>
    rw [h1] at hv
    cases h2 : good e with
    | false =>
      rw [h2] at hg
      have e1 : appR l e = l := by unfold appR; rw [h1, h2]; rfl
      have e2 : appN l e = 1 := by unfold appN; rw [h1, h2]; rfl
      rw [e1, e2]
      repeat' first
        | refine go_seq ?_
        | refine go_region ?_
        | (refine go_op rfl ?_; conv => whnf)
        | (refine go_nil ?_; conv => whnf)
        | (refine go_hit rfl rfl rfl ?_; conv => whnf)
        | (refine go_miss rfl rfl rfl ?_)
        | (refine go_undef rfl rfl rfl ?_)
        | (refine go_splitT rfl rfl rfl (fun h => ?_) (fun h => ?_) <;> conv => whnf)
        | (refine go_splitF rfl rfl rfl (fun h => ?_) (fun h => ?_) <;> conv => whnf)
        | (refine go_storeBox rfl rfl rfl rfl rfl rfl ?_; conv => whnf)
        | (refine go_dop rfl ?_; conv => whnf)
        | (refine go_dhit rfl rfl ?_; conv => whnf)
        | (refine go_dmiss rfl rfl ?_; conv => whnf)
        | (refine go_dundef rfl rfl ?_; conv => whnf)
        | (refine go_dend (by kernel_rfl) ?_; conv => whnf)
        | refine go_draw drawsOk ?_
        | (refine go_pickT rfl ?_; conv => whnf)
        | (refine go_pickF rfl ?_; conv => whnf)
        | (refine go_pick rfl (fun h => ?_) (fun h => ?_) <;> conv => whnf)
        | (refine go_call [] (hv) rfl rfl rfl rfl ?_; conv => whnf)
        | (refine go_call [] (hg) rfl rfl rfl rfl ?_; conv => whnf)
        | (refine go_dsplit2 rfl (fun h => ?_) (fun h => ?_) <;> conv => whnf)
        | (refine go_loadB ?_; conv => whnf)
        | (refine ⟨by kernel_rfl, ?_⟩; conv => whnf)
        | (refine go_ret ?_; conv => whnf)
        | refine go_block ?_
        | (refine go_skip ?_; conv => whnf)
        | (refine go_exit ?_; conv => whnf)
        | refine go_true rfl ?_
        | refine go_false rfl ?_
        | refine go_cond rfl (fun h => ?_) (fun h => ?_)
        | refine ⟨rfl, ?_⟩
        | (refine ⟨trivial, ?_⟩; conv => whnf)
        | (refine ⟨le_of_ble rfl, ?_⟩; conv => whnf)
        | fail
      all_goals exact ret_imm2 rfl rfl rfl rfl rfl rfl rfl rfl
    | true =>
      rw [h2] at hg
      obtain ⟨k, hk, hk60⟩ := valid_n h1
      by_cases h3 : k = 60
      · have e1 : appR l e = l := by unfold appR; rw [h1, h2, Bool.and_true, if_pos rfl, if_pos (by omega)]
        have e2 : appN l e = 2 := by unfold appN; rw [h1, h2, Bool.and_true, if_pos rfl, if_pos (by omega)]
        rw [e1, e2]
        repeat' first
          | refine go_seq ?_
          | refine go_region ?_
          | (refine go_op rfl ?_; conv => whnf)
          | (refine go_nil ?_; conv => whnf)
          | (refine go_hit rfl rfl rfl ?_; conv => whnf)
          | (refine go_miss rfl rfl rfl ?_)
          | (refine go_undef rfl rfl rfl ?_)
          | (refine go_splitT rfl rfl rfl (fun h => ?_) (fun h => ?_) <;> conv => whnf)
          | (refine go_splitF rfl rfl rfl (fun h => ?_) (fun h => ?_) <;> conv => whnf)
          | (refine go_storeBox rfl rfl rfl rfl rfl rfl ?_; conv => whnf)
          | (refine go_dop rfl ?_; conv => whnf)
          | (refine go_dhit rfl rfl ?_; conv => whnf)
          | (refine go_dmiss rfl rfl ?_; conv => whnf)
          | (refine go_dundef rfl rfl ?_; conv => whnf)
          | (refine go_dend (by kernel_rfl) ?_; conv => whnf)
          | refine go_draw drawsOk ?_
          | (refine go_pickT rfl ?_; conv => whnf)
          | (refine go_pickF rfl ?_; conv => whnf)
          | (refine go_pick rfl (fun h => ?_) (fun h => ?_) <;> conv => whnf)
          | (refine go_call [] (hv) rfl rfl rfl rfl ?_; conv => whnf)
          | (refine go_call [] (hg) rfl rfl rfl rfl ?_; conv => whnf)
          | (refine go_dsplit2 rfl (fun h => ?_) (fun h => ?_) <;> conv => whnf)
          | (refine go_loadB ?_; conv => whnf)
          | (refine ⟨by kernel_rfl, ?_⟩; conv => whnf)
          | (refine go_ret ?_; conv => whnf)
          | refine go_block ?_
          | (refine go_skip ?_; conv => whnf)
          | (refine go_exit ?_; conv => whnf)
          | refine go_true rfl ?_
          | refine go_false rfl ?_
          | refine go_cond rfl (fun h => ?_) (fun h => ?_)
          | refine ⟨rfl, ?_⟩
          | (refine ⟨trivial, ?_⟩; conv => whnf)
          | (refine ⟨le_of_ble rfl, ?_⟩; conv => whnf)
          | fail
        all_goals first
          | exact ret_imm2 rfl rfl rfl rfl rfl rfl rfl rfl
          | (exfalso; have h' := of_decide_eq_false h; omega)
          | trace_state
      · have hli := c37 k e h2 (by omega)
        have hll := line_len h2 (k := k) (by omega)
        rw [← hk] at hli
        have hw : IntKind.i64.wrap (l.n + 1) = l.n + 1 := wrap_small (by omega) (by omega)
        have e1 : appR l e = ⟨l.d, l.p ++ (lineOf k e ++ [10]), IntKind.i64.wrap (l.n + 1)⟩ := by unfold appR; rw [h1, h2, Bool.and_true, if_pos rfl, if_neg (by omega), hk, Int.toNat_natCast, ← hk, hw]
        have e2 : appN l e = 0 := by unfold appN; rw [h1, h2, Bool.and_true, if_pos rfl, if_neg (by omega)]
        rw [e1, e2]
        repeat' first
          | refine go_seq ?_
          | refine go_region ?_
          | (refine go_op rfl ?_; conv => whnf)
          | (refine go_nil ?_; conv => whnf)
          | (refine go_hit rfl rfl rfl ?_; conv => whnf)
          | (refine go_miss rfl rfl rfl ?_)
          | (refine go_undef rfl rfl rfl ?_)
          | (refine go_splitT rfl rfl rfl (fun h => ?_) (fun h => ?_) <;> conv => whnf)
          | (refine go_splitF rfl rfl rfl (fun h => ?_) (fun h => ?_) <;> conv => whnf)
          | (refine go_storeBox rfl rfl rfl rfl rfl rfl ?_; conv => whnf)
          | (refine go_dop rfl ?_; conv => whnf)
          | (refine go_dhit rfl rfl ?_; conv => whnf)
          | (refine go_dmiss rfl rfl ?_; conv => whnf)
          | (refine go_dundef rfl rfl ?_; conv => whnf)
          | (refine go_dend (by kernel_rfl) ?_; conv => whnf)
          | refine go_draw drawsOk ?_
          | (refine go_pickT rfl ?_; conv => whnf)
          | (refine go_pickF rfl ?_; conv => whnf)
          | (refine go_pick rfl (fun h => ?_) (fun h => ?_) <;> conv => whnf)
          | (refine go_call [] (hv) rfl rfl rfl rfl ?_; conv => whnf)
          | (refine go_call [] (hg) rfl rfl rfl rfl ?_; conv => whnf)
          | (refine go_call [] (hli) rfl rfl rfl rfl ?_; conv => whnf)
          | (refine ⟨by simp only [ofL_size, List.length_append, List.length_cons, List.length_nil]; omega, ?_⟩; conv => whnf)
          | (refine go_dsplit2 rfl (fun h => ?_) (fun h => ?_) <;> conv => whnf)
          | (refine go_loadB ?_; conv => whnf)
          | (refine ⟨by kernel_rfl, ?_⟩; conv => whnf)
          | (refine go_ret ?_; conv => whnf)
          | refine go_block ?_
          | (refine go_skip ?_; conv => whnf)
          | (refine go_exit ?_; conv => whnf)
          | refine go_true rfl ?_
          | refine go_false rfl ?_
          | refine go_cond rfl (fun h => ?_) (fun h => ?_)
          | refine ⟨rfl, ?_⟩
          | (refine ⟨trivial, ?_⟩; conv => whnf)
          | (refine ⟨le_of_ble rfl, ?_⟩; conv => whnf)
          | fail
        all_goals first
          | (exfalso; have h' := of_decide_eq_true h; omega)
          | exact ret_imm2 rfl rfl rfl rfl rfl (congrArg (fun z => D.agg [D.str (ofL l.d), D.str z, D.int .i64 (IntKind.i64.wrap (l.n + 1))]) (ofL_app l.p (lineOf k e ++ [10]))) rfl rfl
          | trace_state

def logrR (l : LogV) : List (Rec × Nat) := if validB l then l.all else []
theorem c27 (l : LogV) (hf : l.fit) : CallOk Tryd.prog 27 [.imm (.agg l.enc)] { res := [.arr 27 2 ((logrR l).map recRow), .imm (.bool (validB l))] } := by
  refine callOk_of tyOk Tryd.func27 rfl rfl (le_of_ble rfl) (le_of_ble rfl) (mutOk_imm rfl _) ?_
  have hv := c40 l hf
  obtain ⟨hf1, hf2⟩ := hf
  cases h1 : validB l with
  | false =>
    rw [h1] at hv
    have h0 : logrR l = [] := by unfold logrR; rw [h1]; rfl
    rw [h0]
    repeat' first
      | refine go_seq ?_
      | refine go_region ?_
      | (refine go_op rfl ?_; conv => whnf)
      | (refine go_nil ?_; conv => whnf)
      | (refine go_hit rfl rfl rfl ?_; conv => whnf)
      | (refine go_miss rfl rfl rfl ?_)
      | (refine go_undef rfl rfl rfl ?_)
      | (refine go_splitT rfl rfl rfl (fun h => ?_) (fun h => ?_) <;> conv => whnf)
      | (refine go_splitF rfl rfl rfl (fun h => ?_) (fun h => ?_) <;> conv => whnf)
      | (refine go_storeBox rfl rfl rfl rfl rfl rfl ?_; conv => whnf)
      | (refine go_dop rfl ?_; conv => whnf)
      | (refine go_dhit rfl rfl ?_; conv => whnf)
      | (refine go_dmiss rfl rfl ?_; conv => whnf)
      | (refine go_dundef rfl rfl ?_; conv => whnf)
      | (refine go_dend (by kernel_rfl) ?_; conv => whnf)
      | refine go_draw drawsOk ?_
      | (refine go_pickT rfl ?_; conv => whnf)
      | (refine go_pickF rfl ?_; conv => whnf)
      | (refine go_pick rfl (fun h => ?_) (fun h => ?_) <;> conv => whnf)
      | (refine go_call [] (hv) rfl rfl rfl rfl ?_; conv => whnf)
      | (refine go_dsplit2 rfl (fun h => ?_) (fun h => ?_) <;> conv => whnf)
      | (refine go_loadB ?_; conv => whnf)
      | (refine ⟨by kernel_rfl, ?_⟩; conv => whnf)
      | (refine go_ret ?_; conv => whnf)
      | refine go_block ?_
      | (refine go_skip ?_; conv => whnf)
      | (refine go_exit ?_; conv => whnf)
      | refine go_true rfl ?_
      | refine go_false rfl ?_
      | refine go_cond rfl (fun h => ?_) (fun h => ?_)
      | refine ⟨rfl, ?_⟩
      | (refine ⟨trivial, ?_⟩; conv => whnf)
      | (refine ⟨le_of_ble rfl, ?_⟩; conv => whnf)
      | fail
    all_goals exact ret_arr2 rfl rfl rfl rfl rfl rfl (by simp) rfl rfl rfl
  | true =>
    rw [h1] at hv
    have h0 : logrR l = l.all := by unfold logrR; rw [h1]; rfl
    have hr : CallOk Tryd.prog 38 [.imm (.str (ofL l.d ++ ofL l.p))] { res := [.arr 27 2 (l.all.map recRow), .imm (.int .i64 (endOf l.all : Nat))] } := by
      have := c38 (l.d ++ l.p) (by
        have := (valid_iff _ _ _).1 ((validB_iff l).1 h1)
        rw [List.length_append]; omega)
      rw [recs_all] at this
      rw [ofL_app]; exact this
    rw [h0]
    repeat' first
      | refine go_seq ?_
      | refine go_region ?_
      | (refine go_op rfl ?_; conv => whnf)
      | (refine go_nil ?_; conv => whnf)
      | (refine go_hit rfl rfl rfl ?_; conv => whnf)
      | (refine go_miss rfl rfl rfl ?_)
      | (refine go_undef rfl rfl rfl ?_)
      | (refine go_splitT rfl rfl rfl (fun h => ?_) (fun h => ?_) <;> conv => whnf)
      | (refine go_splitF rfl rfl rfl (fun h => ?_) (fun h => ?_) <;> conv => whnf)
      | (refine go_storeBox rfl rfl rfl rfl rfl rfl ?_; conv => whnf)
      | (refine go_dop rfl ?_; conv => whnf)
      | (refine go_dhit rfl rfl ?_; conv => whnf)
      | (refine go_dmiss rfl rfl ?_; conv => whnf)
      | (refine go_dundef rfl rfl ?_; conv => whnf)
      | (refine go_dend (by kernel_rfl) ?_; conv => whnf)
      | refine go_draw drawsOk ?_
      | (refine go_pickT rfl ?_; conv => whnf)
      | (refine go_pickF rfl ?_; conv => whnf)
      | (refine go_pick rfl (fun h => ?_) (fun h => ?_) <;> conv => whnf)
      | (refine go_call [] (hv) rfl rfl rfl rfl ?_; conv => whnf)
      | (refine go_call [] (hr) rfl rfl rfl rfl ?_; conv => whnf)
      | (refine ⟨by rw [ofL_size, ofL_size]; omega, ?_⟩; conv => whnf)
      | (refine go_dsplit2 rfl (fun h => ?_) (fun h => ?_) <;> conv => whnf)
      | (refine go_loadB ?_; conv => whnf)
      | (refine ⟨by kernel_rfl, ?_⟩; conv => whnf)
      | (refine go_ret ?_; conv => whnf)
      | refine go_block ?_
      | (refine go_skip ?_; conv => whnf)
      | (refine go_exit ?_; conv => whnf)
      | refine go_true rfl ?_
      | refine go_false rfl ?_
      | refine go_cond rfl (fun h => ?_) (fun h => ?_)
      | refine ⟨rfl, ?_⟩
      | (refine ⟨trivial, ?_⟩; conv => whnf)
      | (refine ⟨le_of_ble rfl, ?_⟩; conv => whnf)
      | fail
    all_goals exact ret_arr2 rfl rfl rfl rfl rfl (by rw [List.drop_zero, List.take_length]) (by rw [← recs_all]; exact recs_gr _ _) rfl rfl rfl
theorem c28 (l : LogV) (hf : l.fit) : CallOk Tryd.prog 28 [.imm (.agg l.enc)] { res := [.arr 27 2 ((logrR l).map recRow), .imm (.bool (validB l))] } := by
  refine callOk_of tyOk Tryd.func28 rfl rfl (le_of_ble rfl) (le_of_ble rfl) (mutOk_imm rfl _) ?_
  have hv := c20 l hf
  obtain ⟨hf1, hf2⟩ := hf
  cases h1 : validB l with
  | false =>
    rw [h1] at hv
    have h0 : logrR l = [] := by unfold logrR; rw [h1]; rfl
    rw [h0]
    repeat' first
      | refine go_seq ?_
      | refine go_region ?_
      | (refine go_op rfl ?_; conv => whnf)
      | (refine go_nil ?_; conv => whnf)
      | (refine go_hit rfl rfl rfl ?_; conv => whnf)
      | (refine go_miss rfl rfl rfl ?_)
      | (refine go_undef rfl rfl rfl ?_)
      | (refine go_splitT rfl rfl rfl (fun h => ?_) (fun h => ?_) <;> conv => whnf)
      | (refine go_splitF rfl rfl rfl (fun h => ?_) (fun h => ?_) <;> conv => whnf)
      | (refine go_storeBox rfl rfl rfl rfl rfl rfl ?_; conv => whnf)
      | (refine go_dop rfl ?_; conv => whnf)
      | (refine go_dhit rfl rfl ?_; conv => whnf)
      | (refine go_dmiss rfl rfl ?_; conv => whnf)
      | (refine go_dundef rfl rfl ?_; conv => whnf)
      | (refine go_dend (by kernel_rfl) ?_; conv => whnf)
      | refine go_draw drawsOk ?_
      | (refine go_pickT rfl ?_; conv => whnf)
      | (refine go_pickF rfl ?_; conv => whnf)
      | (refine go_pick rfl (fun h => ?_) (fun h => ?_) <;> conv => whnf)
      | (refine go_call [] (hv) rfl rfl rfl rfl ?_; conv => whnf)
      | (refine go_dsplit2 rfl (fun h => ?_) (fun h => ?_) <;> conv => whnf)
      | (refine go_loadB ?_; conv => whnf)
      | (refine ⟨by kernel_rfl, ?_⟩; conv => whnf)
      | (refine go_ret ?_; conv => whnf)
      | refine go_block ?_
      | (refine go_skip ?_; conv => whnf)
      | (refine go_exit ?_; conv => whnf)
      | refine go_true rfl ?_
      | refine go_false rfl ?_
      | refine go_cond rfl (fun h => ?_) (fun h => ?_)
      | refine ⟨rfl, ?_⟩
      | (refine ⟨trivial, ?_⟩; conv => whnf)
      | (refine ⟨le_of_ble rfl, ?_⟩; conv => whnf)
      | fail
    all_goals exact ret_arr2 rfl rfl rfl rfl rfl rfl (by simp) rfl rfl rfl
  | true =>
    rw [h1] at hv
    have h0 : logrR l = l.all := by unfold logrR; rw [h1]; rfl
    have hr : CallOk Tryd.prog 39 [.imm (.str (ofL l.d ++ ofL l.p))] { res := [.arr 27 2 (l.all.map recRow), .imm (.list (endsTo l.all l.all.length))] } := by
      have := c39 (l.d ++ l.p) (by rw [List.length_append]; omega)
      rw [recs_all] at this
      rw [ofL_app]; exact this
    rw [h0]
    repeat' first
      | refine go_seq ?_
      | refine go_region ?_
      | (refine go_op rfl ?_; conv => whnf)
      | (refine go_nil ?_; conv => whnf)
      | (refine go_hit rfl rfl rfl ?_; conv => whnf)
      | (refine go_miss rfl rfl rfl ?_)
      | (refine go_undef rfl rfl rfl ?_)
      | (refine go_splitT rfl rfl rfl (fun h => ?_) (fun h => ?_) <;> conv => whnf)
      | (refine go_splitF rfl rfl rfl (fun h => ?_) (fun h => ?_) <;> conv => whnf)
      | (refine go_storeBox rfl rfl rfl rfl rfl rfl ?_; conv => whnf)
      | (refine go_dop rfl ?_; conv => whnf)
      | (refine go_dhit rfl rfl ?_; conv => whnf)
      | (refine go_dmiss rfl rfl ?_; conv => whnf)
      | (refine go_dundef rfl rfl ?_; conv => whnf)
      | (refine go_dend (by kernel_rfl) ?_; conv => whnf)
      | refine go_draw drawsOk ?_
      | (refine go_pickT rfl ?_; conv => whnf)
      | (refine go_pickF rfl ?_; conv => whnf)
      | (refine go_pick rfl (fun h => ?_) (fun h => ?_) <;> conv => whnf)
      | (refine go_call [] (hv) rfl rfl rfl rfl ?_; conv => whnf)
      | (refine go_call [] (hr) rfl rfl rfl rfl ?_; conv => whnf)
      | (refine ⟨by rw [ofL_size, ofL_size]; omega, ?_⟩; conv => whnf)
      | (refine go_dsplit2 rfl (fun h => ?_) (fun h => ?_) <;> conv => whnf)
      | (refine go_loadB ?_; conv => whnf)
      | (refine ⟨by kernel_rfl, ?_⟩; conv => whnf)
      | (refine go_ret ?_; conv => whnf)
      | refine go_block ?_
      | (refine go_skip ?_; conv => whnf)
      | (refine go_exit ?_; conv => whnf)
      | refine go_true rfl ?_
      | refine go_false rfl ?_
      | refine go_cond rfl (fun h => ?_) (fun h => ?_)
      | refine ⟨rfl, ?_⟩
      | (refine ⟨trivial, ?_⟩; conv => whnf)
      | (refine ⟨le_of_ble rfl, ?_⟩; conv => whnf)
      | fail
    all_goals exact ret_arr2 rfl rfl rfl rfl rfl (by rw [List.drop_zero, List.take_length]) (by rw [← recs_all]; exact recs_gr _ _) rfl rfl rfl
end Go.Proofs.YtjebblagiiajaaaDoor

