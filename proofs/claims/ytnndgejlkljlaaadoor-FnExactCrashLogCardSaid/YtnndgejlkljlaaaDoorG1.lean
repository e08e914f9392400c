/- The walks of printable texts, commands and records. -/
import Derived.Test.YtnndgejlkljlaaaDoorTy
import Derived.Test.YtnndgejlkljlaaaDoorAmD
import Derived.Test.YtnndgejlkljlaaaDoorAmC
import Derived.Test.YtnndgejlkljlaaaDoorSh
import Derived.Test.YtnndgejlkljlaaaDoorLgP
namespace Go.Proofs.YtnndgejlkljlaaaDoor
open Go Go.Am Go.Lg
set_option maxRecDepth 100000
set_option maxHeartbeats 4000000
attribute [local irreducible] amOps amC opCall opIndexAddr opPick retQ opMake opStore amDraw opAppend opLoad opNilCmp opIndex

def inR (x a b : Int) : Bool := decide (a ≤ x) && decide (x ≤ b)
def i64 (x : Int) : Prop := -9223372036854775808 ≤ x ∧ x ≤ 9223372036854775807
theorem wrap_small {n : Int} (h1 : -9223372036854775808 ≤ n) (h2 : n ≤ 9223372036854775807) : IntKind.i64.wrap n = n := by rw [IntKind.wrap_i64]; omega

theorem c9 (x a b : Int) : CallOk Tryd.prog 9 [.imm (.int .i64 x), .imm (.int .i64 a), .imm (.int .i64 b)] { res := [.imm (.bool (inR x a b))] } := by
  refine callOk_of tyOk Tryd.func9 rfl rfl (le_of_ble rfl) (le_of_ble rfl) (mutOk_imm rfl _) ?_
  repeat' first | refine go_seq ?_ | refine go_region ?_ | refine go_miss rfl rfl rfl ?_ | refine go_undef rfl rfl rfl ?_ | ((first | refine go_op rfl ?_ | refine go_nil ?_ | refine go_hit rfl rfl rfl ?_ | refine go_splitT rfl rfl rfl (fun h => ?_) (fun h => ?_) | refine go_splitF rfl rfl rfl (fun h => ?_) (fun h => ?_) | refine go_pickT rfl ?_ | refine go_pickF rfl ?_ | refine go_pick rfl (fun h => ?_) (fun h => ?_)) <;> conv => whnf) | ((first | refine ⟨by kernel_rfl, ?_⟩ | refine go_ret ?_) <;> conv => whnf) | ((first | refine go_skip ?_) <;> conv => whnf) | refine ⟨rfl, ?_⟩ | ((first | refine ⟨trivial, ?_⟩ | refine ⟨le_of_ble rfl, ?_⟩) <;> conv => whnf) | fail
  all_goals refine ret_imm rfl rfl rfl rfl ?_ rfl
  all_goals first | (simp_all [inR]; done) | (simp_all [inR]; omega)

theorem c11 (x a b : Int) : CallOk Tryd.prog 11 [.imm (.int .i64 x), .imm (.int .i64 a), .imm (.int .i64 b)] { res := [.imm (.bool (inR x a b))] } := by
  refine callOk_of tyOk Tryd.func11 rfl rfl (le_of_ble rfl) (le_of_ble rfl) (mutOk_imm rfl _) ?_
  repeat' first | refine go_seq ?_ | refine go_region ?_ | refine go_miss rfl rfl rfl ?_ | refine go_undef rfl rfl rfl ?_ | ((first | refine go_op rfl ?_ | refine go_nil ?_ | refine go_hit rfl rfl rfl ?_ | refine go_splitT rfl rfl rfl (fun h => ?_) (fun h => ?_) | refine go_splitF rfl rfl rfl (fun h => ?_) (fun h => ?_) | refine go_pickT rfl ?_ | refine go_pickF rfl ?_ | refine go_pick rfl (fun h => ?_) (fun h => ?_)) <;> conv => whnf) | ((first | refine ⟨by kernel_rfl, ?_⟩ | refine go_ret ?_) <;> conv => whnf) | ((first | refine go_skip ?_) <;> conv => whnf) | refine ⟨rfl, ?_⟩ | ((first | refine ⟨trivial, ?_⟩ | refine ⟨le_of_ble rfl, ?_⟩) <;> conv => whnf) | fail
  all_goals refine ret_imm rfl rfl rfl rfl ?_ rfl
  all_goals first | (simp_all [inR]; done) | (simp_all [inR]; omega)

theorem idx_dec (l : List UInt8) (c : UInt8) : decide (0 ≤ Lib.indexByte l c) = decide (c ∈ l) := by
  rw [index_eq]
  by_cases h : c ∈ l <;> simp [h]

theorem c33 (l : List UInt8) (c : UInt8) : CallOk Tryd.prog 33 [.imm (.str (ofL l)), .imm (.str ⟨#[c]⟩)] { res := [.imm (.bool (decide (c ∈ l)))] } := by
  have h := callOk_containsOne lays144 ⟨_, Tryd.func33, rfl, rfl⟩ (ofL l) c
  rw [show (ofL l).data.toList = l from rfl, idx_dec] at h
  exact h

theorem pr_iff (b : UInt8) : pr b = true ↔ 32 ≤ (b.toNat : Int) ∧ (b.toNat : Int) ≤ 126 ∧ (b.toNat : Int) ≠ 35 := by
  simp [pr, and_assoc]
  omega

theorem c28 (l : List UInt8) (hl : l.length ≤ 4611686018427387903) : CallOk Tryd.prog 28 [.imm (.str (ofL l))] { res := [.imm (.bool (l.all pr))] } := by
  refine callOk_of tyOk Tryd.func28 rfl rfl (le_of_ble rfl) (le_of_ble rfl) (mutOk_imm rfl _) ?_
  have hsz := ofL_size l
  repeat' first | refine go_seq ?_ | refine go_region ?_ | refine go_miss rfl rfl rfl ?_ | refine go_undef rfl rfl rfl ?_ | ((first | refine go_op rfl ?_ | refine go_nil ?_ | refine go_hit rfl rfl rfl ?_ | refine go_splitT rfl rfl rfl (fun h => ?_) (fun h => ?_) | refine go_splitF rfl rfl rfl (fun h => ?_) (fun h => ?_) | refine go_pickT rfl ?_ | refine go_pickF rfl ?_ | refine go_pick rfl (fun h => ?_) (fun h => ?_)) <;> conv => whnf) | ((first | refine ⟨by kernel_rfl, ?_⟩ | refine go_ret ?_) <;> conv => whnf) | refine go_block ?_ | ((first | refine go_skip ?_ | refine go_exit ?_) <;> conv => whnf) | refine go_true rfl ?_ | refine go_false rfl ?_ | refine go_cond rfl (fun h => ?_) (fun h => ?_) | refine ⟨rfl, ?_⟩ | ((first | refine ⟨trivial, ?_⟩ | refine ⟨le_of_ble rfl, ?_⟩) <;> conv => whnf) | fail
  refine go_loop (α := Nat) (fun i => i ≤ l.length ∧ (l.take i).all pr = true) (fun i => l.length - i) (fun i => st Tryd.f28.ntmps [(0, .imm (.str (ofL l))), (5, .imm (.int .i64 (ofL l).size)), (6, .imm (.int .i64 (i : Nat)))] [] []) 0
    ⟨Nat.zero_le _, rfl⟩ (ref_st0 rfl ⟨rfl, rfl, rfl, trivial⟩ rfl) ?_
  rintro i ⟨hi, ha⟩
  cases hx : l[i]? with
  | none =>
    have hge := le_of_at hx
    repeat' first | refine go_seq ?_ | refine go_region ?_ | refine go_miss rfl rfl rfl ?_ | refine go_undef rfl rfl rfl ?_ | ((first | refine go_op rfl ?_ | refine go_nil ?_ | refine go_hit rfl rfl rfl ?_ | refine go_splitT rfl rfl rfl (fun h => ?_) (fun h => ?_) | refine go_splitF rfl rfl rfl (fun h => ?_) (fun h => ?_) | refine go_pickT rfl ?_ | refine go_pickF rfl ?_ | refine go_pick rfl (fun h => ?_) (fun h => ?_)) <;> conv => whnf) | ((first | refine ⟨by kernel_rfl, ?_⟩ | refine go_ret ?_) <;> conv => whnf) | refine go_block ?_ | ((first | refine go_skip ?_ | refine go_exit ?_) <;> conv => whnf) | refine go_true rfl ?_ | refine go_false rfl ?_ | refine go_cond rfl (fun h => ?_) (fun h => ?_) | refine ⟨rfl, ?_⟩ | ((first | refine ⟨trivial, ?_⟩ | refine ⟨le_of_ble rfl, ?_⟩) <;> conv => whnf) | fail
    all_goals first
      | (exfalso; simp at h; omega)
      | exact ret_imm rfl rfl rfl rfl (by rw [all_end hge ha]) rfl
  | some b =>
    have hlt := lt_of_at hx
    have hb := byteL hx
    have hp := pr_iff b
    repeat' first | refine go_seq ?_ | refine go_region ?_ | refine go_miss rfl rfl rfl ?_ | refine go_undef rfl rfl rfl ?_ | ((first | refine go_op rfl ?_ | refine go_nil ?_ | refine go_hit rfl rfl rfl ?_ | refine go_splitT rfl rfl rfl (fun h => ?_) (fun h => ?_) | refine go_splitF rfl rfl rfl (fun h => ?_) (fun h => ?_) | refine go_pickT rfl ?_ | refine go_pickF rfl ?_ | refine go_pick rfl (fun h => ?_) (fun h => ?_) | refine go_idxStr rfl rfl rfl (by omega) hb ?_) <;> conv => whnf) | ((first | refine ⟨by kernel_rfl, ?_⟩ | refine go_ret ?_) <;> conv => whnf) | refine go_block ?_ | ((first | refine go_skip ?_ | refine go_exit ?_) <;> conv => whnf) | refine go_true rfl ?_ | refine go_false rfl ?_ | refine go_cond rfl (fun h => ?_) (fun h => ?_) | refine ⟨rfl, ?_⟩ | ((first | refine ⟨trivial, ?_⟩ | refine ⟨le_of_ble rfl, ?_⟩) <;> conv => whnf) | fail
    all_goals first
      | (exfalso; simp at h; omega)
      | (have hf : pr b = false := by
           rw [Bool.eq_false_iff, ne_eq, hp]; simp at h; omega
         exact ret_imm rfl rfl rfl rfl (by rw [all_not hx hf]) rfl)
      | (exact go_next (i + 1) ⟨by omega, all_next hx ha (hp.2 (by simp at *; omega))⟩ (by omega) (ref_st0 rfl ⟨rfl, rfl, next_i (by omega), trivial⟩ rfl))
      | trace_state

theorem c23 (l : List UInt8) (m : Int) (hl : l.length ≤ 4611686018427387903) : CallOk Tryd.prog 23 [.imm (.str (ofL l)), .imm (.int .i64 m)] { res := [.imm (.bool (l.all pr && decide ((l.length : Int) ≤ m)))] } := by
  refine callOk_of tyOk Tryd.func23 rfl rfl (le_of_ble rfl) (le_of_ble rfl) (mutOk_imm rfl _) ?_
  have hsz := ofL_size l
  repeat' first | refine go_seq ?_ | refine go_region ?_ | refine go_miss rfl rfl rfl ?_ | refine go_undef rfl rfl rfl ?_ | ((first | refine go_op rfl ?_ | refine go_nil ?_ | refine go_hit rfl rfl rfl ?_ | refine go_splitT rfl rfl rfl (fun h => ?_) (fun h => ?_) | refine go_splitF rfl rfl rfl (fun h => ?_) (fun h => ?_) | refine go_pickT rfl ?_ | refine go_pickF rfl ?_ | refine go_pick rfl (fun h => ?_) (fun h => ?_)) <;> conv => whnf) | ((first | refine ⟨by kernel_rfl, ?_⟩ | refine go_ret ?_) <;> conv => whnf) | refine go_block ?_ | ((first | refine go_skip ?_ | refine go_exit ?_) <;> conv => whnf) | refine go_true rfl ?_ | refine go_false rfl ?_ | refine go_cond rfl (fun h => ?_) (fun h => ?_) | refine ⟨rfl, ?_⟩ | ((first | refine ⟨trivial, ?_⟩ | refine ⟨le_of_ble rfl, ?_⟩) <;> conv => whnf) | fail
  refine go_loop (α := Nat) (fun i => i ≤ l.length ∧ (l.take i).all pr = true) (fun i => l.length - i) (fun i => st Tryd.f23.ntmps [(0, .imm (.str (ofL l))), (1, .imm (.int .i64 m)), (5, .imm (.int .i64 (i : Nat)))] [] []) 0
    ⟨Nat.zero_le _, rfl⟩ (ref_st0 rfl ⟨rfl, rfl, rfl, trivial⟩ rfl) ?_
  rintro i ⟨hi, ha⟩
  cases hx : l[i]? with
  | none =>
    have hge := le_of_at hx
    repeat' first | refine go_seq ?_ | refine go_region ?_ | refine go_miss rfl rfl rfl ?_ | refine go_undef rfl rfl rfl ?_ | ((first | refine go_op rfl ?_ | refine go_nil ?_ | refine go_hit rfl rfl rfl ?_ | refine go_splitT rfl rfl rfl (fun h => ?_) (fun h => ?_) | refine go_splitF rfl rfl rfl (fun h => ?_) (fun h => ?_) | refine go_pickT rfl ?_ | refine go_pickF rfl ?_ | refine go_pick rfl (fun h => ?_) (fun h => ?_)) <;> conv => whnf) | ((first | refine ⟨by kernel_rfl, ?_⟩ | refine go_ret ?_) <;> conv => whnf) | refine go_block ?_ | ((first | refine go_skip ?_ | refine go_exit ?_) <;> conv => whnf) | refine go_true rfl ?_ | refine go_false rfl ?_ | refine go_cond rfl (fun h => ?_) (fun h => ?_) | refine ⟨rfl, ?_⟩ | ((first | refine ⟨trivial, ?_⟩ | refine ⟨le_of_ble rfl, ?_⟩) <;> conv => whnf) | fail
    all_goals first
      | (exfalso; simp at h; omega)
      | exact ret_imm rfl rfl rfl rfl (by rw [all_end hge ha]; rfl) rfl
      | trace_state
  | some b =>
    have hlt := lt_of_at hx
    have hb := byteL hx
    have hp := pr_iff b
    have hw : IntKind.i64.wrap (b.toNat : Int) = b.toNat := wrap_small (by omega) (by have := b.toNat_lt; omega)
    have hc := c9 (b.toNat : Int) 32 126
    rw [← hw] at hc
    repeat' first | refine go_seq ?_ | refine go_region ?_ | refine go_miss rfl rfl rfl ?_ | refine go_undef rfl rfl rfl ?_ | ((first | refine go_op rfl ?_ | refine go_nil ?_ | refine go_hit rfl rfl rfl ?_ | refine go_splitT rfl rfl rfl (fun h => ?_) (fun h => ?_) | refine go_splitF rfl rfl rfl (fun h => ?_) (fun h => ?_) | refine go_pickT rfl ?_ | refine go_pickF rfl ?_ | refine go_pick rfl (fun h => ?_) (fun h => ?_) | refine go_call [] (hc) rfl rfl rfl rfl ?_ | refine go_idxStr rfl rfl rfl (by omega) hb ?_) <;> conv => whnf) | ((first | refine ⟨by kernel_rfl, ?_⟩ | refine go_ret ?_) <;> conv => whnf) | refine go_block ?_ | ((first | refine go_skip ?_ | refine go_exit ?_) <;> conv => whnf) | refine go_true rfl ?_ | refine go_false rfl ?_ | refine go_cond rfl (fun h => ?_) (fun h => ?_) | refine ⟨rfl, ?_⟩ | ((first | refine ⟨trivial, ?_⟩ | refine ⟨le_of_ble rfl, ?_⟩) <;> conv => whnf) | fail
    all_goals first
      | (exfalso; simp at h; omega)
      | (have hf : pr b = false := by
           rw [Bool.eq_false_iff, ne_eq, hp]; simp [inR, hw] at *; omega
         exact ret_imm rfl rfl rfl rfl (by rw [all_not hx hf]; rfl) rfl)
      | (exact go_next (i + 1) ⟨by omega, all_next hx ha (hp.2 (by simp [inR, hw] at *; omega))⟩ (by omega) (ref_st0 rfl ⟨rfl, rfl, next_i (by omega), trivial⟩ rfl))
      | trace_state
end Go.Proofs.YtnndgejlkljlaaaDoor

