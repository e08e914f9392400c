/- The walks of names, times and messages. -/
import Derived.Test.YtbjjhiihoiogoaaTy
import Derived.Test.YtbjjhiihoiogoaaAmC
namespace Go.Proofs.Ytbjjhiihoiogoaa
open Go Go.Am
set_option maxRecDepth 100000
set_option maxHeartbeats 4000000
attribute [local irreducible] amOps amC opCall opIndexAddr opPick retQ opMake opStore amDraw opAppend opLoad opNilCmp opIndex

def inR (x a b : Int) : Bool := decide (a ≤ x) && decide (x ≤ b)
def i64 (x : Int) : Prop := -9223372036854775808 ≤ x ∧ x ≤ 9223372036854775807
theorem wrap_small {n : Int} (h1 : -9223372036854775808 ≤ n) (h2 : n ≤ 9223372036854775807) : IntKind.i64.wrap n = n := by rw [IntKind.wrap_i64]; omega

theorem c83 (x a b : Int) : CallOk Try.prog 83 [.imm (.int .i64 x), .imm (.int .i64 a), .imm (.int .i64 b)] { res := [.imm (.bool (inR x a b))] } := by
  refine callOk_of tyOk Try.func83 rfl rfl (le_of_ble rfl) (le_of_ble rfl) (mutOk_imm rfl _) ?_
  repeat' first | refine go_seq ?_ | refine go_region ?_ | refine go_miss rfl rfl rfl ?_ | refine go_undef rfl rfl rfl ?_ | ((first | refine go_op rfl ?_ | refine go_nil ?_ | refine go_hit rfl rfl rfl ?_ | refine go_splitT rfl rfl rfl (fun h => ?_) (fun h => ?_) | refine go_splitF rfl rfl rfl (fun h => ?_) (fun h => ?_) | refine go_pickT rfl ?_ | refine go_pickF rfl ?_ | refine go_pick rfl (fun h => ?_) (fun h => ?_)) <;> conv => whnf) | ((first | refine ⟨by kernel_rfl, ?_⟩ | refine go_ret ?_) <;> conv => whnf) | ((first | refine go_skip ?_) <;> conv => whnf) | refine ⟨rfl, ?_⟩ | ((first | refine ⟨trivial, ?_⟩ | refine ⟨le_of_ble rfl, ?_⟩) <;> conv => whnf) | fail
  all_goals refine ret_imm rfl rfl rfl rfl ?_ rfl
  all_goals first | (simp_all [inR]; done) | (simp_all [inR]; omega)

theorem c89 (x a b : Int) : CallOk Try.prog 89 [.imm (.int .i64 x), .imm (.int .i64 a), .imm (.int .i64 b)] { res := [.imm (.bool (inR x a b))] } := by
  refine callOk_of tyOk Try.func89 rfl rfl (le_of_ble rfl) (le_of_ble rfl) (mutOk_imm rfl _) ?_
  repeat' first | refine go_seq ?_ | refine go_region ?_ | refine go_miss rfl rfl rfl ?_ | refine go_undef rfl rfl rfl ?_ | ((first | refine go_op rfl ?_ | refine go_nil ?_ | refine go_hit rfl rfl rfl ?_ | refine go_splitT rfl rfl rfl (fun h => ?_) (fun h => ?_) | refine go_splitF rfl rfl rfl (fun h => ?_) (fun h => ?_) | refine go_pickT rfl ?_ | refine go_pickF rfl ?_ | refine go_pick rfl (fun h => ?_) (fun h => ?_)) <;> conv => whnf) | ((first | refine ⟨by kernel_rfl, ?_⟩ | refine go_ret ?_) <;> conv => whnf) | ((first | refine go_skip ?_) <;> conv => whnf) | refine ⟨rfl, ?_⟩ | ((first | refine ⟨trivial, ?_⟩ | refine ⟨le_of_ble rfl, ?_⟩) <;> conv => whnf) | fail
  all_goals refine ret_imm rfl rfl rfl rfl ?_ rfl
  all_goals first | (simp_all [inR]; done) | (simp_all [inR]; omega)

def timeOk (x : Int) : Bool := inR x 0 1799

theorem c158 (x : Int) : CallOk Try.prog 158 [.imm (.int .i64 x)] { res := [.imm (.bool (timeOk x))] } := by
  refine callOk_of tyOk Try.func158 rfl rfl (le_of_ble rfl) (le_of_ble rfl) (mutOk_imm rfl _) ?_
  repeat' first | refine go_seq ?_ | refine go_region ?_ | ((first | refine go_op rfl ?_ | refine go_nil ?_ | refine go_call [] (c83 _ _ _) rfl rfl rfl rfl ?_) <;> conv => whnf) | ((first | refine ⟨by kernel_rfl, ?_⟩ | refine go_ret ?_) <;> conv => whnf) | ((first | refine go_skip ?_) <;> conv => whnf) | refine ⟨rfl, ?_⟩ | ((first | refine ⟨trivial, ?_⟩ | refine ⟨le_of_ble rfl, ?_⟩) <;> conv => whnf) | fail
  all_goals exact ret_imm rfl rfl rfl rfl rfl rfl

theorem c104 (x : Int) : CallOk Try.prog 104 [.imm (.int .i64 x)] { res := [.imm (.bool (timeOk x))] } := by
  refine callOk_of tyOk Try.func104 rfl rfl (le_of_ble rfl) (le_of_ble rfl) (mutOk_imm rfl _) ?_
  repeat' first | refine go_seq ?_ | refine go_region ?_ | ((first | refine go_op rfl ?_ | refine go_nil ?_ | refine go_call [] (c89 _ _ _) rfl rfl rfl rfl ?_) <;> conv => whnf) | ((first | refine ⟨by kernel_rfl, ?_⟩ | refine go_ret ?_) <;> conv => whnf) | ((first | refine go_skip ?_) <;> conv => whnf) | refine ⟨rfl, ?_⟩ | ((first | refine ⟨trivial, ?_⟩ | refine ⟨le_of_ble rfl, ?_⟩) <;> conv => whnf) | fail
  all_goals exact ret_imm rfl rfl rfl rfl rfl rfl

/-! ### Names -/

def bytes (s : ByteArray) : List UInt8 := s.data.toList
theorem bytes_len (s : ByteArray) : (bytes s).length = s.size := by unfold bytes; rw [Array.length_toList]; rfl
def lowB (b : UInt8) : Bool := decide (97 ≤ (b.toNat : Int)) && decide ((b.toNat : Int) ≤ 122)
def digB (b : UInt8) : Bool := decide (48 ≤ (b.toNat : Int)) && decide ((b.toNat : Int) ≤ 57)
def low0 (s : ByteArray) : Bool := match (bytes s)[0]? with | some b => lowB b | none => false
def nameOk (s : ByteArray) : Bool := inR s.size 1 8 && low0 s && (bytes s).all (fun b => lowB b || digB b)

theorem byte_at {s : ByteArray} {i : Nat} {b : UInt8} (h : (bytes s)[i]? = some b) : s.data.toList[((i : Nat) : Int).toNat]? = some b := h

theorem c187 (s : ByteArray) : CallOk Try.prog 187 [.imm (.str s)] { res := [.imm (.bool (nameOk s))] } := by
  refine callOk_of tyOk Try.func187 rfl rfl (le_of_ble rfl) (le_of_ble rfl) (mutOk_imm rfl _) ?_
  have hc := c83 s.size 1 8
  have hlen := bytes_len s
  cases h18 : inR (s.size : Int) 1 8 with
  | false =>
    have hm : nameOk s = false := by simp [nameOk, h18]
    rw [h18] at hc
    repeat' first | refine go_seq ?_ | refine go_region ?_ | refine go_miss rfl rfl rfl ?_ | refine go_undef rfl rfl rfl ?_ | ((first | refine go_op rfl ?_ | refine go_nil ?_ | refine go_hit rfl rfl rfl ?_ | refine go_splitT rfl rfl rfl (fun h => ?_) (fun h => ?_) | refine go_splitF rfl rfl rfl (fun h => ?_) (fun h => ?_) | refine go_pickT rfl ?_ | refine go_pickF rfl ?_ | refine go_pick rfl (fun h => ?_) (fun h => ?_) | refine go_call [] (hc) rfl rfl rfl rfl ?_) <;> conv => whnf) | ((first | refine ⟨by kernel_rfl, ?_⟩ | refine go_ret ?_) <;> conv => whnf) | refine go_block ?_ | ((first | refine go_skip ?_ | refine go_exit ?_) <;> conv => whnf) | refine go_true rfl ?_ | refine go_false rfl ?_ | refine go_cond rfl (fun h => ?_) (fun h => ?_) | refine ⟨rfl, ?_⟩ | ((first | refine ⟨trivial, ?_⟩ | refine ⟨le_of_ble rfl, ?_⟩) <;> conv => whnf) | fail
    all_goals exact ret_imm rfl rfl rfl rfl (by rw [hm]) rfl
  | true =>
    have hr : 1 ≤ (s.size : Int) ∧ (s.size : Int) ≤ 8 := by simpa [inR] using h18
    obtain ⟨b0, hb0⟩ : ∃ b, (bytes s)[0]? = some b := ⟨_, List.getElem?_eq_getElem (by omega)⟩
    have hb0' : s.data.toList[(0 : Int).toNat]? = some b0 := hb0
    have hl0 : low0 s = lowB b0 := by simp [low0, hb0]
    rw [h18] at hc
    repeat' first | refine go_seq ?_ | refine go_region ?_ | refine go_miss rfl rfl rfl ?_ | refine go_undef rfl rfl rfl ?_ | ((first | refine go_op rfl ?_ | refine go_nil ?_ | refine go_hit rfl rfl rfl ?_ | refine go_splitT rfl rfl rfl (fun h => ?_) (fun h => ?_) | refine go_splitF rfl rfl rfl (fun h => ?_) (fun h => ?_) | refine go_pickT rfl ?_ | refine go_pickF rfl ?_ | refine go_pick rfl (fun h => ?_) (fun h => ?_) | refine go_call [] (hc) rfl rfl rfl rfl ?_ | refine go_idxStr rfl rfl rfl (by omega) hb0' ?_) <;> conv => whnf) | ((first | refine ⟨by kernel_rfl, ?_⟩ | refine go_ret ?_) <;> conv => whnf) | refine go_block ?_ | ((first | refine go_skip ?_ | refine go_exit ?_) <;> conv => whnf) | refine go_true rfl ?_ | refine go_false rfl ?_ | refine go_cond rfl (fun h => ?_) (fun h => ?_) | refine ⟨rfl, ?_⟩ | ((first | refine ⟨trivial, ?_⟩ | refine ⟨le_of_ble rfl, ?_⟩) <;> conv => whnf) | fail
    all_goals try (
      have hm : nameOk s = false := by
        simp only [nameOk, hl0, lowB]
        simp at h
        simp
        intro
        omega
      exact ret_imm rfl rfl rfl rfl (by rw [hm]) rfl)
    have hlow : low0 s = true := by rw [hl0]; simp [lowB] at *; omega
    refine go_loop (α := Nat) (fun i => i ≤ s.size ∧ ((bytes s).take i).all (fun b => lowB b || digB b) = true) (fun i => s.size - i) (fun i => st Try.f187.ntmps [(0, .imm (.str s)), (3, .imm (.int .i64 (i : Nat)))] [] []) 0
      ⟨Nat.zero_le _, rfl⟩ (ref_st0 rfl ⟨rfl, rfl, trivial⟩ rfl) ?_
    rintro i ⟨hi, ha⟩
    cases hx : (bytes s)[i]? with
    | none =>
      have hge := le_of_at hx
      have hm : nameOk s = true := by simp only [nameOk, h18, hlow, all_end hge ha]; rfl
      repeat' first | refine go_seq ?_ | refine go_region ?_ | refine go_miss rfl rfl rfl ?_ | refine go_undef rfl rfl rfl ?_ | ((first | refine go_op rfl ?_ | refine go_nil ?_ | refine go_hit rfl rfl rfl ?_ | refine go_splitT rfl rfl rfl (fun h => ?_) (fun h => ?_) | refine go_splitF rfl rfl rfl (fun h => ?_) (fun h => ?_) | refine go_pickT rfl ?_ | refine go_pickF rfl ?_ | refine go_pick rfl (fun h => ?_) (fun h => ?_)) <;> conv => whnf) | ((first | refine ⟨by kernel_rfl, ?_⟩ | refine go_ret ?_) <;> conv => whnf) | refine go_block ?_ | ((first | refine go_skip ?_ | refine go_exit ?_) <;> conv => whnf) | refine go_true rfl ?_ | refine go_false rfl ?_ | refine go_cond rfl (fun h => ?_) (fun h => ?_) | refine ⟨rfl, ?_⟩ | ((first | refine ⟨trivial, ?_⟩ | refine ⟨le_of_ble rfl, ?_⟩) <;> conv => whnf) | fail
      · exfalso; simp at h; omega
      · exact ret_imm rfl rfl rfl rfl (by rw [hm]) rfl
    | some b =>
      have hlt := lt_of_at hx
      have hb := byte_at hx
      have hno : (lowB b || digB b) = false → nameOk s = false := fun h => by simp only [nameOk, all_not (p := fun b => lowB b || digB b) hx h, Bool.and_false]
      repeat' first | refine go_seq ?_ | refine go_region ?_ | refine go_miss rfl rfl rfl ?_ | refine go_undef rfl rfl rfl ?_ | ((first | refine go_op rfl ?_ | refine go_nil ?_ | refine go_hit rfl rfl rfl ?_ | refine go_splitT rfl rfl rfl (fun h => ?_) (fun h => ?_) | refine go_splitF rfl rfl rfl (fun h => ?_) (fun h => ?_) | refine go_pickT rfl ?_ | refine go_pickF rfl ?_ | refine go_pick rfl (fun h => ?_) (fun h => ?_) | refine go_idxStr rfl rfl rfl (by omega) hb ?_) <;> conv => whnf) | ((first | refine ⟨by kernel_rfl, ?_⟩ | refine go_ret ?_) <;> conv => whnf) | refine go_block ?_ | ((first | refine go_skip ?_ | refine go_exit ?_) <;> conv => whnf) | refine go_true rfl ?_ | refine go_false rfl ?_ | refine go_cond rfl (fun h => ?_) (fun h => ?_) | refine ⟨rfl, ?_⟩ | ((first | refine ⟨trivial, ?_⟩ | refine ⟨le_of_ble rfl, ?_⟩) <;> conv => whnf) | fail
      all_goals first
        | (exfalso; simp at h; omega)
        | (refine ret_imm rfl rfl rfl rfl ?_ rfl
           rw [hno (by simp [lowB, digB] at *; omega)])
        | (refine go_next (i + 1) ⟨by omega, all_next hx ha (by simp [lowB, digB] at *; omega)⟩ (by omega) (ref_st0 rfl ⟨rfl, next_i (by omega), trivial⟩ rfl))
        | (exfalso; simp at h; omega)
        | trace_state

theorem c185 (s : ByteArray) : CallOk Try.prog 185 [.imm (.str s)] { res := [.imm (.bool (nameOk s))] } := by
  refine callOk_of tyOk Try.func185 rfl rfl (le_of_ble rfl) (le_of_ble rfl) (mutOk_imm rfl _) ?_
  have hlen := bytes_len s
  by_cases h18 : 1 ≤ (s.size : Int) ∧ (s.size : Int) ≤ 8
  · have h18' : inR (s.size : Int) 1 8 = true := by simpa [inR] using h18
    repeat' first | refine go_seq ?_ | refine go_region ?_ | refine go_miss rfl rfl rfl ?_ | refine go_undef rfl rfl rfl ?_ | ((first | refine go_op rfl ?_ | refine go_nil ?_ | refine go_hit rfl rfl rfl ?_ | refine go_splitT rfl rfl rfl (fun h => ?_) (fun h => ?_) | refine go_splitF rfl rfl rfl (fun h => ?_) (fun h => ?_) | refine go_pickT rfl ?_ | refine go_pickF rfl ?_ | refine go_pick rfl (fun h => ?_) (fun h => ?_)) <;> conv => whnf) | ((first | refine ⟨by kernel_rfl, ?_⟩ | refine go_ret ?_) <;> conv => whnf) | refine go_block ?_ | ((first | refine go_skip ?_ | refine go_exit ?_) <;> conv => whnf) | refine go_true rfl ?_ | refine go_false rfl ?_ | refine go_cond rfl (fun h => ?_) (fun h => ?_) | refine ⟨rfl, ?_⟩ | ((first | refine ⟨trivial, ?_⟩ | refine ⟨le_of_ble rfl, ?_⟩) <;> conv => whnf) | fail
    all_goals try (exfalso; simp at h; omega)
    refine go_loop (α := Nat) (fun i => i ≤ s.size ∧ ((bytes s).take i).all (fun b => lowB b || digB b) = true ∧ (0 < i → low0 s = true)) (fun i => s.size - i) (fun i => st Try.f185.ntmps [(0, .imm (.str s)), (14, .imm (.int .i64 s.size)), (15, .imm (.int .i64 (i : Nat)))] [] []) 0
      ⟨Nat.zero_le _, rfl, fun h => by omega⟩ (ref_st0 rfl ⟨rfl, rfl, rfl, trivial⟩ rfl) ?_
    rintro i ⟨hi, ha, h0⟩
    cases hx : (bytes s)[i]? with
    | none =>
      have hge := le_of_at hx
      have hm : nameOk s = true := by simp only [nameOk, h18', h0 (by omega), all_end hge ha]; rfl
      repeat' first | refine go_seq ?_ | refine go_region ?_ | refine go_miss rfl rfl rfl ?_ | refine go_undef rfl rfl rfl ?_ | ((first | refine go_op rfl ?_ | refine go_nil ?_ | refine go_hit rfl rfl rfl ?_ | refine go_splitT rfl rfl rfl (fun h => ?_) (fun h => ?_) | refine go_splitF rfl rfl rfl (fun h => ?_) (fun h => ?_) | refine go_pickT rfl ?_ | refine go_pickF rfl ?_ | refine go_pick rfl (fun h => ?_) (fun h => ?_)) <;> conv => whnf) | ((first | refine ⟨by kernel_rfl, ?_⟩ | refine go_ret ?_) <;> conv => whnf) | refine go_block ?_ | ((first | refine go_skip ?_ | refine go_exit ?_) <;> conv => whnf) | refine go_true rfl ?_ | refine go_false rfl ?_ | refine go_cond rfl (fun h => ?_) (fun h => ?_) | refine ⟨rfl, ?_⟩ | ((first | refine ⟨trivial, ?_⟩ | refine ⟨le_of_ble rfl, ?_⟩) <;> conv => whnf) | fail
      · exfalso; simp at h; omega
      · exact ret_imm rfl rfl rfl rfl (by rw [hm]) rfl
    | some b =>
      have hlt := lt_of_at hx
      have hb := byte_at hx
      have hno : (lowB b || digB b) = false → nameOk s = false := fun h => by simp only [nameOk, all_not (p := fun b => lowB b || digB b) hx h, Bool.and_false]
      have hno0 : i = 0 → lowB b = false → nameOk s = false := fun h h' => by subst h; simp only [nameOk, low0, hx, h', Bool.and_false, Bool.false_and]
      have hyes0 : i = 0 → lowB b = true → low0 s = true := fun h h' => by subst h; simp only [low0, hx, h']
      repeat' first | refine go_seq ?_ | refine go_region ?_ | refine go_miss rfl rfl rfl ?_ | refine go_undef rfl rfl rfl ?_ | ((first | refine go_op rfl ?_ | refine go_nil ?_ | refine go_hit rfl rfl rfl ?_ | refine go_splitT rfl rfl rfl (fun h => ?_) (fun h => ?_) | refine go_splitF rfl rfl rfl (fun h => ?_) (fun h => ?_) | refine go_pickT rfl ?_ | refine go_pickF rfl ?_ | refine go_pick rfl (fun h => ?_) (fun h => ?_) | refine go_idxStr rfl rfl rfl (by omega) hb ?_) <;> conv => whnf) | ((first | refine ⟨by kernel_rfl, ?_⟩ | refine go_ret ?_) <;> conv => whnf) | refine go_block ?_ | ((first | refine go_skip ?_ | refine go_exit ?_) <;> conv => whnf) | refine go_true rfl ?_ | refine go_false rfl ?_ | refine go_cond rfl (fun h => ?_) (fun h => ?_) | refine ⟨rfl, ?_⟩ | ((first | refine ⟨trivial, ?_⟩ | refine ⟨le_of_ble rfl, ?_⟩) <;> conv => whnf) | fail
      all_goals first
        | (exfalso; simp at h; omega)
        | (refine ret_imm rfl rfl rfl rfl ?_ rfl
           first
             | (rw [hno (by simp [lowB, digB] at *; omega)]; done)
             | (rw [hno0 (by simp at *; omega) (by simp [lowB] at *; omega)]; done))
        | (refine go_next (i + 1) ⟨by omega, all_next hx ha (by simp [lowB, digB] at *; omega), fun _ => ?_⟩ (by omega) (ref_st0 rfl ⟨rfl, rfl, next_i (by omega), trivial⟩ rfl)
           rcases Nat.eq_zero_or_pos i with e | e
           · exact hyes0 e (by simp [lowB] at *; omega)
           · exact h0 e)
        | (exfalso; simp at h; omega)
        | trace_state
  · have hm : nameOk s = false := by
      have : inR (s.size : Int) 1 8 = false := by rw [Bool.eq_false_iff]; intro h; exact h18 (by simpa [inR] using h)
      simp [nameOk, this]
    repeat' first | refine go_seq ?_ | refine go_region ?_ | refine go_miss rfl rfl rfl ?_ | refine go_undef rfl rfl rfl ?_ | ((first | refine go_op rfl ?_ | refine go_nil ?_ | refine go_hit rfl rfl rfl ?_ | refine go_splitT rfl rfl rfl (fun h => ?_) (fun h => ?_) | refine go_splitF rfl rfl rfl (fun h => ?_) (fun h => ?_) | refine go_pickT rfl ?_ | refine go_pickF rfl ?_ | refine go_pick rfl (fun h => ?_) (fun h => ?_)) <;> conv => whnf) | ((first | refine ⟨by kernel_rfl, ?_⟩ | refine go_ret ?_) <;> conv => whnf) | refine go_block ?_ | ((first | refine go_skip ?_ | refine go_exit ?_) <;> conv => whnf) | refine go_true rfl ?_ | refine go_false rfl ?_ | refine go_cond rfl (fun h => ?_) (fun h => ?_) | refine ⟨rfl, ?_⟩ | ((first | refine ⟨trivial, ?_⟩ | refine ⟨le_of_ble rfl, ?_⟩) <;> conv => whnf) | fail
    all_goals first
      | exact ret_imm rfl rfl rfl rfl (by rw [hm]) rfl
      | (exfalso; simp at *; omega)
end Go.Proofs.Ytbjjhiihoiogoaa

