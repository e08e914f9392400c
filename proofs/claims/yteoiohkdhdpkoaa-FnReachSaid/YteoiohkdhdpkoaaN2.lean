/- The walks of names, of places in lists, and of whether a network is valid. MADE BY PROGRAM (n2.py). -/
import Derived.Test.YteoiohkdhdpkoaaN1
namespace Go.Proofs.Yteoiohkdhdpkoaa
open Go Go.Am
set_option maxRecDepth 100000
set_option maxHeartbeats 4000000
attribute [local irreducible] amOps amC opCall opIndexAddr opPick retQ opMake opStore amDraw opAppend opLoad opNilCmp opIndex opSlice

/-! ### Names -/

def bytes (s : ByteArray) : List UInt8 := s.data.toList
theorem bytes_len (s : ByteArray) : (bytes s).length = s.size := by unfold bytes; rw [Array.length_toList]; rfl
def lowB (b : UInt8) : Bool := decide (97 ≤ (b.toNat : Int)) && decide ((b.toNat : Int) ≤ 122)
def digB (b : UInt8) : Bool := decide (48 ≤ (b.toNat : Int)) && decide ((b.toNat : Int) ≤ 57)
def low0 (s : ByteArray) : Bool := match (bytes s)[0]? with | some b => lowB b | none => false
def nameOk (s : ByteArray) : Bool := inR s.size 1 8 && low0 s && (bytes s).all (fun b => lowB b || digB b)

theorem byte_at {s : ByteArray} {i : Nat} {b : UInt8} (h : (bytes s)[i]? = some b) : s.data.toList[((i : Nat) : Int).toNat]? = some b := h

theorem c38 (s : ByteArray) : CallOk Try.prog 38 [.imm (.str s)] { res := [.imm (.bool (nameOk s))] } := by
  refine callOk_of tyOk Try.func38 rfl rfl (le_of_ble rfl) (le_of_ble rfl) (mutOk_imm rfl _) ?_
  have hc := c29 s.size 1 8
  have hlen := bytes_len s
  cases h18 : inR (s.size : Int) 1 8 with
  | false =>
    have hm : nameOk s = false := by simp [nameOk, h18]
    rw [h18] at hc
    repeat' first | refine go_seq ?_ | refine go_region ?_ | refine go_miss rfl rfl rfl ?_ | refine go_undef rfl rfl rfl ?_ | ((first | refine go_op rfl ?_ | refine go_nil ?_ | refine go_hit rfl rfl rfl ?_ | refine go_splitT rfl rfl rfl (fun h => ?_) (fun h => ?_) | refine go_splitF rfl rfl rfl (fun h => ?_) (fun h => ?_) | refine go_pickT rfl ?_ | refine go_pickF rfl ?_ | refine go_pick rfl (fun h => ?_) (fun h => ?_) | refine go_call [] (hc) rfl rfl rfl rfl ?_) <;> conv => whnf) | ((first | refine ⟨by kernel_rfl, ?_⟩ | refine go_ret ?_) <;> conv => whnf) | refine go_block ?_ | ((first | refine go_skip ?_ | refine go_exit ?_) <;> conv => whnf) | refine go_true rfl ?_ | refine go_false rfl ?_ | refine go_cond rfl (fun h => ?_) (fun h => ?_) | refine ⟨rfl, ?_⟩ | ((first | refine ⟨trivial, ?_⟩ | refine ⟨le_of_ble rfl, ?_⟩) <;> conv => whnf) | fail
    all_goals exact ret_imm rfl rfl rfl rfl (by rw [hm]) rfl
  | true =>
    have hr : 1 ≤ (s.size : Int) ∧ (s.size : Int) ≤ 8 := by simpa [inR] using h18
    obtain ⟨b0, hb0⟩ : ∃ b, (bytes s)[0]? = some b := ⟨_, List.getElem?_eq_getElem (by omega)⟩
    have hb0' : s.data.toList[(0 : Int).toNat]? = some b0 := hb0
    have hl0 : low0 s = lowB b0 := by simp [low0, hb0]
    rw [h18] at hc
    repeat' first | refine go_seq ?_ | refine go_region ?_ | refine go_miss rfl rfl rfl ?_ | refine go_undef rfl rfl rfl ?_ | ((first | refine go_op rfl ?_ | refine go_nil ?_ | refine go_hit rfl rfl rfl ?_ | refine go_splitT rfl rfl rfl (fun h => ?_) (fun h => ?_) | refine go_splitF rfl rfl rfl (fun h => ?_) (fun h => ?_) | refine go_pickT rfl ?_ | refine go_pickF rfl ?_ | refine go_pick rfl (fun h => ?_) (fun h => ?_) | refine go_call [] (hc) rfl rfl rfl rfl ?_ | refine go_idxStr rfl rfl rfl (by omega) hb0' ?_) <;> conv => whnf) | ((first | refine ⟨by kernel_rfl, ?_⟩ | refine go_ret ?_) <;> conv => whnf) | refine go_block ?_ | ((first | refine go_skip ?_ | refine go_exit ?_) <;> conv => whnf) | refine go_true rfl ?_ | refine go_false rfl ?_ | refine go_cond rfl (fun h => ?_) (fun h => ?_) | refine ⟨rfl, ?_⟩ | ((first | refine ⟨trivial, ?_⟩ | refine ⟨le_of_ble rfl, ?_⟩) <;> conv => whnf) | fail
    all_goals try (
      have hm : nameOk s = false := by
        simp only [nameOk, hl0, lowB]
        simp at h
        simp
        intro
        omega
      exact ret_imm rfl rfl rfl rfl (by rw [hm]) rfl)
    have hlow : low0 s = true := by rw [hl0]; simp [lowB] at *; omega
    refine go_loop (α := Nat) (fun i => i ≤ s.size ∧ ((bytes s).take i).all (fun b => lowB b || digB b) = true) (fun i => s.size - i) (fun i => st Try.f38.ntmps [(0, .imm (.str s)), (3, .imm (.int .i64 (i : Nat)))] [] []) 0
      ⟨Nat.zero_le _, rfl⟩ (ref_st0 rfl ⟨rfl, rfl, trivial⟩ rfl) ?_
    rintro i ⟨hi, ha⟩
    cases hx : (bytes s)[i]? with
    | none =>
      have hge := le_of_at hx
      have hm : nameOk s = true := by simp only [nameOk, h18, hlow, all_end hge ha]; rfl
      repeat' first | refine go_seq ?_ | refine go_region ?_ | refine go_miss rfl rfl rfl ?_ | refine go_undef rfl rfl rfl ?_ | ((first | refine go_op rfl ?_ | refine go_nil ?_ | refine go_hit rfl rfl rfl ?_ | refine go_splitT rfl rfl rfl (fun h => ?_) (fun h => ?_) | refine go_splitF rfl rfl rfl (fun h => ?_) (fun h => ?_) | refine go_pickT rfl ?_ | refine go_pickF rfl ?_ | refine go_pick rfl (fun h => ?_) (fun h => ?_)) <;> conv => whnf) | ((first | refine ⟨by kernel_rfl, ?_⟩ | refine go_ret ?_) <;> conv => whnf) | refine go_block ?_ | ((first | refine go_skip ?_ | refine go_exit ?_) <;> conv => whnf) | refine go_true rfl ?_ | refine go_false rfl ?_ | refine go_cond rfl (fun h => ?_) (fun h => ?_) | refine ⟨rfl, ?_⟩ | ((first | refine ⟨trivial, ?_⟩ | refine ⟨le_of_ble rfl, ?_⟩) <;> conv => whnf) | fail
      · exfalso; simp at h; omega
      · exact ret_imm rfl rfl rfl rfl (by rw [hm]) rfl
    | some b =>
      have hlt := lt_of_at hx
      have hb := byte_at hx
      have hno : (lowB b || digB b) = false → nameOk s = false := fun h => by simp only [nameOk, all_not (p := fun b => lowB b || digB b) hx h, Bool.and_false]
      repeat' first | refine go_seq ?_ | refine go_region ?_ | refine go_miss rfl rfl rfl ?_ | refine go_undef rfl rfl rfl ?_ | ((first | refine go_op rfl ?_ | refine go_nil ?_ | refine go_hit rfl rfl rfl ?_ | refine go_splitT rfl rfl rfl (fun h => ?_) (fun h => ?_) | refine go_splitF rfl rfl rfl (fun h => ?_) (fun h => ?_) | refine go_pickT rfl ?_ | refine go_pickF rfl ?_ | refine go_pick rfl (fun h => ?_) (fun h => ?_) | refine go_idxStr rfl rfl rfl (by omega) hb ?_) <;> conv => whnf) | ((first | refine ⟨by kernel_rfl, ?_⟩ | refine go_ret ?_) <;> conv => whnf) | refine go_block ?_ | ((first | refine go_skip ?_ | refine go_exit ?_) <;> conv => whnf) | refine go_true rfl ?_ | refine go_false rfl ?_ | refine go_cond rfl (fun h => ?_) (fun h => ?_) | refine ⟨rfl, ?_⟩ | ((first | refine ⟨trivial, ?_⟩ | refine ⟨le_of_ble rfl, ?_⟩) <;> conv => whnf) | fail
      all_goals first
        | (exfalso; simp at h; omega)
        | (refine ret_imm rfl rfl rfl rfl ?_ rfl
           rw [hno (by simp [lowB, digB] at *; omega)])
        | (refine go_next (i + 1) ⟨by omega, all_next hx ha (by simp [lowB, digB] at *; omega)⟩ (by omega) (ref_st0 rfl ⟨rfl, next_i (by omega), trivial⟩ rfl))
        | (exfalso; simp at h; omega)
        | trace_state

theorem c36 (s : ByteArray) : CallOk Try.prog 36 [.imm (.str s)] { res := [.imm (.bool (nameOk s))] } := by
  refine callOk_of tyOk Try.func36 rfl rfl (le_of_ble rfl) (le_of_ble rfl) (mutOk_imm rfl _) ?_
  have hlen := bytes_len s
  by_cases h18 : 1 ≤ (s.size : Int) ∧ (s.size : Int) ≤ 8
  · have h18' : inR (s.size : Int) 1 8 = true := by simpa [inR] using h18
    repeat' first | refine go_seq ?_ | refine go_region ?_ | refine go_miss rfl rfl rfl ?_ | refine go_undef rfl rfl rfl ?_ | ((first | refine go_op rfl ?_ | refine go_nil ?_ | refine go_hit rfl rfl rfl ?_ | refine go_splitT rfl rfl rfl (fun h => ?_) (fun h => ?_) | refine go_splitF rfl rfl rfl (fun h => ?_) (fun h => ?_) | refine go_pickT rfl ?_ | refine go_pickF rfl ?_ | refine go_pick rfl (fun h => ?_) (fun h => ?_)) <;> conv => whnf) | ((first | refine ⟨by kernel_rfl, ?_⟩ | refine go_ret ?_) <;> conv => whnf) | refine go_block ?_ | ((first | refine go_skip ?_ | refine go_exit ?_) <;> conv => whnf) | refine go_true rfl ?_ | refine go_false rfl ?_ | refine go_cond rfl (fun h => ?_) (fun h => ?_) | refine ⟨rfl, ?_⟩ | ((first | refine ⟨trivial, ?_⟩ | refine ⟨le_of_ble rfl, ?_⟩) <;> conv => whnf) | fail
    all_goals try (exfalso; simp at h; omega)
    refine go_loop (α := Nat) (fun i => i ≤ s.size ∧ ((bytes s).take i).all (fun b => lowB b || digB b) = true ∧ (0 < i → low0 s = true)) (fun i => s.size - i) (fun i => st Try.f36.ntmps [(0, .imm (.str s)), (14, .imm (.int .i64 s.size)), (15, .imm (.int .i64 (i : Nat)))] [] []) 0
      ⟨Nat.zero_le _, rfl, fun h => by omega⟩ (ref_st0 rfl ⟨rfl, rfl, rfl, trivial⟩ rfl) ?_
    rintro i ⟨hi, ha, h0⟩
    cases hx : (bytes s)[i]? with
    | none =>
      have hge := le_of_at hx
      have hm : nameOk s = true := by simp only [nameOk, h18', h0 (by omega), all_end hge ha]; rfl
      repeat' first | refine go_seq ?_ | refine go_region ?_ | refine go_miss rfl rfl rfl ?_ | refine go_undef rfl rfl rfl ?_ | ((first | refine go_op rfl ?_ | refine go_nil ?_ | refine go_hit rfl rfl rfl ?_ | refine go_splitT rfl rfl rfl (fun h => ?_) (fun h => ?_) | refine go_splitF rfl rfl rfl (fun h => ?_) (fun h => ?_) | refine go_pickT rfl ?_ | refine go_pickF rfl ?_ | refine go_pick rfl (fun h => ?_) (fun h => ?_)) <;> conv => whnf) | ((first | refine ⟨by kernel_rfl, ?_⟩ | refine go_ret ?_) <;> conv => whnf) | refine go_block ?_ | ((first | refine go_skip ?_ | refine go_exit ?_) <;> conv => whnf) | refine go_true rfl ?_ | refine go_false rfl ?_ | refine go_cond rfl (fun h => ?_) (fun h => ?_) | refine ⟨rfl, ?_⟩ | ((first | refine ⟨trivial, ?_⟩ | refine ⟨le_of_ble rfl, ?_⟩) <;> conv => whnf) | fail
      · exfalso; simp at h; omega
      · exact ret_imm rfl rfl rfl rfl (by rw [hm]) rfl
    | some b =>
      have hlt := lt_of_at hx
      have hb := byte_at hx
      have hno : (lowB b || digB b) = false → nameOk s = false := fun h => by simp only [nameOk, all_not (p := fun b => lowB b || digB b) hx h, Bool.and_false]
      have hno0 : i = 0 → lowB b = false → nameOk s = false := fun h h' => by subst h; simp only [nameOk, low0, hx, h', Bool.and_false, Bool.false_and]
      have hyes0 : i = 0 → lowB b = true → low0 s = true := fun h h' => by subst h; simp only [low0, hx, h']
      repeat' first | refine go_seq ?_ | refine go_region ?_ | refine go_miss rfl rfl rfl ?_ | refine go_undef rfl rfl rfl ?_ | ((first | refine go_op rfl ?_ | refine go_nil ?_ | refine go_hit rfl rfl rfl ?_ | refine go_splitT rfl rfl rfl (fun h => ?_) (fun h => ?_) | refine go_splitF rfl rfl rfl (fun h => ?_) (fun h => ?_) | refine go_pickT rfl ?_ | refine go_pickF rfl ?_ | refine go_pick rfl (fun h => ?_) (fun h => ?_) | refine go_idxStr rfl rfl rfl (by omega) hb ?_) <;> conv => whnf) | ((first | refine ⟨by kernel_rfl, ?_⟩ | refine go_ret ?_) <;> conv => whnf) | refine go_block ?_ | ((first | refine go_skip ?_ | refine go_exit ?_) <;> conv => whnf) | refine go_true rfl ?_ | refine go_false rfl ?_ | refine go_cond rfl (fun h => ?_) (fun h => ?_) | refine ⟨rfl, ?_⟩ | ((first | refine ⟨trivial, ?_⟩ | refine ⟨le_of_ble rfl, ?_⟩) <;> conv => whnf) | fail
      all_goals first
        | (exfalso; simp at h; omega)
        | (refine ret_imm rfl rfl rfl rfl ?_ rfl
           first
             | (rw [hno (by simp [lowB, digB] at *; omega)]; done)
             | (rw [hno0 (by simp at *; omega) (by simp [lowB] at *; omega)]; done))
        | (refine go_next (i + 1) ⟨by omega, all_next hx ha (by simp [lowB, digB] at *; omega), fun _ => ?_⟩ (by omega) (ref_st0 rfl ⟨rfl, rfl, next_i (by omega), trivial⟩ rfl)
           rcases Nat.eq_zero_or_pos i with e | e
           · exact hyes0 e (by simp [lowB] at *; omega)
           · exact h0 e)
        | (exfalso; simp at h; omega)
        | trace_state
  · have hm : nameOk s = false := by
      have : inR (s.size : Int) 1 8 = false := by rw [Bool.eq_false_iff]; intro h; exact h18 (by simpa [inR] using h)
      simp [nameOk, this]
    repeat' first | refine go_seq ?_ | refine go_region ?_ | refine go_miss rfl rfl rfl ?_ | refine go_undef rfl rfl rfl ?_ | ((first | refine go_op rfl ?_ | refine go_nil ?_ | refine go_hit rfl rfl rfl ?_ | refine go_splitT rfl rfl rfl (fun h => ?_) (fun h => ?_) | refine go_splitF rfl rfl rfl (fun h => ?_) (fun h => ?_) | refine go_pickT rfl ?_ | refine go_pickF rfl ?_ | refine go_pick rfl (fun h => ?_) (fun h => ?_)) <;> conv => whnf) | ((first | refine ⟨by kernel_rfl, ?_⟩ | refine go_ret ?_) <;> conv => whnf) | refine go_block ?_ | ((first | refine go_skip ?_ | refine go_exit ?_) <;> conv => whnf) | refine go_true rfl ?_ | refine go_false rfl ?_ | refine go_cond rfl (fun h => ?_) (fun h => ?_) | refine ⟨rfl, ?_⟩ | ((first | refine ⟨trivial, ?_⟩ | refine ⟨le_of_ble rfl, ?_⟩) <;> conv => whnf) | fail
    all_goals first
      | exact ret_imm rfl rfl rfl rfl (by rw [hm]) rfl
      | (exfalso; simp at *; omega)


def idxF {α : Type} (p : α → Bool) (xs : List α) : Int := if xs.any p then (xs.findIdx p : Nat) else -1

theorem idxF_hit {α : Type} {p : α → Bool} {xs : List α} {i : Nat} {v : α} (hx : xs[i]? = some v) (hp : p v = true) (ha : (xs.take i).any p = false) : idxF p xs = i := by
  have hlt := lt_of_at hx
  have hv : xs[i] = v := (List.getElem?_eq_some_iff.1 hx).2
  have hany : xs.any p = true := List.any_eq_true.2 ⟨v, List.mem_of_getElem? hx, hp⟩
  have hf : xs.findIdx p = i := by
    rw [List.findIdx_eq hlt]
    refine ⟨by rw [hv]; exact hp, fun j hj => ?_⟩
    have := List.any_eq_false.1 ha (xs[j]'(by omega)) (by
      rw [List.mem_take_iff_getElem]
      exact ⟨j, by omega, rfl⟩)
    simpa using this
  unfold idxF
  rw [if_pos hany, hf]
theorem idxF_miss {α : Type} {p : α → Bool} {xs : List α} (ha : xs.any p = false) : idxF p xs = -1 := by
  unfold idxF
  rw [ha]
  rfl
theorem idxF_ge {α : Type} (p : α → Bool) (xs : List α) : decide (0 ≤ idxF p xs) = xs.any p := by
  unfold idxF
  cases xs.any p <;> simp

theorem any_next {α : Type} {p : α → Bool} {xs : List α} {i : Nat} {x : α} (h : xs[i]? = some x) (ha : (xs.take i).any p = false) (hp : p x = false) : (xs.take (i + 1)).any p = false := by
  rw [List.take_add_one, h]
  simp only [List.any_append, ha, Option.toList_some, List.any_cons, hp, List.any_nil, Bool.or_self]



/-- All elements with their places, below i. -/
def upI {α : Type} (p : Nat → α → Bool) (xs : List α) : Nat → Bool
  | 0 => true
  | i + 1 => upI p xs i && (match xs[i]? with | some v => p i v | none => true)
def allI {α : Type} (p : Nat → α → Bool) (xs : List α) : Bool := upI p xs xs.length
theorem upI_iff {α : Type} {p : Nat → α → Bool} {xs : List α} : ∀ {i : Nat}, upI p xs i = true ↔ ∀ j v, j < i → xs[j]? = some v → p j v = true
  | 0 => by simp [upI]
  | i + 1 => by
    simp only [upI, Bool.and_eq_true, upI_iff (i := i)]
    constructor
    · rintro ⟨h1, h2⟩ j v hj hx
      rcases Nat.lt_or_ge j i with h | h
      · exact h1 j v h hx
      · have e : j = i := by omega
        subst e
        rw [hx] at h2; exact h2
    · intro h
      refine ⟨fun j v hj hx => h j v (by omega) hx, ?_⟩
      cases hx : xs[i]? with
      | none => rfl
      | some v => exact h i v (by omega) hx
theorem allI_iff {α : Type} {p : Nat → α → Bool} {xs : List α} : allI p xs = true ↔ ∀ j v, xs[j]? = some v → p j v = true := by
  unfold allI
  rw [upI_iff]
  exact ⟨fun h j v hx => h j v (lt_of_at hx) hx, fun h j v _ hx => h j v hx⟩
theorem upI_next {α : Type} {p : Nat → α → Bool} {xs : List α} {i : Nat} {v : α} (hx : xs[i]? = some v) (h : upI p xs i = true) (hp : p i v = true) : upI p xs (i + 1) = true := by
  simp only [upI, h, hx, hp, Bool.and_self]
theorem allI_not {α : Type} {p : Nat → α → Bool} {xs : List α} {i : Nat} {v : α} (hx : xs[i]? = some v) (hp : p i v = false) : allI p xs = false := by
  rw [Bool.eq_false_iff, ne_eq, allI_iff]
  intro h
  rw [h i v hx] at hp; cases hp
theorem allI_end {α : Type} {p : Nat → α → Bool} {xs : List α} {i : Nat} (hi : xs.length ≤ i) (h : upI p xs i = true) : allI p xs = true := by
  rw [allI_iff]
  exact fun j v hx => upI_iff.1 h j v (by have := lt_of_at hx; omega) hx
theorem str_comm (a b : ByteArray) : (a == b) = (b == a) := by
  rw [beq_toListBytes, beq_toListBytes]
  exact Bool.beq_comm

def pInt (v : Int) (x : Int) : Bool := decide (v = x)
def pStr (v : ByteArray) (x : ByteArray) : Bool := v == x
theorem idx_lo {α : Type} (p : α → Bool) (xs : List α) : -1 ≤ idxF p xs := by unfold idxF; split <;> omega
theorem idx_hi {α : Type} (p : α → Bool) (xs : List α) : idxF p xs < xs.length ∨ xs = [] := by
  unfold idxF
  split
  · rename_i h
    left
    obtain ⟨x, hx, hp⟩ := List.any_eq_true.1 h
    have := List.findIdx_lt_length_of_exists (p := p) (xs := xs) ⟨x, hx, hp⟩
    omega
  · cases xs with
    | nil => exact .inr rfl
    | cons a l => left; simp; omega

theorem c27 (xs : List Int) (x : Int) (hl : xs.length ≤ 1048576) : CallOk Try.prog 27 [.imm (.list (xs.map intRow)), .imm (.int .i64 x)] { res := [.imm (.int .i64 (idxF (pInt x) xs))] } := by
  refine callOk_of tyOk Try.func27 rfl rfl (le_of_ble rfl) (le_of_ble rfl) (mutOk_imm rfl _) ?_
  repeat' first | refine go_seq ?_ | refine go_region ?_ | ((first | refine go_op rfl ?_ | refine go_nil ?_) <;> conv => whnf) | ((first | refine go_loadB ?_ | refine ⟨by kernel_rfl, ?_⟩ | refine go_ret ?_) <;> conv => whnf) | refine go_block ?_ | ((first | refine go_skip ?_ | refine go_exit ?_) <;> conv => whnf) | refine go_true rfl ?_ | refine go_false rfl ?_ | refine go_cond rfl (fun h => ?_) (fun h => ?_) | refine ⟨rfl, ?_⟩ | ((first | refine ⟨trivial, ?_⟩ | refine ⟨le_of_ble rfl, ?_⟩) <;> conv => whnf) | fail
  refine go_loop (α := Nat) (fun i => i ≤ xs.length ∧ (xs.take i).any (pInt x) = false) (fun i => xs.length - i) (fun i => st Try.f27.ntmps [(0, .imm (.list (xs.map intRow))), (1, .imm (.int .i64 x)), (7, .imm (.int .i64 (xs.map intRow).length)), (8, .imm (.int .i64 (i : Nat)))] [] []) 0
    ⟨Nat.zero_le _, rfl⟩ (ref_st0 rfl ⟨rfl, rfl, rfl, rfl, trivial⟩ rfl) ?_
  rintro i ⟨hi, ha⟩
  cases hx : xs[i]? with
  | none =>
    have hge := le_of_at hx
    rw [List.take_of_length_le hge] at ha
    repeat' first | refine go_seq ?_ | refine go_region ?_ | ((first | refine go_op rfl ?_ | refine go_nil ?_) <;> conv => whnf) | ((first | refine go_loadB ?_ | refine ⟨by kernel_rfl, ?_⟩ | refine go_ret ?_) <;> conv => whnf) | refine go_block ?_ | ((first | refine go_skip ?_ | refine go_exit ?_) <;> conv => whnf) | refine go_true rfl ?_ | refine go_false rfl ?_ | refine go_cond rfl (fun h => ?_) (fun h => ?_) | refine ⟨rfl, ?_⟩ | ((first | refine ⟨trivial, ?_⟩ | refine ⟨le_of_ble rfl, ?_⟩) <;> conv => whnf) | fail
    all_goals first
      | (exfalso; simp at h; omega)
      | exact ret_imm rfl rfl rfl rfl (by rw [idxF_miss ha]) rfl
  | some v =>
    have hlt := lt_of_at hx
    have hr := row_at intRow hx
    repeat' first | refine go_seq ?_ | refine go_region ?_ | ((first | refine go_op rfl ?_ | refine go_nil ?_ | refine go_idx rfl rfl rfl rfl (by omega) hr rfl ?_) <;> conv => whnf) | ((first | refine go_loadB ?_ | refine ⟨by kernel_rfl, ?_⟩ | refine go_ret ?_) <;> conv => whnf) | refine go_block ?_ | ((first | refine go_skip ?_ | refine go_exit ?_) <;> conv => whnf) | refine go_true rfl ?_ | refine go_false rfl ?_ | refine go_cond rfl (fun h => ?_) (fun h => ?_) | refine ⟨rfl, ?_⟩ | ((first | refine ⟨trivial, ?_⟩ | refine ⟨le_of_ble rfl, ?_⟩) <;> conv => whnf) | fail
    all_goals first
      | (exfalso; simp at h; omega)
      | exact go_next (i + 1) ⟨by omega, any_next (p := (pInt x)) hx ha (by simpa [pInt] using h)⟩ (by omega) (ref_st0 rfl ⟨rfl, rfl, rfl, next_i (by omega), trivial⟩ rfl)
      | exact ret_imm rfl rfl rfl rfl (by rw [idxF_hit (p := (pInt x)) hx (by simpa [pInt] using h) ha]) rfl

theorem c37 (xs : List ByteArray) (x : ByteArray) (hl : xs.length ≤ 1048576) : CallOk Try.prog 37 [.imm (.list (xs.map strRow)), .imm (.str x)] { res := [.imm (.int .i64 (idxF (pStr x) xs))] } := by
  refine callOk_of tyOk Try.func37 rfl rfl (le_of_ble rfl) (le_of_ble rfl) (mutOk_imm rfl _) ?_
  repeat' first | refine go_seq ?_ | refine go_region ?_ | ((first | refine go_op rfl ?_ | refine go_nil ?_) <;> conv => whnf) | ((first | refine go_loadB ?_ | refine ⟨by kernel_rfl, ?_⟩ | refine go_ret ?_) <;> conv => whnf) | refine go_block ?_ | ((first | refine go_skip ?_ | refine go_exit ?_) <;> conv => whnf) | refine go_true rfl ?_ | refine go_false rfl ?_ | refine go_cond rfl (fun h => ?_) (fun h => ?_) | refine ⟨rfl, ?_⟩ | ((first | refine ⟨trivial, ?_⟩ | refine ⟨le_of_ble rfl, ?_⟩) <;> conv => whnf) | fail
  refine go_loop (α := Nat) (fun i => i ≤ xs.length ∧ (xs.take i).any (pStr x) = false) (fun i => xs.length - i) (fun i => st Try.f37.ntmps [(0, .imm (.list (xs.map strRow))), (1, .imm (.str x)), (7, .imm (.int .i64 (xs.map strRow).length)), (8, .imm (.int .i64 (i : Nat)))] [] []) 0
    ⟨Nat.zero_le _, rfl⟩ (ref_st0 rfl ⟨rfl, rfl, rfl, rfl, trivial⟩ rfl) ?_
  rintro i ⟨hi, ha⟩
  cases hx : xs[i]? with
  | none =>
    have hge := le_of_at hx
    rw [List.take_of_length_le hge] at ha
    repeat' first | refine go_seq ?_ | refine go_region ?_ | ((first | refine go_op rfl ?_ | refine go_nil ?_) <;> conv => whnf) | ((first | refine go_loadB ?_ | refine ⟨by kernel_rfl, ?_⟩ | refine go_ret ?_) <;> conv => whnf) | refine go_block ?_ | ((first | refine go_skip ?_ | refine go_exit ?_) <;> conv => whnf) | refine go_true rfl ?_ | refine go_false rfl ?_ | refine go_cond rfl (fun h => ?_) (fun h => ?_) | refine ⟨rfl, ?_⟩ | ((first | refine ⟨trivial, ?_⟩ | refine ⟨le_of_ble rfl, ?_⟩) <;> conv => whnf) | fail
    all_goals first
      | (exfalso; simp at h; omega)
      | exact ret_imm rfl rfl rfl rfl (by rw [idxF_miss ha]) rfl
  | some v =>
    have hlt := lt_of_at hx
    have hr := row_at strRow hx
    repeat' first | refine go_seq ?_ | refine go_region ?_ | ((first | refine go_op rfl ?_ | refine go_nil ?_ | refine go_idx rfl rfl rfl rfl (by omega) hr rfl ?_) <;> conv => whnf) | ((first | refine go_loadB ?_ | refine ⟨by kernel_rfl, ?_⟩ | refine go_ret ?_) <;> conv => whnf) | refine go_block ?_ | ((first | refine go_skip ?_ | refine go_exit ?_) <;> conv => whnf) | refine go_true rfl ?_ | refine go_false rfl ?_ | refine go_cond rfl (fun h => ?_) (fun h => ?_) | refine ⟨rfl, ?_⟩ | ((first | refine ⟨trivial, ?_⟩ | refine ⟨le_of_ble rfl, ?_⟩) <;> conv => whnf) | fail
    all_goals first
      | (exfalso; simp at h; omega)
      | exact go_next (i + 1) ⟨by omega, any_next (p := (pStr x)) hx ha h⟩ (by omega) (ref_st0 rfl ⟨rfl, rfl, rfl, next_i (by omega), trivial⟩ rfl)
      | exact ret_imm rfl rfl rfl rfl (by rw [idxF_hit (p := (pStr x)) hx h ha]) rfl

theorem c39 (xs : List ByteArray) (x : ByteArray) (hl : xs.length ≤ 1048576) : CallOk Try.prog 39 [.imm (.list (xs.map strRow)), .imm (.str x)] { res := [.imm (.int .i64 (idxF (pStr x) xs))] } := by
  refine callOk_of tyOk Try.func39 rfl rfl (le_of_ble rfl) (le_of_ble rfl) (mutOk_imm rfl _) ?_
  repeat' first | refine go_seq ?_ | refine go_region ?_ | ((first | refine go_op rfl ?_ | refine go_nil ?_) <;> conv => whnf) | ((first | refine go_loadB ?_ | refine ⟨by kernel_rfl, ?_⟩ | refine go_ret ?_) <;> conv => whnf) | refine go_block ?_ | ((first | refine go_skip ?_ | refine go_exit ?_) <;> conv => whnf) | refine go_true rfl ?_ | refine go_false rfl ?_ | refine go_cond rfl (fun h => ?_) (fun h => ?_) | refine ⟨rfl, ?_⟩ | ((first | refine ⟨trivial, ?_⟩ | refine ⟨le_of_ble rfl, ?_⟩) <;> conv => whnf) | fail
  refine go_loop (α := Nat) (fun i => i ≤ xs.length ∧ (xs.take i).any (pStr x) = false) (fun i => xs.length - i) (fun i => st Try.f39.ntmps [(0, .imm (.list (xs.map strRow))), (1, .imm (.str x)), (5, .imm (.int .i64 (i : Nat)))] [] []) 0
    ⟨Nat.zero_le _, rfl⟩ (ref_st0 rfl ⟨rfl, rfl, rfl, trivial⟩ rfl) ?_
  rintro i ⟨hi, ha⟩
  cases hx : xs[i]? with
  | none =>
    have hge := le_of_at hx
    rw [List.take_of_length_le hge] at ha
    repeat' first | refine go_seq ?_ | refine go_region ?_ | ((first | refine go_op rfl ?_ | refine go_nil ?_) <;> conv => whnf) | ((first | refine go_loadB ?_ | refine ⟨by kernel_rfl, ?_⟩ | refine go_ret ?_) <;> conv => whnf) | refine go_block ?_ | ((first | refine go_skip ?_ | refine go_exit ?_) <;> conv => whnf) | refine go_true rfl ?_ | refine go_false rfl ?_ | refine go_cond rfl (fun h => ?_) (fun h => ?_) | refine ⟨rfl, ?_⟩ | ((first | refine ⟨trivial, ?_⟩ | refine ⟨le_of_ble rfl, ?_⟩) <;> conv => whnf) | fail
    all_goals first
      | (exfalso; simp at h; omega)
      | exact ret_imm rfl rfl rfl rfl (by rw [idxF_miss ha]) rfl
  | some v =>
    have hlt := lt_of_at hx
    have hr := row_at strRow hx
    repeat' first | refine go_seq ?_ | refine go_region ?_ | ((first | refine go_op rfl ?_ | refine go_nil ?_ | refine go_idx rfl rfl rfl rfl (by omega) hr rfl ?_) <;> conv => whnf) | ((first | refine go_loadB ?_ | refine ⟨by kernel_rfl, ?_⟩ | refine go_ret ?_) <;> conv => whnf) | refine go_block ?_ | ((first | refine go_skip ?_ | refine go_exit ?_) <;> conv => whnf) | refine go_true rfl ?_ | refine go_false rfl ?_ | refine go_cond rfl (fun h => ?_) (fun h => ?_) | refine ⟨rfl, ?_⟩ | ((first | refine ⟨trivial, ?_⟩ | refine ⟨le_of_ble rfl, ?_⟩) <;> conv => whnf) | fail
    all_goals first
      | (exfalso; simp at h; omega)
      | exact go_next (i + 1) ⟨by omega, any_next (p := (pStr x)) hx ha ((str_comm _ _).trans h)⟩ (by omega) (ref_st0 rfl ⟨rfl, rfl, next_i (by omega), trivial⟩ rfl)
      | exact ret_imm rfl rfl rfl rfl (by rw [idxF_hit (p := (pStr x)) hx ((str_comm _ _).trans h) ha]) rfl

theorem c45 (l : Line) (x : Int) (hl : l.stops.length ≤ 1048576) : CallOk Try.prog 45 [.imm (.agg l.enc), .imm (.int .i64 x)] { res := [.imm (.int .i64 (idxF (pInt x) l.stops))] } := by
  refine callOk_of tyOk Try.func45 rfl rfl (le_of_ble rfl) (le_of_ble rfl) (mutOk_imm rfl _) ?_
  repeat' first | refine go_seq ?_ | refine go_region ?_ | ((first | refine go_op rfl ?_ | refine go_nil ?_) <;> conv => whnf) | ((first | refine go_loadB ?_ | refine ⟨by kernel_rfl, ?_⟩ | refine go_ret ?_) <;> conv => whnf) | refine go_block ?_ | ((first | refine go_skip ?_ | refine go_exit ?_) <;> conv => whnf) | refine go_true rfl ?_ | refine go_false rfl ?_ | refine go_cond rfl (fun h => ?_) (fun h => ?_) | refine ⟨rfl, ?_⟩ | ((first | refine ⟨trivial, ?_⟩ | refine ⟨le_of_ble rfl, ?_⟩) <;> conv => whnf) | fail
  refine go_loop (α := Nat) (fun i => i ≤ l.stops.length ∧ (l.stops.take i).any (pInt x) = false) (fun i => l.stops.length - i) (fun i => st Try.f45.ntmps [(1, .imm (.int .i64 x)), (2, .box 1000 0), (5, .imm (.int .i64 (i : Nat)))] [(1000, .box 44 (l.enc.map .imm))] []) 0
    ⟨Nat.zero_le _, rfl⟩ (ref_st (fun _ => nid 1 2) rfl ⟨rfl, ⟨rfl, rfl⟩, rfl, trivial⟩ ⟨⟨rfl, wavs_imm _⟩, trivial⟩ (by simp) rfl (by simp)) ?_
  rintro i ⟨hi, ha⟩
  cases hx : l.stops[i]? with
  | none =>
    have hge := le_of_at hx
    rw [List.take_of_length_le hge] at ha
    repeat' first | refine go_seq ?_ | refine go_region ?_ | ((first | refine go_op rfl ?_ | refine go_nil ?_) <;> conv => whnf) | ((first | refine go_loadB ?_ | refine ⟨by kernel_rfl, ?_⟩ | refine go_ret ?_) <;> conv => whnf) | refine go_block ?_ | ((first | refine go_skip ?_ | refine go_exit ?_) <;> conv => whnf) | refine go_true rfl ?_ | refine go_false rfl ?_ | refine go_cond rfl (fun h => ?_) (fun h => ?_) | refine ⟨rfl, ?_⟩ | ((first | refine ⟨trivial, ?_⟩ | refine ⟨le_of_ble rfl, ?_⟩) <;> conv => whnf) | fail
    all_goals first
      | (exfalso; simp at h; omega)
      | exact ret_imm rfl rfl rfl rfl (by rw [idxF_miss ha]) rfl
  | some v =>
    have hlt := lt_of_at hx
    have hr := row_at intRow hx
    repeat' first | refine go_seq ?_ | refine go_region ?_ | ((first | refine go_op rfl ?_ | refine go_nil ?_ | refine go_idx rfl rfl rfl rfl (by omega) hr rfl ?_) <;> conv => whnf) | ((first | refine go_loadB ?_ | refine ⟨by kernel_rfl, ?_⟩ | refine go_ret ?_) <;> conv => whnf) | refine go_block ?_ | ((first | refine go_skip ?_ | refine go_exit ?_) <;> conv => whnf) | refine go_true rfl ?_ | refine go_false rfl ?_ | refine go_cond rfl (fun h => ?_) (fun h => ?_) | refine ⟨rfl, ?_⟩ | ((first | refine ⟨trivial, ?_⟩ | refine ⟨le_of_ble rfl, ?_⟩) <;> conv => whnf) | fail
    all_goals first
      | (exfalso; simp at h; omega)
      | exact go_next (i + 1) ⟨by omega, any_next (p := (pInt x)) hx ha (by simp only [pInt]; have h2 := h; simp at h2; simp; omega)⟩ (by omega) (ref_st id rfl ⟨rfl, ⟨rfl, rfl⟩, next_i (by omega), trivial⟩ ⟨⟨rfl, wavs_imm _⟩, trivial⟩ (by simp) rfl (by simp))
      | exact ret_imm rfl rfl rfl rfl (by rw [idxF_hit (p := (pInt x)) hx (by simp only [pInt]; have h2 := h; simp at h2; simp; omega) ha]) rfl

theorem c41 (n : Network) (x : ByteArray) (hl : n.lines.length ≤ 1048576) : CallOk Try.prog 41 [.imm (.agg n.enc), .imm (.str x)] { res := [.imm (.int .i64 (idxF (fun l => pStr x l.name) n.lines))] } := by
  refine callOk_of tyOk Try.func41 rfl rfl (le_of_ble rfl) (le_of_ble rfl) (mutOk_imm rfl _) ?_
  repeat' first | refine go_seq ?_ | refine go_region ?_ | ((first | refine go_op rfl ?_ | refine go_nil ?_) <;> conv => whnf) | ((first | refine go_loadB ?_ | refine ⟨by kernel_rfl, ?_⟩ | refine go_ret ?_) <;> conv => whnf) | refine go_block ?_ | ((first | refine go_skip ?_ | refine go_exit ?_) <;> conv => whnf) | refine go_true rfl ?_ | refine go_false rfl ?_ | refine go_cond rfl (fun h => ?_) (fun h => ?_) | refine ⟨rfl, ?_⟩ | ((first | refine ⟨trivial, ?_⟩ | refine ⟨le_of_ble rfl, ?_⟩) <;> conv => whnf) | fail
  refine go_loop (α := Nat) (fun i => i ≤ n.lines.length ∧ (n.lines.take i).any (fun l => pStr x l.name) = false) (fun i => n.lines.length - i) (fun i => st Try.f41.ntmps [(1, .imm (.str x)), (2, .box 1000 0), (5, .imm (.int .i64 (i : Nat)))] [(1000, .box 27 (n.enc.map .imm))] []) 0
    ⟨Nat.zero_le _, rfl⟩ (ref_st (fun _ => nid 1 2) rfl ⟨rfl, ⟨rfl, rfl⟩, rfl, trivial⟩ ⟨⟨rfl, wavs_imm _⟩, trivial⟩ (by simp) rfl (by simp)) ?_
  rintro i ⟨hi, ha⟩
  cases hx : n.lines[i]? with
  | none =>
    have hge := le_of_at hx
    rw [List.take_of_length_le hge] at ha
    repeat' first | refine go_seq ?_ | refine go_region ?_ | ((first | refine go_op rfl ?_ | refine go_nil ?_) <;> conv => whnf) | ((first | refine go_loadB ?_ | refine ⟨by kernel_rfl, ?_⟩ | refine go_ret ?_) <;> conv => whnf) | refine go_block ?_ | ((first | refine go_skip ?_ | refine go_exit ?_) <;> conv => whnf) | refine go_true rfl ?_ | refine go_false rfl ?_ | refine go_cond rfl (fun h => ?_) (fun h => ?_) | refine ⟨rfl, ?_⟩ | ((first | refine ⟨trivial, ?_⟩ | refine ⟨le_of_ble rfl, ?_⟩) <;> conv => whnf) | fail
    all_goals first
      | (exfalso; simp at h; omega)
      | exact ret_imm rfl rfl rfl rfl (by rw [idxF_miss ha]) rfl
  | some v =>
    have hlt := lt_of_at hx
    have hr := row_at Line.enc hx
    repeat' first | refine go_seq ?_ | refine go_region ?_ | ((first | refine go_op rfl ?_ | refine go_nil ?_ | refine go_idx rfl rfl rfl rfl (by omega) hr rfl ?_) <;> conv => whnf) | ((first | refine go_loadB ?_ | refine ⟨by kernel_rfl, ?_⟩ | refine go_ret ?_) <;> conv => whnf) | refine go_block ?_ | ((first | refine go_skip ?_ | refine go_exit ?_) <;> conv => whnf) | refine go_true rfl ?_ | refine go_false rfl ?_ | refine go_cond rfl (fun h => ?_) (fun h => ?_) | refine ⟨rfl, ?_⟩ | ((first | refine ⟨trivial, ?_⟩ | refine ⟨le_of_ble rfl, ?_⟩) <;> conv => whnf) | fail
    all_goals first
      | (exfalso; simp at h; omega)
      | exact go_next (i + 1) ⟨by omega, any_next (p := (fun l => pStr x l.name)) hx ha ((str_comm _ _).trans h)⟩ (by omega) (ref_st id rfl ⟨rfl, ⟨rfl, rfl⟩, next_i (by omega), trivial⟩ ⟨⟨rfl, wavs_imm _⟩, trivial⟩ (by simp) rfl (by simp))
      | exact ret_imm rfl rfl rfl rfl (by rw [idxF_hit (p := (fun l => pStr x l.name)) hx ((str_comm _ _).trans h) ha]) rfl


/-- The place of the first equal one is one's own place. -/
def namesOk (xs : List ByteArray) : Bool := allI (fun i s => nameOk s && decide (idxF (pStr s) xs = (i : Nat))) xs
def stopsOk (k : Nat) (l : Line) : Bool := allI (fun i s => inR s 0 ((k : Int) - 1) && decide (idxF (pInt s) l.stops = (i : Nat))) l.stops
def lineOk (k : Nat) (l : Line) : Bool := inR l.stops.length 2 6 && decide ((l.runs.length : Int) = (l.stops.length : Int) - 1) && stopsOk k l && l.runs.all (fun r => inR r 1 60)
def lineNames (n : Network) : List ByteArray := n.lines.map Line.name
def netOk (n : Network) : Bool := inR n.stops.length 2 8 && inR n.lines.length 1 5 && namesOk n.stops && namesOk (lineNames n) && n.lines.all (lineOk n.stops.length)

theorem c24 (xs : List ByteArray) (hl : xs.length ≤ 1048576) : CallOk Try.prog 24 [.imm (.list (xs.map strRow))] { res := [.imm (.bool (namesOk xs))] } := by
  refine callOk_of tyOk Try.func24 rfl rfl (le_of_ble rfl) (le_of_ble rfl) (mutOk_imm rfl _) ?_
  repeat' first | refine go_seq ?_ | refine go_region ?_ | refine go_miss rfl rfl rfl ?_ | refine go_undef rfl rfl rfl ?_ | ((first | refine go_op rfl ?_ | refine go_nil ?_ | refine go_hit rfl rfl rfl ?_ | refine go_splitT rfl rfl rfl (fun h => ?_) (fun h => ?_) | refine go_splitF rfl rfl rfl (fun h => ?_) (fun h => ?_) | refine go_pickT rfl ?_ | refine go_pickF rfl ?_ | refine go_pick rfl (fun h => ?_) (fun h => ?_)) <;> conv => whnf) | ((first | refine go_loadB ?_ | refine ⟨by kernel_rfl, ?_⟩ | refine go_ret ?_) <;> conv => whnf) | refine go_block ?_ | ((first | refine go_skip ?_ | refine go_exit ?_) <;> conv => whnf) | refine go_true rfl ?_ | refine go_false rfl ?_ | refine go_cond rfl (fun h => ?_) (fun h => ?_) | refine ⟨rfl, ?_⟩ | ((first | refine ⟨trivial, ?_⟩ | refine ⟨le_of_ble rfl, ?_⟩) <;> conv => whnf) | fail
  refine go_loop (α := Nat) (fun i => i ≤ xs.length ∧ upI (fun i s => nameOk s && decide (idxF (pStr s) xs = (i : Nat))) xs i = true) (fun i => xs.length - i)
    (fun i => st Try.f24.ntmps [(0, .imm (.list (xs.map strRow))), (5, .imm (.list (xs.map strRow))), (6, .imm (.int .i64 (xs.map strRow).length)), (7, .imm (.int .i64 (i : Nat)))] [] []) 0
    ⟨Nat.zero_le _, rfl⟩ (ref_st0 rfl ⟨rfl, rfl, rfl, rfl, trivial⟩ rfl) ?_
  rintro i ⟨hi, ha⟩
  cases hx : xs[i]? with
  | none =>
    have hge := le_of_at hx
    repeat' first | refine go_seq ?_ | refine go_region ?_ | refine go_miss rfl rfl rfl ?_ | refine go_undef rfl rfl rfl ?_ | ((first | refine go_op rfl ?_ | refine go_nil ?_ | refine go_hit rfl rfl rfl ?_ | refine go_splitT rfl rfl rfl (fun h => ?_) (fun h => ?_) | refine go_splitF rfl rfl rfl (fun h => ?_) (fun h => ?_) | refine go_pickT rfl ?_ | refine go_pickF rfl ?_ | refine go_pick rfl (fun h => ?_) (fun h => ?_)) <;> conv => whnf) | ((first | refine go_loadB ?_ | refine ⟨by kernel_rfl, ?_⟩ | refine go_ret ?_) <;> conv => whnf) | refine go_block ?_ | ((first | refine go_skip ?_ | refine go_exit ?_) <;> conv => whnf) | refine go_true rfl ?_ | refine go_false rfl ?_ | refine go_cond rfl (fun h => ?_) (fun h => ?_) | refine ⟨rfl, ?_⟩ | ((first | refine ⟨trivial, ?_⟩ | refine ⟨le_of_ble rfl, ?_⟩) <;> conv => whnf) | fail
    all_goals first
      | (exfalso; simp at h; omega)
      | exact ret_imm rfl rfl rfl rfl (by unfold namesOk; rw [allI_end hge ha]) rfl
  | some v =>
    have hlt := lt_of_at hx
    have hr := row_at strRow hx
    have hc1 := c36 v
    have hc2 := c37 xs v hl
    cases hn : nameOk v with
    | false =>
      rw [hn] at hc1
      have hf : namesOk xs = false := allI_not hx (by rw [hn]; rfl)
      repeat' first | refine go_seq ?_ | refine go_region ?_ | refine go_miss rfl rfl rfl ?_ | refine go_undef rfl rfl rfl ?_ | ((first | refine go_op rfl ?_ | refine go_nil ?_ | refine go_hit rfl rfl rfl ?_ | refine go_splitT rfl rfl rfl (fun h => ?_) (fun h => ?_) | refine go_splitF rfl rfl rfl (fun h => ?_) (fun h => ?_) | refine go_pickT rfl ?_ | refine go_pickF rfl ?_ | refine go_pick rfl (fun h => ?_) (fun h => ?_) | refine go_call [] (hc1) rfl rfl rfl rfl ?_ | refine go_call [] (hc2) rfl rfl rfl rfl ?_ | refine go_idx rfl rfl rfl rfl (by omega) hr rfl ?_) <;> conv => whnf) | ((first | refine go_loadB ?_ | refine ⟨by kernel_rfl, ?_⟩ | refine go_ret ?_) <;> conv => whnf) | refine go_block ?_ | ((first | refine go_skip ?_ | refine go_exit ?_) <;> conv => whnf) | refine go_true rfl ?_ | refine go_false rfl ?_ | refine go_cond rfl (fun h => ?_) (fun h => ?_) | refine ⟨rfl, ?_⟩ | ((first | refine ⟨trivial, ?_⟩ | refine ⟨le_of_ble rfl, ?_⟩) <;> conv => whnf) | fail
      all_goals first
        | (exfalso; simp at h; omega)
        | exact ret_imm rfl rfl rfl rfl (by rw [hf]) rfl
    | true =>
      rw [hn] at hc1
      by_cases hq : idxF (pStr v) xs = (i : Nat)
      · skip
        repeat' first | refine go_seq ?_ | refine go_region ?_ | refine go_miss rfl rfl rfl ?_ | refine go_undef rfl rfl rfl ?_ | ((first | refine go_op rfl ?_ | refine go_nil ?_ | refine go_hit rfl rfl rfl ?_ | refine go_splitT rfl rfl rfl (fun h => ?_) (fun h => ?_) | refine go_splitF rfl rfl rfl (fun h => ?_) (fun h => ?_) | refine go_pickT rfl ?_ | refine go_pickF rfl ?_ | refine go_pick rfl (fun h => ?_) (fun h => ?_) | refine go_call [] (hc1) rfl rfl rfl rfl ?_ | refine go_call [] (hc2) rfl rfl rfl rfl ?_ | refine go_idx rfl rfl rfl rfl (by omega) hr rfl ?_) <;> conv => whnf) | ((first | refine go_loadB ?_ | refine ⟨by kernel_rfl, ?_⟩ | refine go_ret ?_) <;> conv => whnf) | refine go_block ?_ | ((first | refine go_skip ?_ | refine go_exit ?_) <;> conv => whnf) | refine go_true rfl ?_ | refine go_false rfl ?_ | refine go_cond rfl (fun h => ?_) (fun h => ?_) | refine ⟨rfl, ?_⟩ | ((first | refine ⟨trivial, ?_⟩ | refine ⟨le_of_ble rfl, ?_⟩) <;> conv => whnf) | fail
        all_goals first
          | (exfalso; simp at h; omega)
          | exact go_next (i + 1) ⟨by omega, upI_next hx ha (by rw [hn, decide_eq_true hq]; rfl)⟩ (by omega) (ref_st0 rfl ⟨rfl, rfl, rfl, next_i (by omega), trivial⟩ rfl)
      · have hf : namesOk xs = false := allI_not hx (by rw [decide_eq_false hq, Bool.and_false])
        repeat' first | refine go_seq ?_ | refine go_region ?_ | refine go_miss rfl rfl rfl ?_ | refine go_undef rfl rfl rfl ?_ | ((first | refine go_op rfl ?_ | refine go_nil ?_ | refine go_hit rfl rfl rfl ?_ | refine go_splitT rfl rfl rfl (fun h => ?_) (fun h => ?_) | refine go_splitF rfl rfl rfl (fun h => ?_) (fun h => ?_) | refine go_pickT rfl ?_ | refine go_pickF rfl ?_ | refine go_pick rfl (fun h => ?_) (fun h => ?_) | refine go_call [] (hc1) rfl rfl rfl rfl ?_ | refine go_call [] (hc2) rfl rfl rfl rfl ?_ | refine go_idx rfl rfl rfl rfl (by omega) hr rfl ?_) <;> conv => whnf) | ((first | refine go_loadB ?_ | refine ⟨by kernel_rfl, ?_⟩ | refine go_ret ?_) <;> conv => whnf) | refine go_block ?_ | ((first | refine go_skip ?_ | refine go_exit ?_) <;> conv => whnf) | refine go_true rfl ?_ | refine go_false rfl ?_ | refine go_cond rfl (fun h => ?_) (fun h => ?_) | refine ⟨rfl, ?_⟩ | ((first | refine ⟨trivial, ?_⟩ | refine ⟨le_of_ble rfl, ?_⟩) <;> conv => whnf) | fail
        all_goals first
          | (exfalso; simp at h; omega)
          | exact ret_imm rfl rfl rfl rfl (by rw [hf]) rfl

theorem c25 (n : Network) (hl : n.lines.length ≤ 1048576) : CallOk Try.prog 25 [.imm (.agg n.enc)] { res := [.imm (.list ((lineNames n).map strRow))] } := by
  refine callOk_of tyOk Try.func25 rfl rfl (le_of_ble rfl) (le_of_ble rfl) (mutOk_imm rfl _) ?_
  have hll : (n.lines.map Line.enc).length = n.lines.length := List.length_map _
  repeat' first | refine go_seq ?_ | refine go_region ?_ | ((first | refine go_op rfl ?_ | refine go_nil ?_ | refine go_storeBox rfl rfl rfl rfl rfl rfl ?_ | refine go_makeN rfl rfl rfl rfl rfl rfl rfl rfl rfl (by omega) (by rw [hll]; omega) ?_) <;> conv => whnf) | ((first | refine go_loadB ?_ | refine ⟨by kernel_rfl, ?_⟩ | refine go_ret ?_) <;> conv => whnf) | refine go_block ?_ | ((first | refine go_skip ?_ | refine go_exit ?_) <;> conv => whnf) | refine go_true rfl ?_ | refine go_false rfl ?_ | refine go_cond rfl (fun h => ?_) (fun h => ?_) | refine ⟨rfl, ?_⟩ | ((first | refine ⟨trivial, ?_⟩ | refine ⟨le_of_ble rfl, ?_⟩) <;> conv => whnf) | fail
  refine go_loop (α := Nat) (fun i => i ≤ n.lines.length) (fun i => n.lines.length - i)
    (fun i => st Try.f25.ntmps [(3, .own 1000 0 (n.lines.map Line.enc).length), (11, .imm (.list (n.lines.map Line.enc))), (12, .imm (.int .i64 (n.lines.map Line.enc).length)), (13, .imm (.int .i64 (i : Nat)))]
      [(1000, .arr 9 1 (fill (fun l : Line => strRow l.name) ty9.zero n.lines i))] []) 0 (Nat.zero_le _) ?_ ?_
  · refine ref_st (fun _ => nid 2 9) rfl ⟨⟨rfl, rfl⟩, rfl, rfl, rfl, trivial⟩ ⟨?_, trivial⟩ (by simp) rfl (by simp)
    show some _ = some _
    rw [← fill_0, List.length_map]
    rfl
  · intro i hi
    cases hx : n.lines[i]? with
    | none =>
      have hge := le_of_at hx
      repeat' first | refine go_seq ?_ | refine go_region ?_ | ((first | refine go_op rfl ?_ | refine go_nil ?_ | refine go_storeBox rfl rfl rfl rfl rfl rfl ?_) <;> conv => whnf) | ((first | refine go_loadB ?_ | refine ⟨by kernel_rfl, ?_⟩ | refine go_ret ?_) <;> conv => whnf) | refine go_block ?_ | ((first | refine go_skip ?_ | refine go_exit ?_) <;> conv => whnf) | refine go_true rfl ?_ | refine go_false rfl ?_ | refine go_cond rfl (fun h => ?_) (fun h => ?_) | refine ⟨rfl, ?_⟩ | ((first | refine ⟨trivial, ?_⟩ | refine ⟨le_of_ble rfl, ?_⟩) <;> conv => whnf) | fail
      · exfalso; simp at *; omega
      · refine ret_own rfl rfl rfl rfl rfl ?_ (str_gr _)
        rw [fill_end _ _ _ hge]
        simp [lineNames, List.take_of_length_le]
    | some v =>
      have hlt := lt_of_at hx
      have hr := row_at Line.enc hx
      repeat' first | refine go_seq ?_ | refine go_region ?_ | ((first | refine go_op rfl ?_ | refine go_nil ?_ | refine go_storeBox rfl rfl rfl rfl rfl rfl ?_ | refine go_idx rfl rfl rfl rfl (by omega) (by assumption) rfl ?_ | refine go_idxOwn rfl rfl rfl rfl rfl rfl (by rw [hll]; omega) ?_ | refine go_storeRow rfl rfl rfl rfl (fill_at _ _ hx) rfl rfl (fill_set _ _ hx) ?_) <;> conv => whnf) | ((first | refine go_loadB ?_ | refine ⟨by kernel_rfl, ?_⟩ | refine go_ret ?_) <;> conv => whnf) | refine go_block ?_ | ((first | refine go_skip ?_ | refine go_exit ?_) <;> conv => whnf) | refine go_true rfl ?_ | refine go_false rfl ?_ | refine go_cond rfl (fun h => ?_) (fun h => ?_) | refine ⟨rfl, ?_⟩ | ((first | refine ⟨trivial, ?_⟩ | refine ⟨le_of_ble rfl, ?_⟩) <;> conv => whnf) | fail
      all_goals first
        | exact go_next (i + 1) (by omega) (by omega) (ref_st id rfl ⟨⟨rfl, rfl⟩, rfl, rfl, next_i (by omega), trivial⟩ ⟨rfl, trivial⟩ (by simp) rfl (by simp))
        | (exfalso; simp at h; omega)

theorem c14 (n : Network) (s : Int) : CallOk Try.prog 14 [.imm (.agg n.enc), .imm (.int .i64 s)] { res := [.imm (.bool (inR s 0 ((n.stops.length : Int) - 1)))] } := by
  refine callOk_of tyOk Try.func14 rfl rfl (le_of_ble rfl) (le_of_ble rfl) (mutOk_imm rfl _) ?_
  have hll : ((n.stops.map strRow).length : Int) = n.stops.length := by rw [List.length_map]
  repeat' first | refine go_seq ?_ | refine go_region ?_ | refine go_miss rfl rfl rfl ?_ | refine go_undef rfl rfl rfl ?_ | ((first | refine go_op rfl ?_ | refine go_nil ?_ | refine go_hit rfl rfl rfl ?_ | refine go_splitT rfl rfl rfl (fun h => ?_) (fun h => ?_) | refine go_splitF rfl rfl rfl (fun h => ?_) (fun h => ?_) | refine go_pickT rfl ?_ | refine go_pickF rfl ?_ | refine go_pick rfl (fun h => ?_) (fun h => ?_)) <;> conv => whnf) | ((first | refine go_loadB ?_ | refine ⟨by kernel_rfl, ?_⟩ | refine go_ret ?_) <;> conv => whnf) | ((first | refine go_skip ?_) <;> conv => whnf) | refine ⟨rfl, ?_⟩ | ((first | refine ⟨trivial, ?_⟩ | refine ⟨le_of_ble rfl, ?_⟩) <;> conv => whnf) | fail
  all_goals
    refine ret_imm rfl rfl rfl rfl ?_ rfl
    first
      | (have h' := of_decide_eq_true h; show D.bool (decide (s < ((n.stops.map strRow).length : Int))) = _; rw [hll]; simp only [inR, D.bool.injEq]; rw [Bool.eq_iff_iff]; simp; omega)
      | (have h' := of_decide_eq_false h; simp only [inR, D.bool.injEq]; rw [decide_eq_false (by omega)]; rfl)

theorem stop_step {k : Nat} {l : Line} : stopsOk k l = allI (fun i s => inR s 0 ((k : Int) - 1) && decide (idxF (pInt s) l.stops = (i : Nat))) l.stops := rfl

theorem c26 (n : Network) (l : Line) (hl1 : l.stops.length ≤ 1048576) (hl2 : l.runs.length ≤ 1048576) : CallOk Try.prog 26 [.imm (.agg n.enc), .imm (.agg l.enc)] { res := [.imm (.bool (lineOk n.stops.length l))] } := by
  refine callOk_of tyOk Try.func26 rfl rfl (le_of_ble rfl) (le_of_ble rfl) (mutOk_imm rfl _) ?_
  have hs : ((l.stops.map intRow).length : Int) = l.stops.length := by rw [List.length_map]
  have hr : ((l.runs.map intRow).length : Int) = l.runs.length := by rw [List.length_map]
  have hw := c23 ((l.stops.map intRow).length : Int) 2 6
  rw [show inR ((l.stops.map intRow).length : Int) 2 6 = inR l.stops.length 2 6 by rw [hs]] at hw
  have hwr : IntKind.i64.wrap (((l.stops.map intRow).length : Int) - 1) = (l.stops.length : Int) - 1 := by rw [hs]; exact wrap_small (by omega) (by omega)
  cases h1 : inR l.stops.length 2 6 with
  | false =>
    have hf : lineOk n.stops.length l = false := by unfold lineOk; rw [h1]; rfl
    rw [h1] at hw
    repeat' first | refine go_seq ?_ | refine go_region ?_ | refine go_miss rfl rfl rfl ?_ | refine go_undef rfl rfl rfl ?_ | ((first | refine go_op rfl ?_ | refine go_nil ?_ | refine go_hit rfl rfl rfl ?_ | refine go_splitT rfl rfl rfl (fun h => ?_) (fun h => ?_) | refine go_splitF rfl rfl rfl (fun h => ?_) (fun h => ?_) | refine go_pickT rfl ?_ | refine go_pickF rfl ?_ | refine go_pick rfl (fun h => ?_) (fun h => ?_) | refine go_call [] (hw) rfl rfl rfl rfl ?_) <;> conv => whnf) | ((first | refine go_loadB ?_ | refine ⟨by kernel_rfl, ?_⟩ | refine go_ret ?_) <;> conv => whnf) | refine go_block ?_ | ((first | refine go_skip ?_ | refine go_exit ?_) <;> conv => whnf) | refine go_true rfl ?_ | refine go_false rfl ?_ | refine go_cond rfl (fun h => ?_) (fun h => ?_) | refine ⟨rfl, ?_⟩ | ((first | refine ⟨trivial, ?_⟩ | refine ⟨le_of_ble rfl, ?_⟩) <;> conv => whnf) | fail
    all_goals exact ret_imm rfl rfl rfl rfl (by rw [hf]) rfl
  | true =>
    rw [h1] at hw
    by_cases h2 : (l.runs.length : Int) = (l.stops.length : Int) - 1
    case neg =>
      have hf : lineOk n.stops.length l = false := by unfold lineOk; rw [h1, decide_eq_false h2]; rfl
      repeat' first | refine go_seq ?_ | refine go_region ?_ | refine go_miss rfl rfl rfl ?_ | refine go_undef rfl rfl rfl ?_ | ((first | refine go_op rfl ?_ | refine go_nil ?_ | refine go_hit rfl rfl rfl ?_ | refine go_splitT rfl rfl rfl (fun h => ?_) (fun h => ?_) | refine go_splitF rfl rfl rfl (fun h => ?_) (fun h => ?_) | refine go_pickT rfl ?_ | refine go_pickF rfl ?_ | refine go_pick rfl (fun h => ?_) (fun h => ?_) | refine go_call [] (hw) rfl rfl rfl rfl ?_) <;> conv => whnf) | ((first | refine go_loadB ?_ | refine ⟨by kernel_rfl, ?_⟩ | refine go_ret ?_) <;> conv => whnf) | refine go_block ?_ | ((first | refine go_skip ?_ | refine go_exit ?_) <;> conv => whnf) | refine go_true rfl ?_ | refine go_false rfl ?_ | refine go_cond rfl (fun h => ?_) (fun h => ?_) | refine ⟨rfl, ?_⟩ | ((first | refine ⟨trivial, ?_⟩ | refine ⟨le_of_ble rfl, ?_⟩) <;> conv => whnf) | fail
      all_goals first
        | exact ret_imm rfl rfl rfl rfl (by rw [hf]) rfl
        | (exfalso; have h' : (!decide (((l.runs.map intRow).length : Int) = IntKind.i64.wrap (((l.stops.map intRow).length : Int) - 1))) = false := h
           rw [hwr, hr, decide_eq_false h2] at h'; cases h')
    case pos =>
      have hb : lineOk n.stops.length l = (stopsOk n.stops.length l && l.runs.all (fun r => inR r 1 60)) := by unfold lineOk; rw [h1, decide_eq_true h2]; rfl
      rw [hb]
      repeat' first | refine go_seq ?_ | refine go_region ?_ | refine go_miss rfl rfl rfl ?_ | refine go_undef rfl rfl rfl ?_ | ((first | refine go_op rfl ?_ | refine go_nil ?_ | refine go_hit rfl rfl rfl ?_ | refine go_splitT rfl rfl rfl (fun h => ?_) (fun h => ?_) | refine go_splitF rfl rfl rfl (fun h => ?_) (fun h => ?_) | refine go_pickT rfl ?_ | refine go_pickF rfl ?_ | refine go_pick rfl (fun h => ?_) (fun h => ?_) | refine go_call [] (hw) rfl rfl rfl rfl ?_) <;> conv => whnf) | ((first | refine go_loadB ?_ | refine ⟨by kernel_rfl, ?_⟩ | refine go_ret ?_) <;> conv => whnf) | refine go_block ?_ | ((first | refine go_skip ?_ | refine go_exit ?_) <;> conv => whnf) | refine go_true rfl ?_ | refine go_false rfl ?_ | refine go_cond rfl (fun h => ?_) (fun h => ?_) | refine ⟨rfl, ?_⟩ | ((first | refine ⟨trivial, ?_⟩ | refine ⟨le_of_ble rfl, ?_⟩) <;> conv => whnf) | fail
      · exfalso; have h' : (!decide (((l.runs.map intRow).length : Int) = IntKind.i64.wrap (((l.stops.map intRow).length : Int) - 1))) = true := h
        rw [hwr, hr, decide_eq_true h2] at h'; cases h'
      refine go_loop (α := Nat) (fun i => i ≤ l.stops.length ∧ upI (fun i s => inR s 0 ((n.stops.length : Int) - 1) && decide (idxF (pInt s) l.stops = (i : Nat))) l.stops i = true) (fun i => l.stops.length - i)
        (fun i => st Try.f26.ntmps [(2, .box 1000 0), (3, .box 1001 0), (25, .imm (.list (l.stops.map intRow))), (26, .imm (.int .i64 (l.stops.map intRow).length)), (27, .imm (.int .i64 (i : Nat)))]
          [(1000, .box 27 (n.enc.map .imm)), (1001, .box 44 (l.enc.map .imm))] []) 0
        ⟨Nat.zero_le _, rfl⟩ (ref_st (fun k => if k = 1000 then nid 1 2 else nid 1 3) rfl ⟨⟨rfl, rfl⟩, ⟨rfl, rfl⟩, rfl, rfl, rfl, trivial⟩ ⟨⟨rfl, wavs_imm _⟩, ⟨rfl, wavs_imm _⟩, trivial⟩ (by simp [nid]) rfl (by simp)) ?_
      rintro i ⟨hi, ha⟩
      cases hx : l.stops[i]? with
      | none =>
        have hge := le_of_at hx
        have hso : stopsOk n.stops.length l = true := allI_end hge ha
        rw [hso]
        repeat' first | refine go_seq ?_ | refine go_region ?_ | refine go_miss rfl rfl rfl ?_ | refine go_undef rfl rfl rfl ?_ | ((first | refine go_op rfl ?_ | refine go_nil ?_ | refine go_hit rfl rfl rfl ?_ | refine go_splitT rfl rfl rfl (fun h => ?_) (fun h => ?_) | refine go_splitF rfl rfl rfl (fun h => ?_) (fun h => ?_) | refine go_pickT rfl ?_ | refine go_pickF rfl ?_ | refine go_pick rfl (fun h => ?_) (fun h => ?_)) <;> conv => whnf) | ((first | refine go_loadB ?_ | refine ⟨by kernel_rfl, ?_⟩ | refine go_ret ?_) <;> conv => whnf) | refine go_block ?_ | ((first | refine go_skip ?_ | refine go_exit ?_) <;> conv => whnf) | refine go_true rfl ?_ | refine go_false rfl ?_ | refine go_cond rfl (fun h => ?_) (fun h => ?_) | refine ⟨rfl, ?_⟩ | ((first | refine ⟨trivial, ?_⟩ | refine ⟨le_of_ble rfl, ?_⟩) <;> conv => whnf) | fail
        · exfalso; simp at h; omega
        refine go_loop (α := Nat) (fun i => i ≤ l.runs.length ∧ (l.runs.take i).all (fun r => inR r 1 60) = true) (fun i => l.runs.length - i)
          (fun i => st Try.f26.ntmps [(46, .imm (.list (l.runs.map intRow))), (47, .imm (.int .i64 (l.runs.map intRow).length)), (48, .imm (.int .i64 (i : Nat)))] [] []) 0
          ⟨Nat.zero_le _, rfl⟩ (ref_st0 rfl ⟨rfl, rfl, rfl, trivial⟩ rfl) ?_
        rintro j ⟨hj, hb2⟩
        cases hy : l.runs[j]? with
        | none =>
          have hge2 := le_of_at hy
          repeat' first | refine go_seq ?_ | refine go_region ?_ | refine go_miss rfl rfl rfl ?_ | refine go_undef rfl rfl rfl ?_ | ((first | refine go_op rfl ?_ | refine go_nil ?_ | refine go_hit rfl rfl rfl ?_ | refine go_splitT rfl rfl rfl (fun h => ?_) (fun h => ?_) | refine go_splitF rfl rfl rfl (fun h => ?_) (fun h => ?_) | refine go_pickT rfl ?_ | refine go_pickF rfl ?_ | refine go_pick rfl (fun h => ?_) (fun h => ?_)) <;> conv => whnf) | ((first | refine go_loadB ?_ | refine ⟨by kernel_rfl, ?_⟩ | refine go_ret ?_) <;> conv => whnf) | refine go_block ?_ | ((first | refine go_skip ?_ | refine go_exit ?_) <;> conv => whnf) | refine go_true rfl ?_ | refine go_false rfl ?_ | refine go_cond rfl (fun h => ?_) (fun h => ?_) | refine ⟨rfl, ?_⟩ | ((first | refine ⟨trivial, ?_⟩ | refine ⟨le_of_ble rfl, ?_⟩) <;> conv => whnf) | fail
          all_goals first
            | (exfalso; simp at h; omega)
            | exact ret_imm rfl rfl rfl rfl (by rw [all_end hge2 hb2]; rfl) rfl
        | some r =>
          have hlt2 := lt_of_at hy
          have hr2 := row_at intRow hy
          have hc := c23 r 1 60
          cases hrr : inR r 1 60 with
          | false =>
            rw [hrr] at hc
            repeat' first | refine go_seq ?_ | refine go_region ?_ | refine go_miss rfl rfl rfl ?_ | refine go_undef rfl rfl rfl ?_ | ((first | refine go_op rfl ?_ | refine go_nil ?_ | refine go_hit rfl rfl rfl ?_ | refine go_splitT rfl rfl rfl (fun h => ?_) (fun h => ?_) | refine go_splitF rfl rfl rfl (fun h => ?_) (fun h => ?_) | refine go_pickT rfl ?_ | refine go_pickF rfl ?_ | refine go_pick rfl (fun h => ?_) (fun h => ?_) | refine go_call [] (hc) rfl rfl rfl rfl ?_ | refine go_idx rfl rfl rfl rfl (by omega) hr2 rfl ?_) <;> conv => whnf) | ((first | refine go_loadB ?_ | refine ⟨by kernel_rfl, ?_⟩ | refine go_ret ?_) <;> conv => whnf) | refine go_block ?_ | ((first | refine go_skip ?_ | refine go_exit ?_) <;> conv => whnf) | refine go_true rfl ?_ | refine go_false rfl ?_ | refine go_cond rfl (fun h => ?_) (fun h => ?_) | refine ⟨rfl, ?_⟩ | ((first | refine ⟨trivial, ?_⟩ | refine ⟨le_of_ble rfl, ?_⟩) <;> conv => whnf) | fail
            all_goals first
              | (exfalso; simp at h; omega)
              | exact ret_imm rfl rfl rfl rfl (by rw [all_not hy hrr]; rfl) rfl
          | true =>
            rw [hrr] at hc
            repeat' first | refine go_seq ?_ | refine go_region ?_ | refine go_miss rfl rfl rfl ?_ | refine go_undef rfl rfl rfl ?_ | ((first | refine go_op rfl ?_ | refine go_nil ?_ | refine go_hit rfl rfl rfl ?_ | refine go_splitT rfl rfl rfl (fun h => ?_) (fun h => ?_) | refine go_splitF rfl rfl rfl (fun h => ?_) (fun h => ?_) | refine go_pickT rfl ?_ | refine go_pickF rfl ?_ | refine go_pick rfl (fun h => ?_) (fun h => ?_) | refine go_call [] (hc) rfl rfl rfl rfl ?_ | refine go_idx rfl rfl rfl rfl (by omega) hr2 rfl ?_) <;> conv => whnf) | ((first | refine go_loadB ?_ | refine ⟨by kernel_rfl, ?_⟩ | refine go_ret ?_) <;> conv => whnf) | refine go_block ?_ | ((first | refine go_skip ?_ | refine go_exit ?_) <;> conv => whnf) | refine go_true rfl ?_ | refine go_false rfl ?_ | refine go_cond rfl (fun h => ?_) (fun h => ?_) | refine ⟨rfl, ?_⟩ | ((first | refine ⟨trivial, ?_⟩ | refine ⟨le_of_ble rfl, ?_⟩) <;> conv => whnf) | fail
            all_goals first
              | (exfalso; simp at h; omega)
              | exact go_next (j + 1) ⟨by omega, all_next hy hb2 hrr⟩ (by omega) (ref_st0 rfl ⟨rfl, rfl, next_i (by omega), trivial⟩ rfl)
      | some v =>
        have hlt := lt_of_at hx
        have hrw := row_at intRow hx
        have hc1 := c14 n v
        have hc2 := c27 l.stops v hl1
        cases hn : inR v 0 ((n.stops.length : Int) - 1) with
        | false =>
          rw [hn] at hc1
          have hf : stopsOk n.stops.length l = false := allI_not hx (by rw [hn]; rfl)
          rw [hf]
          repeat' first | refine go_seq ?_ | refine go_region ?_ | refine go_miss rfl rfl rfl ?_ | refine go_undef rfl rfl rfl ?_ | ((first | refine go_op rfl ?_ | refine go_nil ?_ | refine go_hit rfl rfl rfl ?_ | refine go_splitT rfl rfl rfl (fun h => ?_) (fun h => ?_) | refine go_splitF rfl rfl rfl (fun h => ?_) (fun h => ?_) | refine go_pickT rfl ?_ | refine go_pickF rfl ?_ | refine go_pick rfl (fun h => ?_) (fun h => ?_) | refine go_call [] (hc1) rfl rfl rfl rfl ?_ | refine go_call [] (hc2) rfl rfl rfl rfl ?_ | refine go_idx rfl rfl rfl rfl (by omega) hrw rfl ?_) <;> conv => whnf) | ((first | refine go_loadB ?_ | refine ⟨by kernel_rfl, ?_⟩ | refine go_ret ?_) <;> conv => whnf) | refine go_block ?_ | ((first | refine go_skip ?_ | refine go_exit ?_) <;> conv => whnf) | refine go_true rfl ?_ | refine go_false rfl ?_ | refine go_cond rfl (fun h => ?_) (fun h => ?_) | refine ⟨rfl, ?_⟩ | ((first | refine ⟨trivial, ?_⟩ | refine ⟨le_of_ble rfl, ?_⟩) <;> conv => whnf) | fail
          all_goals first
            | (exfalso; simp at h; omega)
            | exact ret_imm rfl rfl rfl rfl rfl rfl
        | true =>
          rw [hn] at hc1
          by_cases hq : idxF (pInt v) l.stops = (i : Nat)
          · skip
            repeat' first | refine go_seq ?_ | refine go_region ?_ | refine go_miss rfl rfl rfl ?_ | refine go_undef rfl rfl rfl ?_ | ((first | refine go_op rfl ?_ | refine go_nil ?_ | refine go_hit rfl rfl rfl ?_ | refine go_splitT rfl rfl rfl (fun h => ?_) (fun h => ?_) | refine go_splitF rfl rfl rfl (fun h => ?_) (fun h => ?_) | refine go_pickT rfl ?_ | refine go_pickF rfl ?_ | refine go_pick rfl (fun h => ?_) (fun h => ?_) | refine go_call [] (hc1) rfl rfl rfl rfl ?_ | refine go_call [] (hc2) rfl rfl rfl rfl ?_ | refine go_idx rfl rfl rfl rfl (by omega) hrw rfl ?_) <;> conv => whnf) | ((first | refine go_loadB ?_ | refine ⟨by kernel_rfl, ?_⟩ | refine go_ret ?_) <;> conv => whnf) | refine go_block ?_ | ((first | refine go_skip ?_ | refine go_exit ?_) <;> conv => whnf) | refine go_true rfl ?_ | refine go_false rfl ?_ | refine go_cond rfl (fun h => ?_) (fun h => ?_) | refine ⟨rfl, ?_⟩ | ((first | refine ⟨trivial, ?_⟩ | refine ⟨le_of_ble rfl, ?_⟩) <;> conv => whnf) | fail
            all_goals first
              | (exfalso; simp at h; omega)
              | exact go_next (i + 1) ⟨by omega, upI_next hx ha (by rw [hn, decide_eq_true hq]; rfl)⟩ (by omega) (ref_st id rfl ⟨⟨rfl, rfl⟩, ⟨rfl, rfl⟩, rfl, rfl, next_i (by omega), trivial⟩ ⟨⟨rfl, wavs_imm _⟩, ⟨rfl, wavs_imm _⟩, trivial⟩ (by simp) rfl (by simp))
          · have hf : stopsOk n.stops.length l = false := allI_not hx (by rw [decide_eq_false hq, Bool.and_false])
            rw [hf]
            repeat' first | refine go_seq ?_ | refine go_region ?_ | refine go_miss rfl rfl rfl ?_ | refine go_undef rfl rfl rfl ?_ | ((first | refine go_op rfl ?_ | refine go_nil ?_ | refine go_hit rfl rfl rfl ?_ | refine go_splitT rfl rfl rfl (fun h => ?_) (fun h => ?_) | refine go_splitF rfl rfl rfl (fun h => ?_) (fun h => ?_) | refine go_pickT rfl ?_ | refine go_pickF rfl ?_ | refine go_pick rfl (fun h => ?_) (fun h => ?_) | refine go_call [] (hc1) rfl rfl rfl rfl ?_ | refine go_call [] (hc2) rfl rfl rfl rfl ?_ | refine go_idx rfl rfl rfl rfl (by omega) hrw rfl ?_) <;> conv => whnf) | ((first | refine go_loadB ?_ | refine ⟨by kernel_rfl, ?_⟩ | refine go_ret ?_) <;> conv => whnf) | refine go_block ?_ | ((first | refine go_skip ?_ | refine go_exit ?_) <;> conv => whnf) | refine go_true rfl ?_ | refine go_false rfl ?_ | refine go_cond rfl (fun h => ?_) (fun h => ?_) | refine ⟨rfl, ?_⟩ | ((first | refine ⟨trivial, ?_⟩ | refine ⟨le_of_ble rfl, ?_⟩) <;> conv => whnf) | fail
            all_goals first
              | (exfalso; simp at h; omega)
              | exact ret_imm rfl rfl rfl rfl rfl rfl
end Go.Proofs.Yteoiohkdhdpkoaa


