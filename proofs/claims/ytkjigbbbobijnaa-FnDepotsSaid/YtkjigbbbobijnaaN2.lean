/- The walks of names, of places in lists, and of whether a network is valid. MADE BY PROGRAM (n2.py). -/
import Derived.Test.YtkjigbbbobijnaaN1
namespace Go.Proofs.Ytkjigbbbobijnaa
open Go Go.Am
set_option maxRecDepth 100000
set_option maxHeartbeats 4000000
attribute [local irreducible] amOps amC opCall opIndexAddr opPick retQ opMake opStore amDraw opAppend opLoad opNilCmp opIndex opSlice

/-! ### Names -/

def bytes (s : ByteArray) : List UInt8 := s.data.toList
theorem bytes_len (s : ByteArray) : (bytes s).length = s.size := by unfold bytes; rw [Array.length_toList]; rfl
def lowB (b : UInt8) : Bool := decide (97 ≤ (b.toNat : Int)) && decide ((b.toNat : Int) ≤ 122)
def digB (b : UInt8) : Bool := decide (48 ≤ (b.toNat : Int)) && decide ((b.toNat : Int) ≤ 57)
def low0 (s : ByteArray) : Bool := match (bytes s)[0]? with | some b => lowB b | none => false
def nameOk (s : ByteArray) : Bool := inR s.size 1 8 && low0 s && (bytes s).all (fun b => lowB b || digB b)

theorem byte_at {s : ByteArray} {i : Nat} {b : UInt8} (h : (bytes s)[i]? = some b) : s.data.toList[((i : Nat) : Int).toNat]? = some b := h

def idxF {α : Type} (p : α → Bool) (xs : List α) : Int := if xs.any p then (xs.findIdx p : Nat) else -1

theorem idxF_hit {α : Type} {p : α → Bool} {xs : List α} {i : Nat} {v : α} (hx : xs[i]? = some v) (hp : p v = true) (ha : (xs.take i).any p = false) : idxF p xs = i := by
  have hlt := lt_of_at hx
  have hv : xs[i] = v := (List.getElem?_eq_some_iff.1 hx).2
  have hany : xs.any p = true := List.any_eq_true.2 ⟨v, List.mem_of_getElem? hx, hp⟩
  have hf : xs.findIdx p = i := by
    rw [List.findIdx_eq hlt]
    refine ⟨by rw [hv]; exact hp, fun j hj => ?_⟩
    have := List.any_eq_false.1 ha (xs[j]'(by omega)) (by
      rw [List.mem_take_iff_getElem]
      exact ⟨j, by omega, rfl⟩)
    simpa using this
  unfold idxF
  rw [if_pos hany, hf]
theorem idxF_miss {α : Type} {p : α → Bool} {xs : List α} (ha : xs.any p = false) : idxF p xs = -1 := by
  unfold idxF
  rw [ha]
  rfl
theorem idxF_ge {α : Type} (p : α → Bool) (xs : List α) : decide (0 ≤ idxF p xs) = xs.any p := by
  unfold idxF
  cases xs.any p <;> simp

theorem any_next {α : Type} {p : α → Bool} {xs : List α} {i : Nat} {x : α} (h : xs[i]? = some x) (ha : (xs.take i).any p = false) (hp : p x = false) : (xs.take (i + 1)).any p = false := by
  rw [List.take_add_one, h]
  simp only [List.any_append, ha, Option.toList_some, List.any_cons, hp, List.any_nil, Bool.or_self]



/-- All elements with their places, below i. -/
def upI {α : Type} (p : Nat → α → Bool) (xs : List α) : Nat → Bool
  | 0 => true
  | i + 1 => upI p xs i && (match xs[i]? with | some v => p i v | none => true)
def allI {α : Type} (p : Nat → α → Bool) (xs : List α) : Bool := upI p xs xs.length
theorem upI_iff {α : Type} {p : Nat → α → Bool} {xs : List α} : ∀ {i : Nat}, upI p xs i = true ↔ ∀ j v, j < i → xs[j]? = some v → p j v = true
  | 0 => by simp [upI]
  | i + 1 => by
    simp only [upI, Bool.and_eq_true, upI_iff (i := i)]
    constructor
    · rintro ⟨h1, h2⟩ j v hj hx
      rcases Nat.lt_or_ge j i with h | h
      · exact h1 j v h hx
      · have e : j = i := by omega
        subst e
        rw [hx] at h2; exact h2
    · intro h
      refine ⟨fun j v hj hx => h j v (by omega) hx, ?_⟩
      cases hx : xs[i]? with
      | none => rfl
      | some v => exact h i v (by omega) hx
theorem allI_iff {α : Type} {p : Nat → α → Bool} {xs : List α} : allI p xs = true ↔ ∀ j v, xs[j]? = some v → p j v = true := by
  unfold allI
  rw [upI_iff]
  exact ⟨fun h j v hx => h j v (lt_of_at hx) hx, fun h j v _ hx => h j v hx⟩
theorem upI_next {α : Type} {p : Nat → α → Bool} {xs : List α} {i : Nat} {v : α} (hx : xs[i]? = some v) (h : upI p xs i = true) (hp : p i v = true) : upI p xs (i + 1) = true := by
  simp only [upI, h, hx, hp, Bool.and_self]
theorem allI_not {α : Type} {p : Nat → α → Bool} {xs : List α} {i : Nat} {v : α} (hx : xs[i]? = some v) (hp : p i v = false) : allI p xs = false := by
  rw [Bool.eq_false_iff, ne_eq, allI_iff]
  intro h
  rw [h i v hx] at hp; cases hp
theorem allI_end {α : Type} {p : Nat → α → Bool} {xs : List α} {i : Nat} (hi : xs.length ≤ i) (h : upI p xs i = true) : allI p xs = true := by
  rw [allI_iff]
  exact fun j v hx => upI_iff.1 h j v (by have := lt_of_at hx; omega) hx
theorem str_comm (a b : ByteArray) : (a == b) = (b == a) := by
  rw [beq_toListBytes, beq_toListBytes]
  exact Bool.beq_comm

def pInt (v : Int) (x : Int) : Bool := decide (v = x)
def pStr (v : ByteArray) (x : ByteArray) : Bool := v == x
theorem idx_lo {α : Type} (p : α → Bool) (xs : List α) : -1 ≤ idxF p xs := by unfold idxF; split <;> omega
theorem idx_hi {α : Type} (p : α → Bool) (xs : List α) : idxF p xs < xs.length ∨ xs = [] := by
  unfold idxF
  split
  · rename_i h
    left
    obtain ⟨x, hx, hp⟩ := List.any_eq_true.1 h
    have := List.findIdx_lt_length_of_exists (p := p) (xs := xs) ⟨x, hx, hp⟩
    omega
  · cases xs with
    | nil => exact .inr rfl
    | cons a l => left; simp; omega

theorem c41 (xs : List Int) (x : Int) (hl : xs.length ≤ 1048576) : CallOk Try.prog 41 [.imm (.list (xs.map intRow)), .imm (.int .i64 x)] { res := [.imm (.int .i64 (idxF (pInt x) xs))] } := by
  refine callOk_of tyOk Try.func41 rfl rfl (le_of_ble rfl) (le_of_ble rfl) (mutOk_imm rfl _) ?_
  repeat' first | refine go_seq ?_ | refine go_region ?_ | ((first | refine go_op rfl ?_ | refine go_nil ?_) <;> conv => whnf) | ((first | refine go_loadB ?_ | refine ⟨by kernel_rfl, ?_⟩ | refine go_ret ?_) <;> conv => whnf) | refine go_block ?_ | ((first | refine go_skip ?_ | refine go_exit ?_) <;> conv => whnf) | refine go_true rfl ?_ | refine go_false rfl ?_ | refine go_cond rfl (fun h => ?_) (fun h => ?_) | refine ⟨rfl, ?_⟩ | ((first | refine ⟨trivial, ?_⟩ | refine ⟨le_of_ble rfl, ?_⟩) <;> conv => whnf) | fail
  refine go_loop (α := Nat) (fun i => i ≤ xs.length ∧ (xs.take i).any (pInt x) = false) (fun i => xs.length - i) (fun i => st Try.f41.ntmps [(0, .imm (.list (xs.map intRow))), (1, .imm (.int .i64 x)), (7, .imm (.int .i64 (xs.map intRow).length)), (8, .imm (.int .i64 (i : Nat)))] [] []) 0
    ⟨Nat.zero_le _, rfl⟩ (ref_st0 rfl ⟨rfl, rfl, rfl, rfl, trivial⟩ rfl) ?_
  rintro i ⟨hi, ha⟩
  cases hx : xs[i]? with
  | none =>
    have hge := le_of_at hx
    rw [List.take_of_length_le hge] at ha
    repeat' first | refine go_seq ?_ | refine go_region ?_ | ((first | refine go_op rfl ?_ | refine go_nil ?_) <;> conv => whnf) | ((first | refine go_loadB ?_ | refine ⟨by kernel_rfl, ?_⟩ | refine go_ret ?_) <;> conv => whnf) | refine go_block ?_ | ((first | refine go_skip ?_ | refine go_exit ?_) <;> conv => whnf) | refine go_true rfl ?_ | refine go_false rfl ?_ | refine go_cond rfl (fun h => ?_) (fun h => ?_) | refine ⟨rfl, ?_⟩ | ((first | refine ⟨trivial, ?_⟩ | refine ⟨le_of_ble rfl, ?_⟩) <;> conv => whnf) | fail
    all_goals first
      | (exfalso; simp at h; omega)
      | exact ret_imm rfl rfl rfl rfl (by rw [idxF_miss ha]) rfl
  | some v =>
    have hlt := lt_of_at hx
    have hr := row_at intRow hx
    repeat' first | refine go_seq ?_ | refine go_region ?_ | ((first | refine go_op rfl ?_ | refine go_nil ?_ | refine go_idx rfl rfl rfl rfl (by omega) hr rfl ?_) <;> conv => whnf) | ((first | refine go_loadB ?_ | refine ⟨by kernel_rfl, ?_⟩ | refine go_ret ?_) <;> conv => whnf) | refine go_block ?_ | ((first | refine go_skip ?_ | refine go_exit ?_) <;> conv => whnf) | refine go_true rfl ?_ | refine go_false rfl ?_ | refine go_cond rfl (fun h => ?_) (fun h => ?_) | refine ⟨rfl, ?_⟩ | ((first | refine ⟨trivial, ?_⟩ | refine ⟨le_of_ble rfl, ?_⟩) <;> conv => whnf) | fail
    all_goals first
      | (exfalso; simp at h; omega)
      | exact go_next (i + 1) ⟨by omega, any_next (p := (pInt x)) hx ha (by simpa [pInt] using h)⟩ (by omega) (ref_st0 rfl ⟨rfl, rfl, rfl, next_i (by omega), trivial⟩ rfl)
      | exact ret_imm rfl rfl rfl rfl (by rw [idxF_hit (p := (pInt x)) hx (by simpa [pInt] using h) ha]) rfl

/-- The place of the first equal one is one's own place. -/
def namesOk (xs : List ByteArray) : Bool := allI (fun i s => nameOk s && decide (idxF (pStr s) xs = (i : Nat))) xs
def stopsOk (k : Nat) (l : Line) : Bool := allI (fun i s => inR s 0 ((k : Int) - 1) && decide (idxF (pInt s) l.stops = (i : Nat))) l.stops
def lineOk (k : Nat) (l : Line) : Bool := inR l.stops.length 2 6 && decide ((l.runs.length : Int) = (l.stops.length : Int) - 1) && stopsOk k l && l.runs.all (fun r => inR r 1 60)
def lineNames (n : Network) : List ByteArray := n.lines.map Line.name
def netOk (n : Network) : Bool := inR n.stops.length 2 8 && inR n.lines.length 1 5 && namesOk n.stops && namesOk (lineNames n) && n.lines.all (lineOk n.stops.length)

theorem stop_step {k : Nat} {l : Line} : stopsOk k l = allI (fun i s => inR s 0 ((k : Int) - 1) && decide (idxF (pInt s) l.stops = (i : Nat))) l.stops := rfl

end Go.Proofs.Ytkjigbbbobijnaa


