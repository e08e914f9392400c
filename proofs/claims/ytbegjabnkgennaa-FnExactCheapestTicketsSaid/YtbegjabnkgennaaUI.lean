/- Lists with places; cmp.Or; prices. -/
import Derived.Test.YtbegjabnkgennaaN1
import Derived.Test.YtbegjabnkgennaaRC
namespace Go.Proofs.Ytbegjabnkgennaa
open Go Go.Am
set_option maxRecDepth 100000
set_option maxHeartbeats 4000000
attribute [local irreducible] amOps amC opCall opIndexAddr opPick retQ opMake opStore amDraw opAppend opLoad opNilCmp opIndex opSlice

/-- All elements with their places, below i. -/
def upI {α : Type} (p : Nat → α → Bool) (xs : List α) : Nat → Bool
  | 0 => true
  | i + 1 => upI p xs i && (match xs[i]? with | some v => p i v | none => true)
def allI {α : Type} (p : Nat → α → Bool) (xs : List α) : Bool := upI p xs xs.length
theorem upI_iff {α : Type} {p : Nat → α → Bool} {xs : List α} : ∀ {i : Nat}, upI p xs i = true ↔ ∀ j v, j < i → xs[j]? = some v → p j v = true
  | 0 => by simp [upI]
  | i + 1 => by
    simp only [upI, Bool.and_eq_true, upI_iff (i := i)]
    constructor
    · rintro ⟨h1, h2⟩ j v hj hx
      rcases Nat.lt_or_ge j i with h | h
      · exact h1 j v h hx
      · have e : j = i := by omega
        subst e
        rw [hx] at h2; exact h2
    · intro h
      refine ⟨fun j v hj hx => h j v (by omega) hx, ?_⟩
      cases hx : xs[i]? with
      | none => rfl
      | some v => exact h i v (by omega) hx
theorem allI_iff {α : Type} {p : Nat → α → Bool} {xs : List α} : allI p xs = true ↔ ∀ j v, xs[j]? = some v → p j v = true := by
  unfold allI
  rw [upI_iff]
  exact ⟨fun h j v hx => h j v (lt_of_at hx) hx, fun h j v _ hx => h j v hx⟩
theorem upI_next {α : Type} {p : Nat → α → Bool} {xs : List α} {i : Nat} {v : α} (hx : xs[i]? = some v) (h : upI p xs i = true) (hp : p i v = true) : upI p xs (i + 1) = true := by
  simp only [upI, h, hx, hp, Bool.and_self]
theorem allI_not {α : Type} {p : Nat → α → Bool} {xs : List α} {i : Nat} {v : α} (hx : xs[i]? = some v) (hp : p i v = false) : allI p xs = false := by
  rw [Bool.eq_false_iff, ne_eq, allI_iff]
  intro h
  rw [h i v hx] at hp; cases hp
theorem allI_end {α : Type} {p : Nat → α → Bool} {xs : List α} {i : Nat} (hi : xs.length ≤ i) (h : upI p xs i = true) : allI p xs = true := by
  rw [allI_iff]
  exact fun j v hx => upI_iff.1 h j v (by have := lt_of_at hx; omega) hx

def orF : List Int → Int
  | [] => 0
  | v :: l => if v = 0 then orF l else v
theorem c29 (xs : List Int) (hl : xs.length ≤ 1048576) : CallOk Try.prog 29 [.imm (.list (xs.map intRow))] { res := [.imm (.int .i64 (orF xs))] } := by
  refine callOk_of tyOk Try.func29 rfl rfl (le_of_ble rfl) (le_of_ble rfl) (mutOk_imm rfl _) ?_
  repeat' first | refine go_seq ?_ | refine go_region ?_ | ((first | refine go_op rfl ?_ | refine go_nil ?_) <;> conv => whnf) | ((first | refine go_loadB ?_ | refine ⟨by kernel_rfl, ?_⟩ | refine go_ret ?_) <;> conv => whnf) | refine go_block ?_ | ((first | refine go_skip ?_ | refine go_exit ?_) <;> conv => whnf) | refine go_true rfl ?_ | refine go_false rfl ?_ | refine go_cond rfl (fun h => ?_) (fun h => ?_) | refine ⟨rfl, ?_⟩ | ((first | refine ⟨trivial, ?_⟩ | refine ⟨le_of_ble rfl, ?_⟩) <;> conv => whnf) | fail
  refine go_loop (α := Nat) (fun i => i ≤ xs.length ∧ orF (xs.drop i) = orF xs) (fun i => xs.length - i)
    (fun i => st Try.f29.ntmps [(3, .imm (.int .i64 0)), (6, .imm (.list (xs.map intRow))), (7, .imm (.int .i64 (xs.map intRow).length)), (8, .imm (.int .i64 (i : Nat)))] [] []) 0 ⟨Nat.zero_le _, rfl⟩
    (ref_st0 rfl ⟨rfl, rfl, rfl, rfl, trivial⟩ rfl) ?_
  rintro i ⟨hi, ha⟩
  cases hx : xs[i]? with
  | none =>
    have hge := le_of_at hx
    rw [List.drop_eq_nil_of_le hge] at ha
    repeat' first | refine go_seq ?_ | refine go_region ?_ | ((first | refine go_op rfl ?_ | refine go_nil ?_) <;> conv => whnf) | ((first | refine go_loadB ?_ | refine ⟨by kernel_rfl, ?_⟩ | refine go_ret ?_) <;> conv => whnf) | refine go_block ?_ | ((first | refine go_skip ?_ | refine go_exit ?_) <;> conv => whnf) | refine go_true rfl ?_ | refine go_false rfl ?_ | refine go_cond rfl (fun h => ?_) (fun h => ?_) | refine ⟨rfl, ?_⟩ | ((first | refine ⟨trivial, ?_⟩ | refine ⟨le_of_ble rfl, ?_⟩) <;> conv => whnf) | fail
    all_goals first
      | (exfalso; simp at h; omega)
      | exact ret_imm rfl rfl rfl rfl (by rw [← ha]; rfl) rfl
  | some v =>
    have hlt := lt_of_at hx
    have hr := row_at intRow hx
    have hd : xs.drop i = v :: xs.drop (i + 1) := by
      rw [List.drop_eq_getElem_cons hlt]
      congr 1
      exact (List.getElem?_eq_some_iff.1 hx).2
    rw [hd] at ha
    by_cases h0 : v = 0
    · have hn : orF (xs.drop (i + 1)) = orF xs := by rw [← ha]; unfold orF; rw [if_pos h0]; cases xs.drop (i + 1) <;> rfl
      repeat' first | refine go_seq ?_ | refine go_region ?_ | ((first | refine go_op rfl ?_ | refine go_nil ?_ | refine go_idx rfl rfl rfl rfl (by omega) hr rfl ?_) <;> conv => whnf) | ((first | refine go_loadB ?_ | refine ⟨by kernel_rfl, ?_⟩ | refine go_ret ?_) <;> conv => whnf) | refine go_block ?_ | ((first | refine go_skip ?_ | refine go_exit ?_) <;> conv => whnf) | refine go_true rfl ?_ | refine go_false rfl ?_ | refine go_cond rfl (fun h => ?_) (fun h => ?_) | refine ⟨rfl, ?_⟩ | ((first | refine ⟨trivial, ?_⟩ | refine ⟨le_of_ble rfl, ?_⟩) <;> conv => whnf) | fail
      all_goals first
        | (exfalso; simp at h; omega)
        | exact go_next (i + 1) ⟨by omega, hn⟩ (by omega) (ref_st0 rfl ⟨rfl, rfl, rfl, next_i (by omega), trivial⟩ rfl)
    · have hn : orF xs = v := by rw [← ha]; unfold orF; rw [if_neg h0]
      repeat' first | refine go_seq ?_ | refine go_region ?_ | ((first | refine go_op rfl ?_ | refine go_nil ?_ | refine go_idx rfl rfl rfl rfl (by omega) hr rfl ?_) <;> conv => whnf) | ((first | refine go_loadB ?_ | refine ⟨by kernel_rfl, ?_⟩ | refine go_ret ?_) <;> conv => whnf) | refine go_block ?_ | ((first | refine go_skip ?_ | refine go_exit ?_) <;> conv => whnf) | refine go_true rfl ?_ | refine go_false rfl ?_ | refine go_cond rfl (fun h => ?_) (fun h => ?_) | refine ⟨rfl, ?_⟩ | ((first | refine ⟨trivial, ?_⟩ | refine ⟨le_of_ble rfl, ?_⟩) <;> conv => whnf) | fail
      all_goals first
        | (exfalso; simp at h; omega)
        | exact ret_imm rfl rfl rfl rfl (by rw [hn]) rfl


def timeOk (x : Int) : Bool := inR x 0 1799
theorem c38 (x : Int) : CallOk Try.prog 38 [.imm (.int .i64 x)] { res := [.imm (.bool (timeOk x))] } := by
  refine callOk_of tyOk Try.func38 rfl rfl (le_of_ble rfl) (le_of_ble rfl) (mutOk_imm rfl _) ?_
  repeat' first | refine go_seq ?_ | refine go_region ?_ | ((first | refine go_op rfl ?_ | refine go_nil ?_ | refine go_call [] (c35 x 0 1799) rfl rfl rfl rfl ?_) <;> conv => whnf) | ((first | refine ⟨by kernel_rfl, ?_⟩ | refine go_ret ?_) <;> conv => whnf) | ((first | refine go_skip ?_) <;> conv => whnf) | refine ⟨rfl, ?_⟩ | ((first | refine ⟨trivial, ?_⟩ | refine ⟨le_of_ble rfl, ?_⟩) <;> conv => whnf) | fail
  all_goals exact ret_imm rfl rfl rfl rfl rfl rfl
theorem c34 (x : Int) : CallOk Try.prog 34 [.imm (.int .i64 x)] { res := [.imm (.bool (timeOk x))] } := by
  refine callOk_of tyOk Try.func34 rfl rfl (le_of_ble rfl) (le_of_ble rfl) (mutOk_imm rfl _) ?_
  repeat' first | refine go_seq ?_ | refine go_region ?_ | ((first | refine go_op rfl ?_ | refine go_nil ?_ | refine go_call [] (c33 x 0 1799) rfl rfl rfl rfl ?_) <;> conv => whnf) | ((first | refine ⟨by kernel_rfl, ?_⟩ | refine go_ret ?_) <;> conv => whnf) | ((first | refine go_skip ?_) <;> conv => whnf) | refine ⟨rfl, ?_⟩ | ((first | refine ⟨trivial, ?_⟩ | refine ⟨le_of_ble rfl, ?_⟩) <;> conv => whnf) | fail
  all_goals exact ret_imm rfl rfl rfl rfl rfl rfl
theorem c40 (x y : Int) : CallOk Try.prog 40 [.imm (.int .i64 x), .imm (.int .i64 y)] { res := [.imm (.bool (decide (x < y)))] } := by
  refine callOk_of tyOk Try.func40 rfl rfl (le_of_ble rfl) (le_of_ble rfl) (mutOk_imm rfl _) ?_
  repeat' first | refine go_seq ?_ | refine go_region ?_ | refine go_miss rfl rfl rfl ?_ | refine go_undef rfl rfl rfl ?_ | ((first | refine go_op rfl ?_ | refine go_nil ?_ | refine go_hit rfl rfl rfl ?_ | refine go_splitT rfl rfl rfl (fun h => ?_) (fun h => ?_) | refine go_splitF rfl rfl rfl (fun h => ?_) (fun h => ?_) | refine go_pickT rfl ?_ | refine go_pickF rfl ?_ | refine go_pick rfl (fun h => ?_) (fun h => ?_) | refine go_call [] (c39 _) rfl rfl rfl rfl ?_) <;> conv => whnf) | ((first | refine ⟨by kernel_rfl, ?_⟩ | refine go_ret ?_) <;> conv => whnf) | ((first | refine go_skip ?_) <;> conv => whnf) | refine ⟨rfl, ?_⟩ | ((first | refine ⟨trivial, ?_⟩ | refine ⟨le_of_ble rfl, ?_⟩) <;> conv => whnf) | fail
  all_goals exact ret_imm rfl rfl rfl rfl (by simp) rfl

/-- No number is smaller than the one ahead of it. -/
def pairOk (l : List Int) (j : Nat) : Prop := ∀ a b, l[j - 1]? = some a → l[j]? = some b → a ≤ b
def Srt (l : List Int) : Prop := ∀ j, 0 < j → j < l.length → pairOk l j
open Classical in
noncomputable def srt (l : List Int) : Bool := decide (Srt l)
open Classical in
theorem srt_t {l : List Int} (h : Srt l) : srt l = true := decide_eq_true h
open Classical in
theorem srt_f {l : List Int} (h : ¬ Srt l) : srt l = false := decide_eq_false h
open Classical in
theorem srt_iff {l : List Int} : srt l = true ↔ Srt l := by unfold srt; exact decide_eq_true_iff

theorem c36 (l : List Int) (h1 : 1 ≤ l.length) (hl : l.length ≤ 1048576) : CallOk Try.prog 36 [.imm (.list (l.map intRow))] { res := [.imm (.bool (srt l))] } := by
  refine callOk_of tyOk Try.func36 rfl rfl (le_of_ble rfl) (le_of_ble rfl) (mutOk_imm rfl _) ?_
  have e0 : IntKind.i64.wrap (((l.map intRow).length : Int) - 1) = ((l.length - 1 : Nat) : Int) := by rw [List.length_map, wrap_small (by omega) (by omega)]; omega
  repeat' first | refine go_seq ?_ | refine go_region ?_ | refine go_draw drawsOk ?_ | ((first | refine go_op rfl ?_ | refine go_nil ?_ | refine go_dop rfl ?_ | refine go_dend (by kernel_rfl) ?_) <;> conv => whnf) | ((first | refine go_loadB ?_ | refine ⟨by kernel_rfl, ?_⟩ | refine go_ret ?_) <;> conv => whnf) | refine go_block ?_ | ((first | refine go_skip ?_ | refine go_exit ?_) <;> conv => whnf) | refine go_true rfl ?_ | refine go_false rfl ?_ | refine go_cond rfl (fun h => ?_) (fun h => ?_) | refine ⟨rfl, ?_⟩ | ((first | refine ⟨trivial, ?_⟩ | refine ⟨le_of_ble rfl, ?_⟩) <;> conv => whnf) | fail
  refine go_loop (α := Nat) (fun k => k < l.length ∧ ∀ j, k < j → j < l.length → pairOk l j) (fun k => k)
    (fun k => st Try.f36.ntmps [(0, .imm (.list (l.map intRow))), (3, .imm (.int .i64 (k : Nat)))] [] []) (l.length - 1)
    ⟨by omega, fun j h2 h3 => by omega⟩ (ref_st0 rfl ⟨rfl, ?_, trivial⟩ rfl) ?_
  · show AV.imm _ = AV.imm _
    rw [e0]
  rintro k ⟨hk, hp⟩
  cases k with
  | zero =>
    have hs : srt l = true := srt_t fun j h2 h3 => hp j h2 h3
    rw [hs]
    repeat' first | refine go_seq ?_ | refine go_region ?_ | refine go_draw drawsOk ?_ | ((first | refine go_op rfl ?_ | refine go_nil ?_ | refine go_dop rfl ?_ | refine go_dend (by kernel_rfl) ?_) <;> conv => whnf) | ((first | refine go_loadB ?_ | refine ⟨by kernel_rfl, ?_⟩ | refine go_ret ?_) <;> conv => whnf) | refine go_block ?_ | ((first | refine go_skip ?_ | refine go_exit ?_) <;> conv => whnf) | refine go_true rfl ?_ | refine go_false rfl ?_ | refine go_cond rfl (fun h => ?_) (fun h => ?_) | refine ⟨rfl, ?_⟩ | ((first | refine ⟨trivial, ?_⟩ | refine ⟨le_of_ble rfl, ?_⟩) <;> conv => whnf) | fail
    all_goals first
      | exact ret_imm rfl rfl rfl rfl rfl rfl
      | (exfalso; simp at h; done)
      | trace_state
  | succ k =>
    have e1 : IntKind.i64.wrap (((k + 1 : Nat) : Int) - 1) = ((k : Nat) : Int) := by rw [wrap_small (by omega) (by omega)]; omega
    have hb : l[k + 1]? = some l[k + 1] := List.getElem?_eq_getElem hk
    have ha : l[k]? = some (l[k]'(by omega)) := List.getElem?_eq_getElem (by omega)
    generalize l[k + 1] = b at *
    generalize (l[k]'(by omega)) = a at *
    have hrb := row_at intRow hb
    have hra : (l.map intRow)[(IntKind.i64.wrap (((k + 1 : Nat) : Int) - 1)).toNat]? = some (intRow a) := by rw [e1]; exact row_at intRow ha
    have hc := c40 b a
    by_cases hlt : b < a
    · have hs : srt l = false := srt_f fun h => by have := h (k + 1) (by omega) hk a b ha hb; omega
      rw [hs]
      rw [decide_eq_true hlt] at hc
      repeat' first | refine go_seq ?_ | refine go_region ?_ | refine go_draw drawsOk ?_ | ((first | refine go_op rfl ?_ | refine go_nil ?_ | refine go_dop rfl ?_ | refine go_dend (by kernel_rfl) ?_ | refine go_call [] (hc) rfl rfl rfl rfl ?_ | refine go_idx rfl rfl rfl rfl (by omega) hrb rfl ?_ | refine go_idx rfl rfl rfl rfl (by rw [e1]; omega) hra rfl ?_) <;> conv => whnf) | ((first | refine go_loadB ?_ | refine ⟨by kernel_rfl, ?_⟩ | refine go_ret ?_) <;> conv => whnf) | refine go_block ?_ | ((first | refine go_skip ?_ | refine go_exit ?_) <;> conv => whnf) | refine go_true rfl ?_ | refine go_false rfl ?_ | refine go_cond rfl (fun h => ?_) (fun h => ?_) | refine ⟨rfl, ?_⟩ | ((first | refine ⟨trivial, ?_⟩ | refine ⟨le_of_ble rfl, ?_⟩) <;> conv => whnf) | fail
      all_goals first
        | exact ret_imm rfl rfl rfl rfl rfl rfl
        | (exfalso; simp at h; omega)
        | (exfalso; simp at h; done)
        | trace_state
    · rw [decide_eq_false hlt] at hc
      repeat' first | refine go_seq ?_ | refine go_region ?_ | refine go_draw drawsOk ?_ | ((first | refine go_op rfl ?_ | refine go_nil ?_ | refine go_dop rfl ?_ | refine go_dend (by kernel_rfl) ?_ | refine go_call [] (hc) rfl rfl rfl rfl ?_ | refine go_idx rfl rfl rfl rfl (by omega) hrb rfl ?_ | refine go_idx rfl rfl rfl rfl (by rw [e1]; omega) hra rfl ?_) <;> conv => whnf) | ((first | refine go_loadB ?_ | refine ⟨by kernel_rfl, ?_⟩ | refine go_ret ?_) <;> conv => whnf) | refine go_block ?_ | ((first | refine go_skip ?_ | refine go_exit ?_) <;> conv => whnf) | refine go_true rfl ?_ | refine go_false rfl ?_ | refine go_cond rfl (fun h => ?_) (fun h => ?_) | refine ⟨rfl, ?_⟩ | ((first | refine ⟨trivial, ?_⟩ | refine ⟨le_of_ble rfl, ?_⟩) <;> conv => whnf) | fail
      all_goals first
        | (refine go_next k ⟨by omega, fun j h2 h3 => ?_⟩ (by omega) (ref_st0 rfl ⟨rfl, ?_, trivial⟩ rfl)
           · by_cases he : j = k + 1
             · subst he
               intro a' b' h4 h5
               rw [Nat.add_sub_cancel, ha] at h4; injection h4 with h4
               rw [hb] at h5; injection h5 with h5
               omega
             · exact hp j (by omega) h3
           · show AV.imm _ = AV.imm _
             rw [e1]
           done)
        | (exfalso; simp at h; omega)
        | (exfalso; simp at h; done)
        | trace_state

def isPr (x : Int) : Bool := inR x 0 10000
theorem c37 (x : Int) : CallOk Try.prog 37 [.imm (.int .i64 x)] { res := [.imm (.bool (isPr x))] } := by
  refine callOk_of tyOk Try.func37 rfl rfl (le_of_ble rfl) (le_of_ble rfl) (mutOk_imm rfl _) ?_
  repeat' first | refine go_seq ?_ | refine go_region ?_ | ((first | refine go_op rfl ?_ | refine go_nil ?_ | refine go_call [] (c35 _ _ _) rfl rfl rfl rfl ?_) <;> conv => whnf) | ((first | refine ⟨by kernel_rfl, ?_⟩ | refine go_ret ?_) <;> conv => whnf) | ((first | refine go_skip ?_) <;> conv => whnf) | refine ⟨rfl, ?_⟩ | ((first | refine ⟨trivial, ?_⟩ | refine ⟨le_of_ble rfl, ?_⟩) <;> conv => whnf) | fail
  all_goals exact ret_imm rfl rfl rfl rfl rfl rfl

/-- What the reference looks at, place by place. -/
def prAt (l : List Int) (i : Nat) (z : Int) : Bool := inR z 0 10000 && (decide (i = 0) || decide (l.getD (i - 1) 0 ≤ z))
def prOk (p : Prices) : Bool := allI (prAt p.zones) p.zones && inR p.zones.length 1 9 && inR p.day 0 10000 && inR p.week 0 10000

theorem srt_up {l : List Int} (h : Srt l) : ∀ (d i : Nat) a b, l[i]? = some a → l[i + d]? = some b → a ≤ b
  | 0, i, a, b, ha, hb => by rw [Nat.add_zero, ha] at hb; injection hb with hb; omega
  | d + 1, i, a, b, ha, hb => by
    have hlt := lt_of_at hb
    have hc : l[i + d]? = some (l[i + d]'(by omega)) := List.getElem?_eq_getElem (by omega)
    have h1 := srt_up h d i a _ ha hc
    have h2 := h (i + (d + 1)) (by omega) hlt _ b (by rw [show i + (d + 1) - 1 = i + d from by omega]; exact hc) hb
    omega
theorem prOk_impl {p : Prices} {a b : Int} (h1 : inR p.zones.length 1 9 = true) (ha : p.zones[0]? = some a) (hb : p.zones[p.zones.length - 1]? = some b) :
    prOk p = (srt p.zones && isPr p.day && isPr p.week && isPr a && isPr b) := by
  have key : allI (prAt p.zones) p.zones = (srt p.zones && isPr a && isPr b) := by
    rw [Bool.eq_iff_iff, allI_iff]
    simp only [Bool.and_eq_true, srt_iff, isPr]
    constructor
    · intro h
      have hz : ∀ j v, p.zones[j]? = some v → inR v 0 10000 = true := fun j v hj => by
        have := h j v hj; unfold prAt at this; simp only [Bool.and_eq_true] at this; exact this.1
      refine ⟨⟨fun j h2 h3 x y hx hy => ?_, hz _ _ ha⟩, hz _ _ hb⟩
      have := h j y hy
      unfold prAt at this
      simp only [Bool.and_eq_true, Bool.or_eq_true, decide_eq_true_eq] at this
      rcases this.2 with h4 | h4
      · omega
      · rw [List.getD_eq_getElem?_getD, hx] at h4; exact h4
    · rintro ⟨⟨hs, h2⟩, h3⟩ j v hj
      have hlt := lt_of_at hj
      have q1 := srt_up hs j 0 a v ha (by rw [Nat.zero_add]; exact hj)
      have q2 := srt_up hs (p.zones.length - 1 - j) j v b hj (by rw [show j + (p.zones.length - 1 - j) = p.zones.length - 1 from by omega]; exact hb)
      rw [inR_iff] at h2 h3
      unfold prAt
      simp only [Bool.and_eq_true, Bool.or_eq_true, decide_eq_true_eq]
      refine ⟨(inR_iff _ _ _).2 (by omega), ?_⟩
      by_cases hj0 : j = 0
      · exact .inl hj0
      · refine .inr ?_
        have hc : p.zones[j - 1]? = some (p.zones[j - 1]'(by omega)) := List.getElem?_eq_getElem (by omega)
        rw [List.getD_eq_getElem?_getD, hc]
        exact hs j (by omega) hlt _ v hc hj
  unfold prOk
  rw [key, h1]
  unfold isPr
  cases srt p.zones <;> cases inR p.day 0 10000 <;> cases inR p.week 0 10000 <;> cases inR a 0 10000 <;> cases inR b 0 10000 <;> rfl

theorem c26 (p : Prices) (hf : p.fit) : CallOk Try.prog 26 [.imm (.agg p.enc)] { res := [.imm (.bool (prOk p))] } := by
  refine callOk_of tyOk Try.func26 rfl rfl (le_of_ble rfl) (le_of_ble rfl) (mutOk_imm rfl _) ?_
  have hzl : ((p.zones.map intRow).length : Int) = p.zones.length := by rw [List.length_map]
  have hlen : p.zones.length ≤ 1048576 := hf
  have h0 : CallOk Try.prog 35 [.imm (.int .i64 ((p.zones.map intRow).length : Int)), .imm (.int .i64 1), .imm (.int .i64 9)] { res := [.imm (.bool (inR p.zones.length 1 9))] } := by rw [hzl]; exact c35 _ 1 9
  cases h1 : inR (p.zones.length : Int) 1 9 with
  | false =>
    have hp : prOk p = false := by unfold prOk; rw [h1]; simp
    rw [h1] at h0
    rw [hp]
    repeat' first | refine go_seq ?_ | refine go_region ?_ | refine go_miss rfl rfl rfl ?_ | refine go_undef rfl rfl rfl ?_ | ((first | refine go_op rfl ?_ | refine go_nil ?_ | refine go_hit rfl rfl rfl ?_ | refine go_splitT rfl rfl rfl (fun h => ?_) (fun h => ?_) | refine go_splitF rfl rfl rfl (fun h => ?_) (fun h => ?_) | refine go_pickT rfl ?_ | refine go_pickF rfl ?_ | refine go_pick rfl (fun h => ?_) (fun h => ?_) | refine go_call [] (h0) rfl rfl rfl rfl ?_) <;> conv => whnf) | ((first | refine go_loadB ?_ | refine ⟨by kernel_rfl, ?_⟩ | refine go_ret ?_) <;> conv => whnf) | ((first | refine go_skip ?_) <;> conv => whnf) | refine go_true rfl ?_ | refine go_false rfl ?_ | refine go_cond rfl (fun h => ?_) (fun h => ?_) | refine ⟨rfl, ?_⟩ | ((first | refine ⟨trivial, ?_⟩ | refine ⟨le_of_ble rfl, ?_⟩) <;> conv => whnf) | fail
    all_goals first
      | exact ret_imm rfl rfl rfl rfl rfl rfl
      | (exfalso; simp_all; done)
      | trace_state
  | true =>
    rw [h1] at h0
    have h19 := (inR_iff _ _ _).1 h1
    have ha : p.zones[0]? = some (p.zones[0]'(by omega)) := List.getElem?_eq_getElem (by omega)
    have hb : p.zones[p.zones.length - 1]? = some (p.zones[p.zones.length - 1]'(by omega)) := List.getElem?_eq_getElem (by omega)
    generalize (p.zones[0]'(by omega)) = a at *
    generalize (p.zones[p.zones.length - 1]'(by omega)) = b at *
    have e0 : IntKind.i64.wrap (((p.zones.map intRow).length : Int) - 1) = ((p.zones.length - 1 : Nat) : Int) := by rw [hzl, wrap_small (by omega) (by omega)]; omega
    have hra : (p.zones.map intRow)[((0 : Int)).toNat]? = some (intRow a) := by rw [List.getElem?_map]; show Option.map intRow p.zones[0]? = _; rw [ha]; rfl
    have hrb : (p.zones.map intRow)[(IntKind.i64.wrap (((p.zones.map intRow).length : Int) - 1)).toNat]? = some (intRow b) := by rw [e0]; exact row_at intRow hb
    have hi := c36 p.zones (by omega) (by omega)
    have hd := c37 p.day
    have hw := c37 p.week
    have hpa := c37 a
    have hpb := c37 b
    rw [prOk_impl h1 ha hb]
    cases b1 : srt p.zones <;> cases b2 : isPr p.day <;> cases b3 : isPr p.week <;> rw [b1] at hi <;> rw [b2] at hd <;> rw [b3] at hw <;>
    (
    repeat' first | refine go_seq ?_ | refine go_region ?_ | refine go_miss rfl rfl rfl ?_ | refine go_undef rfl rfl rfl ?_ | ((first | refine go_op rfl ?_ | refine go_nil ?_ | refine go_hit rfl rfl rfl ?_ | refine go_splitT rfl rfl rfl (fun h => ?_) (fun h => ?_) | refine go_splitF rfl rfl rfl (fun h => ?_) (fun h => ?_) | refine go_pickT rfl ?_ | refine go_pickF rfl ?_ | refine go_pick rfl (fun h => ?_) (fun h => ?_) | refine go_call [] (h0) rfl rfl rfl rfl ?_ | refine go_call [] (hi) rfl rfl rfl rfl ?_ | refine go_call [] (hd) rfl rfl rfl rfl ?_ | refine go_call [] (hw) rfl rfl rfl rfl ?_ | refine go_call [] (hpa) rfl rfl rfl rfl ?_ | refine go_call [] (hpb) rfl rfl rfl rfl ?_ | refine go_idx rfl rfl rfl rfl (by omega) hra rfl ?_ | refine go_idx rfl rfl rfl rfl (by rw [e0]; omega) hrb rfl ?_) <;> conv => whnf) | ((first | refine go_loadB ?_ | refine ⟨by kernel_rfl, ?_⟩ | refine go_ret ?_) <;> conv => whnf) | ((first | refine go_skip ?_) <;> conv => whnf) | refine go_true rfl ?_ | refine go_false rfl ?_ | refine go_cond rfl (fun h => ?_) (fun h => ?_) | refine ⟨rfl, ?_⟩ | ((first | refine ⟨trivial, ?_⟩ | refine ⟨le_of_ble rfl, ?_⟩) <;> conv => whnf) | fail
    all_goals first
      | exact ret_imm rfl rfl rfl rfl rfl rfl
      | (refine ret_imm rfl rfl rfl rfl ?_ rfl; simp_all; done)
      | trace_state
    )

theorem c21 (a b : Int) : CallOk Try.prog 21 [.imm (.int .i64 a), .imm (.int .i64 b)] { res := [.imm (.int .i64 (if a < b then a else b))] } := by
  refine callOk_of tyOk Try.func21 rfl rfl (le_of_ble rfl) (le_of_ble rfl) (mutOk_imm rfl _) ?_
  by_cases h1 : a < b
  · rw [if_pos h1]
    repeat' first | refine go_seq ?_ | refine go_region ?_ | ((first | refine go_op rfl ?_ | refine go_nil ?_) <;> conv => whnf) | ((first | refine ⟨by kernel_rfl, ?_⟩ | refine go_ret ?_) <;> conv => whnf) | ((first | refine go_skip ?_) <;> conv => whnf) | refine go_true rfl ?_ | refine go_false rfl ?_ | refine go_cond rfl (fun h => ?_) (fun h => ?_) | refine ⟨rfl, ?_⟩ | ((first | refine ⟨trivial, ?_⟩ | refine ⟨le_of_ble rfl, ?_⟩) <;> conv => whnf) | fail
    all_goals first
      | exact ret_imm rfl rfl rfl rfl rfl rfl
      | (exfalso; simp at h; omega)
  · rw [if_neg h1]
    repeat' first | refine go_seq ?_ | refine go_region ?_ | ((first | refine go_op rfl ?_ | refine go_nil ?_) <;> conv => whnf) | ((first | refine ⟨by kernel_rfl, ?_⟩ | refine go_ret ?_) <;> conv => whnf) | ((first | refine go_skip ?_) <;> conv => whnf) | refine go_true rfl ?_ | refine go_false rfl ?_ | refine go_cond rfl (fun h => ?_) (fun h => ?_) | refine ⟨rfl, ?_⟩ | ((first | refine ⟨trivial, ?_⟩ | refine ⟨le_of_ble rfl, ?_⟩) <;> conv => whnf) | fail
    all_goals first
      | exact ret_imm rfl rfl rfl rfl rfl rfl
      | (exfalso; simp at h; omega)

theorem c18 (p : Prices) (hf : p.fit) : CallOk Try.prog 18 [.imm (.agg p.enc)] { res := [.imm (.bool (prOk p))] } := by
  refine callOk_of tyOk Try.func18 rfl rfl (le_of_ble rfl) (le_of_ble rfl) (mutOk_imm rfl _) ?_
  have hzl : ((p.zones.map intRow).length : Int) = p.zones.length := by rw [List.length_map]
  have hlen : p.zones.length ≤ 1048576 := hf
  have h0 : CallOk Try.prog 33 [.imm (.int .i64 ((p.zones.map intRow).length : Int)), .imm (.int .i64 1), .imm (.int .i64 9)] { res := [.imm (.bool (inR p.zones.length 1 9))] } := by rw [hzl]; exact c33 _ 1 9
  have hd := c33 p.day 0 10000
  have hw := c33 p.week 0 10000
  repeat' first | refine go_seq ?_ | refine go_region ?_ | refine go_miss rfl rfl rfl ?_ | refine go_undef rfl rfl rfl ?_ | refine go_draw drawsOk ?_ | ((first | refine go_op rfl ?_ | refine go_nil ?_ | refine go_hit rfl rfl rfl ?_ | refine go_splitT rfl rfl rfl (fun h => ?_) (fun h => ?_) | refine go_splitF rfl rfl rfl (fun h => ?_) (fun h => ?_) | refine go_dop rfl ?_ | refine go_dhit rfl rfl ?_ | refine go_dmiss rfl rfl ?_ | refine go_dundef rfl rfl ?_ | refine go_dend (by kernel_rfl) ?_ | refine go_pickT rfl ?_ | refine go_pickF rfl ?_ | refine go_pick rfl (fun h => ?_) (fun h => ?_)) <;> conv => whnf) | ((first | refine go_dsplit2 rfl (fun h => ?_) (fun h => ?_) | refine go_loadB ?_ | refine ⟨by kernel_rfl, ?_⟩ | refine go_ret ?_) <;> conv => whnf) | refine go_block ?_ | ((first | refine go_skip ?_ | refine go_exit ?_) <;> conv => whnf) | refine go_true rfl ?_ | refine go_false rfl ?_ | refine go_cond rfl (fun h => ?_) (fun h => ?_) | refine ⟨rfl, ?_⟩ | ((first | refine ⟨trivial, ?_⟩ | refine ⟨le_of_ble rfl, ?_⟩) <;> conv => whnf) | fail
  refine go_loop (α := Nat) (fun i => i ≤ p.zones.length ∧ upI (prAt p.zones) p.zones i = true) (fun i => p.zones.length - i)
    (fun i => st Try.f18.ntmps [(1, .box 1000 0), (3, .imm (.int .i64 (i : Nat)))] [(1000, .box 30 (p.enc.map .imm))] []) 0 ⟨Nat.zero_le _, rfl⟩ ?_ ?_
  · exact ref_st (fun _ => nid 1 1) rfl ⟨⟨rfl, rfl⟩, rfl, trivial⟩ ⟨⟨rfl, wavs_imm _⟩, trivial⟩ (by simp) rfl (by simp)
  rintro i ⟨hi, hup⟩
  cases hx : p.zones[i]? with
  | none =>
    have hge := le_of_at hx
    have hall := allI_end hge hup
    have hp : prOk p = (inR p.zones.length 1 9 && inR p.day 0 10000 && inR p.week 0 10000) := by unfold prOk; rw [hall]; simp
    rw [hp]
    cases b1 : inR (p.zones.length : Int) 1 9 <;> cases b2 : inR p.day 0 10000 <;> rw [b1] at h0 <;> rw [b2] at hd <;>
    (
    repeat' first | refine go_seq ?_ | refine go_region ?_ | refine go_miss rfl rfl rfl ?_ | refine go_undef rfl rfl rfl ?_ | refine go_draw drawsOk ?_ | ((first | refine go_op rfl ?_ | refine go_nil ?_ | refine go_hit rfl rfl rfl ?_ | refine go_splitT rfl rfl rfl (fun h => ?_) (fun h => ?_) | refine go_splitF rfl rfl rfl (fun h => ?_) (fun h => ?_) | refine go_dop rfl ?_ | refine go_dhit rfl rfl ?_ | refine go_dmiss rfl rfl ?_ | refine go_dundef rfl rfl ?_ | refine go_dend (by kernel_rfl) ?_ | refine go_pickT rfl ?_ | refine go_pickF rfl ?_ | refine go_pick rfl (fun h => ?_) (fun h => ?_) | refine go_call [] (h0) rfl rfl rfl rfl ?_ | refine go_call [] (hd) rfl rfl rfl rfl ?_ | refine go_call [] (hw) rfl rfl rfl rfl ?_) <;> conv => whnf) | ((first | refine go_dsplit2 rfl (fun h => ?_) (fun h => ?_) | refine go_loadB ?_ | refine ⟨by kernel_rfl, ?_⟩ | refine go_ret ?_) <;> conv => whnf) | refine go_block ?_ | ((first | refine go_skip ?_ | refine go_exit ?_) <;> conv => whnf) | refine go_true rfl ?_ | refine go_false rfl ?_ | refine go_cond rfl (fun h => ?_) (fun h => ?_) | refine ⟨rfl, ?_⟩ | ((first | refine ⟨trivial, ?_⟩ | refine ⟨le_of_ble rfl, ?_⟩) <;> conv => whnf) | fail
    all_goals first
      | exact ret_imm rfl rfl rfl rfl rfl rfl
      | (exfalso; simp at h; omega)
      | trace_state
    )
  | some z =>
    have hlt := lt_of_at hx
    have hr := row_at intRow hx
    have hz := c33 z 0 10000
    cases hpz : prAt p.zones i z with
    | false =>
      have hp : prOk p = false := by unfold prOk; rw [allI_not hx hpz]; simp
      rw [hp]
      unfold prAt at hpz
      cases b1 : inR z 0 10000 with
      | false =>
        rw [b1] at hz
        repeat' first | refine go_seq ?_ | refine go_region ?_ | refine go_miss rfl rfl rfl ?_ | refine go_undef rfl rfl rfl ?_ | refine go_draw drawsOk ?_ | ((first | refine go_op rfl ?_ | refine go_nil ?_ | refine go_hit rfl rfl rfl ?_ | refine go_splitT rfl rfl rfl (fun h => ?_) (fun h => ?_) | refine go_splitF rfl rfl rfl (fun h => ?_) (fun h => ?_) | refine go_dop rfl ?_ | refine go_dhit rfl rfl ?_ | refine go_dmiss rfl rfl ?_ | refine go_dundef rfl rfl ?_ | refine go_dend (by kernel_rfl) ?_ | refine go_pickT rfl ?_ | refine go_pickF rfl ?_ | refine go_pick rfl (fun h => ?_) (fun h => ?_) | refine go_call [] (hz) rfl rfl rfl rfl ?_ | refine go_idx rfl rfl rfl rfl (by omega) hr rfl ?_) <;> conv => whnf) | ((first | refine go_dsplit2 rfl (fun h => ?_) (fun h => ?_) | refine go_loadB ?_ | refine ⟨by kernel_rfl, ?_⟩ | refine go_ret ?_) <;> conv => whnf) | refine go_block ?_ | ((first | refine go_skip ?_ | refine go_exit ?_) <;> conv => whnf) | refine go_true rfl ?_ | refine go_false rfl ?_ | refine go_cond rfl (fun h => ?_) (fun h => ?_) | refine ⟨rfl, ?_⟩ | ((first | refine ⟨trivial, ?_⟩ | refine ⟨le_of_ble rfl, ?_⟩) <;> conv => whnf) | fail
        all_goals first
          | exact ret_imm rfl rfl rfl rfl rfl rfl
          | (exfalso; simp at h; omega)
          | trace_state
      | true =>
        rw [b1] at hz hpz
        simp only [Bool.true_and, Bool.or_eq_false_iff, decide_eq_false_iff_not] at hpz
        obtain ⟨k, rfl⟩ : ∃ k, i = k + 1 := ⟨i - 1, by omega⟩
        have hk : p.zones[k]? = some (p.zones[k]'(by omega)) := List.getElem?_eq_getElem (by omega)
        generalize (p.zones[k]'(by omega)) = y at *
        have hy : ¬ y ≤ z := by
          have := hpz.2
          rw [Nat.add_sub_cancel, List.getD_eq_getElem?_getD, hk] at this
          exact this
        have e1 : IntKind.i64.wrap (((k + 1 : Nat) : Int) - 1) = ((k : Nat) : Int) := by rw [wrap_small (by omega) (by omega)]; omega
        have hrk : (p.zones.map intRow)[(IntKind.i64.wrap (((k + 1 : Nat) : Int) - 1)).toNat]? = some (intRow y) := by rw [e1]; exact row_at intRow hk
        repeat' first | refine go_seq ?_ | refine go_region ?_ | refine go_miss rfl rfl rfl ?_ | refine go_undef rfl rfl rfl ?_ | refine go_draw drawsOk ?_ | ((first | refine go_op rfl ?_ | refine go_nil ?_ | refine go_hit rfl rfl rfl ?_ | refine go_splitT rfl rfl rfl (fun h => ?_) (fun h => ?_) | refine go_splitF rfl rfl rfl (fun h => ?_) (fun h => ?_) | refine go_dop rfl ?_ | refine go_dhit rfl rfl ?_ | refine go_dmiss rfl rfl ?_ | refine go_dundef rfl rfl ?_ | refine go_dend (by kernel_rfl) ?_ | refine go_pickT rfl ?_ | refine go_pickF rfl ?_ | refine go_pick rfl (fun h => ?_) (fun h => ?_) | refine go_call [] (hz) rfl rfl rfl rfl ?_ | refine go_idx rfl rfl rfl rfl (by omega) hr rfl ?_ | refine go_idx rfl rfl rfl rfl (by rw [e1]; omega) hrk rfl ?_) <;> conv => whnf) | ((first | refine go_dsplit2 rfl (fun h => ?_) (fun h => ?_) | refine go_loadB ?_ | refine ⟨by kernel_rfl, ?_⟩ | refine go_ret ?_) <;> conv => whnf) | refine go_block ?_ | ((first | refine go_skip ?_ | refine go_exit ?_) <;> conv => whnf) | refine go_true rfl ?_ | refine go_false rfl ?_ | refine go_cond rfl (fun h => ?_) (fun h => ?_) | refine ⟨rfl, ?_⟩ | ((first | refine ⟨trivial, ?_⟩ | refine ⟨le_of_ble rfl, ?_⟩) <;> conv => whnf) | fail
        all_goals first
          | exact ret_imm rfl rfl rfl rfl rfl rfl
          | (exfalso; simp at h; omega)
          | (exfalso; simp_all; omega)
          | (exfalso; simp_all; done)
          | trace_state
    | true =>
      have hnx := upI_next hx hup hpz
      unfold prAt at hpz
      simp only [Bool.and_eq_true, Bool.or_eq_true, decide_eq_true_eq] at hpz
      rw [hpz.1] at hz
      by_cases hi0 : i = 0
      · subst hi0
        repeat' first | refine go_seq ?_ | refine go_region ?_ | refine go_miss rfl rfl rfl ?_ | refine go_undef rfl rfl rfl ?_ | refine go_draw drawsOk ?_ | ((first | refine go_op rfl ?_ | refine go_nil ?_ | refine go_hit rfl rfl rfl ?_ | refine go_splitT rfl rfl rfl (fun h => ?_) (fun h => ?_) | refine go_splitF rfl rfl rfl (fun h => ?_) (fun h => ?_) | refine go_dop rfl ?_ | refine go_dhit rfl rfl ?_ | refine go_dmiss rfl rfl ?_ | refine go_dundef rfl rfl ?_ | refine go_dend (by kernel_rfl) ?_ | refine go_pickT rfl ?_ | refine go_pickF rfl ?_ | refine go_pick rfl (fun h => ?_) (fun h => ?_) | refine go_call [] (hz) rfl rfl rfl rfl ?_ | refine go_idx rfl rfl rfl rfl (by omega) hr rfl ?_) <;> conv => whnf) | ((first | refine go_dsplit2 rfl (fun h => ?_) (fun h => ?_) | refine go_loadB ?_ | refine ⟨by kernel_rfl, ?_⟩ | refine go_ret ?_) <;> conv => whnf) | refine go_block ?_ | ((first | refine go_skip ?_ | refine go_exit ?_) <;> conv => whnf) | refine go_true rfl ?_ | refine go_false rfl ?_ | refine go_cond rfl (fun h => ?_) (fun h => ?_) | refine ⟨rfl, ?_⟩ | ((first | refine ⟨trivial, ?_⟩ | refine ⟨le_of_ble rfl, ?_⟩) <;> conv => whnf) | fail
        all_goals first
          | exact go_next 1 ⟨by omega, hnx⟩ (by omega) (ref_st id rfl ⟨⟨rfl, rfl⟩, next_i (by omega), trivial⟩ ⟨⟨rfl, wavs_imm _⟩, trivial⟩ (by simp) rfl (by simp))
          | (exfalso; simp at h; omega)
          | (exfalso; simp at h; rw [h] at hlt; cases hlt; done)
          | (exfalso; have h' := of_decide_eq_false h; rw [hzl] at h'; omega)
          | trace_state
      · obtain ⟨k, rfl⟩ : ∃ k, i = k + 1 := ⟨i - 1, by omega⟩
        have hk : p.zones[k]? = some (p.zones[k]'(by omega)) := List.getElem?_eq_getElem (by omega)
        generalize (p.zones[k]'(by omega)) = y at *
        have hy : y ≤ z := by
          rcases hpz.2 with h1 | h1
          · omega
          · rw [Nat.add_sub_cancel, List.getD_eq_getElem?_getD, hk] at h1
            exact h1
        have e1 : IntKind.i64.wrap (((k + 1 : Nat) : Int) - 1) = ((k : Nat) : Int) := by rw [wrap_small (by omega) (by omega)]; omega
        have hrk : (p.zones.map intRow)[(IntKind.i64.wrap (((k + 1 : Nat) : Int) - 1)).toNat]? = some (intRow y) := by rw [e1]; exact row_at intRow hk
        repeat' first | refine go_seq ?_ | refine go_region ?_ | refine go_miss rfl rfl rfl ?_ | refine go_undef rfl rfl rfl ?_ | refine go_draw drawsOk ?_ | ((first | refine go_op rfl ?_ | refine go_nil ?_ | refine go_hit rfl rfl rfl ?_ | refine go_splitT rfl rfl rfl (fun h => ?_) (fun h => ?_) | refine go_splitF rfl rfl rfl (fun h => ?_) (fun h => ?_) | refine go_dop rfl ?_ | refine go_dhit rfl rfl ?_ | refine go_dmiss rfl rfl ?_ | refine go_dundef rfl rfl ?_ | refine go_dend (by kernel_rfl) ?_ | refine go_pickT rfl ?_ | refine go_pickF rfl ?_ | refine go_pick rfl (fun h => ?_) (fun h => ?_) | refine go_call [] (hz) rfl rfl rfl rfl ?_ | refine go_idx rfl rfl rfl rfl (by omega) hr rfl ?_ | refine go_idx rfl rfl rfl rfl (by rw [e1]; omega) hrk rfl ?_) <;> conv => whnf) | ((first | refine go_dsplit2 rfl (fun h => ?_) (fun h => ?_) | refine go_loadB ?_ | refine ⟨by kernel_rfl, ?_⟩ | refine go_ret ?_) <;> conv => whnf) | refine go_block ?_ | ((first | refine go_skip ?_ | refine go_exit ?_) <;> conv => whnf) | refine go_true rfl ?_ | refine go_false rfl ?_ | refine go_cond rfl (fun h => ?_) (fun h => ?_) | refine ⟨rfl, ?_⟩ | ((first | refine ⟨trivial, ?_⟩ | refine ⟨le_of_ble rfl, ?_⟩) <;> conv => whnf) | fail
        all_goals first
          | exact go_next (k + 1 + 1) ⟨by omega, hnx⟩ (by omega) (ref_st id rfl ⟨⟨rfl, rfl⟩, next_i (by omega), trivial⟩ ⟨⟨rfl, wavs_imm _⟩, trivial⟩ (by simp) rfl (by simp))
          | (exfalso; simp at h; omega)
          | (exfalso; simp_all; omega)
          | (exfalso; simp_all; done)
          | trace_state

end Go.Proofs.Ytbegjabnkgennaa

