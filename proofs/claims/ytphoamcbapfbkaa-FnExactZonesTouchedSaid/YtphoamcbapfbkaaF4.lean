/- Prices, single fares. -/
import Derived.Test.YtphoamcbapfbkaaF2
namespace Go.Proofs.Ytphoamcbapfbkaa
open Go Go.Am
set_option maxRecDepth 100000
set_option maxHeartbeats 4000000
attribute [local irreducible] amOps amC opCall opIndexAddr opPick retQ opMake opStore amDraw opAppend opLoad opNilCmp opIndex opSlice

theorem c99 (x : Int) : CallOk Try.prog 99 [.imm (.int .i64 x)] { res := [.imm (.bool false)] } := by
  refine callOk_of tyOk Try.func99 rfl rfl (le_of_ble rfl) (le_of_ble rfl) (mutOk_imm rfl _) ?_
  repeat' first | refine go_seq ?_ | refine go_region ?_ | ((first | refine go_op rfl ?_ | refine go_nil ?_) <;> conv => whnf) | ((first | refine ⟨by kernel_rfl, ?_⟩ | refine go_ret ?_) <;> conv => whnf) | ((first | refine go_skip ?_) <;> conv => whnf) | refine ⟨rfl, ?_⟩ | ((first | refine ⟨trivial, ?_⟩ | refine ⟨le_of_ble rfl, ?_⟩) <;> conv => whnf) | fail
  all_goals exact ret_imm rfl rfl rfl rfl (by simp) rfl
theorem c109 (x y : Int) : CallOk Try.prog 109 [.imm (.int .i64 x), .imm (.int .i64 y)] { res := [.imm (.bool (decide (x < y)))] } := by
  refine callOk_of tyOk Try.func109 rfl rfl (le_of_ble rfl) (le_of_ble rfl) (mutOk_imm rfl _) ?_
  repeat' first | refine go_seq ?_ | refine go_region ?_ | refine go_miss rfl rfl rfl ?_ | refine go_undef rfl rfl rfl ?_ | ((first | refine go_op rfl ?_ | refine go_nil ?_ | refine go_hit rfl rfl rfl ?_ | refine go_splitT rfl rfl rfl (fun h => ?_) (fun h => ?_) | refine go_splitF rfl rfl rfl (fun h => ?_) (fun h => ?_) | refine go_pickT rfl ?_ | refine go_pickF rfl ?_ | refine go_pick rfl (fun h => ?_) (fun h => ?_) | refine go_call [] (c99 _) rfl rfl rfl rfl ?_) <;> conv => whnf) | ((first | refine ⟨by kernel_rfl, ?_⟩ | refine go_ret ?_) <;> conv => whnf) | ((first | refine go_skip ?_) <;> conv => whnf) | refine ⟨rfl, ?_⟩ | ((first | refine ⟨trivial, ?_⟩ | refine ⟨le_of_ble rfl, ?_⟩) <;> conv => whnf) | fail
  all_goals exact ret_imm rfl rfl rfl rfl (by simp) rfl

/-- No number is smaller than the one ahead of it. -/
def pairOk (l : List Int) (j : Nat) : Prop := ∀ a b, l[j - 1]? = some a → l[j]? = some b → a ≤ b
def Srt (l : List Int) : Prop := ∀ j, 0 < j → j < l.length → pairOk l j
open Classical in
noncomputable def srt (l : List Int) : Bool := decide (Srt l)
open Classical in
theorem srt_t {l : List Int} (h : Srt l) : srt l = true := decide_eq_true h
open Classical in
theorem srt_f {l : List Int} (h : ¬ Srt l) : srt l = false := decide_eq_false h
open Classical in
theorem srt_iff {l : List Int} : srt l = true ↔ Srt l := by unfold srt; exact decide_eq_true_iff

theorem c96 (l : List Int) (h1 : 1 ≤ l.length) (hl : l.length ≤ 1048576) : CallOk Try.prog 96 [.imm (.list (l.map intRow))] { res := [.imm (.bool (srt l))] } := by
  refine callOk_of tyOk Try.func96 rfl rfl (le_of_ble rfl) (le_of_ble rfl) (mutOk_imm rfl _) ?_
  have e0 : IntKind.i64.wrap (((l.map intRow).length : Int) - 1) = ((l.length - 1 : Nat) : Int) := by rw [List.length_map, wrap_small (by omega) (by omega)]; omega
  repeat' first | refine go_seq ?_ | refine go_region ?_ | refine go_draw drawsOk ?_ | ((first | refine go_op rfl ?_ | refine go_nil ?_ | refine go_dop rfl ?_ | refine go_dend (by kernel_rfl) ?_) <;> conv => whnf) | ((first | refine go_loadB ?_ | refine ⟨by kernel_rfl, ?_⟩ | refine go_ret ?_) <;> conv => whnf) | refine go_block ?_ | ((first | refine go_skip ?_ | refine go_exit ?_) <;> conv => whnf) | refine go_true rfl ?_ | refine go_false rfl ?_ | refine go_cond rfl (fun h => ?_) (fun h => ?_) | refine ⟨rfl, ?_⟩ | ((first | refine ⟨trivial, ?_⟩ | refine ⟨le_of_ble rfl, ?_⟩) <;> conv => whnf) | fail
  refine go_loop (α := Nat) (fun k => k < l.length ∧ ∀ j, k < j → j < l.length → pairOk l j) (fun k => k)
    (fun k => st Try.f96.ntmps [(0, .imm (.list (l.map intRow))), (3, .imm (.int .i64 (k : Nat)))] [] []) (l.length - 1)
    ⟨by omega, fun j h2 h3 => by omega⟩ (ref_st0 rfl ⟨rfl, ?_, trivial⟩ rfl) ?_
  · show AV.imm _ = AV.imm _
    rw [e0]
  rintro k ⟨hk, hp⟩
  cases k with
  | zero =>
    have hs : srt l = true := srt_t fun j h2 h3 => hp j h2 h3
    rw [hs]
    repeat' first | refine go_seq ?_ | refine go_region ?_ | refine go_draw drawsOk ?_ | ((first | refine go_op rfl ?_ | refine go_nil ?_ | refine go_dop rfl ?_ | refine go_dend (by kernel_rfl) ?_) <;> conv => whnf) | ((first | refine go_loadB ?_ | refine ⟨by kernel_rfl, ?_⟩ | refine go_ret ?_) <;> conv => whnf) | refine go_block ?_ | ((first | refine go_skip ?_ | refine go_exit ?_) <;> conv => whnf) | refine go_true rfl ?_ | refine go_false rfl ?_ | refine go_cond rfl (fun h => ?_) (fun h => ?_) | refine ⟨rfl, ?_⟩ | ((first | refine ⟨trivial, ?_⟩ | refine ⟨le_of_ble rfl, ?_⟩) <;> conv => whnf) | fail
    all_goals first
      | exact ret_imm rfl rfl rfl rfl rfl rfl
      | (exfalso; simp at h; done)
      | trace_state
  | succ k =>
    have e1 : IntKind.i64.wrap (((k + 1 : Nat) : Int) - 1) = ((k : Nat) : Int) := by rw [wrap_small (by omega) (by omega)]; omega
    have hb : l[k + 1]? = some l[k + 1] := List.getElem?_eq_getElem hk
    have ha : l[k]? = some (l[k]'(by omega)) := List.getElem?_eq_getElem (by omega)
    generalize l[k + 1] = b at *
    generalize (l[k]'(by omega)) = a at *
    have hrb := row_at intRow hb
    have hra : (l.map intRow)[(IntKind.i64.wrap (((k + 1 : Nat) : Int) - 1)).toNat]? = some (intRow a) := by rw [e1]; exact row_at intRow ha
    have hc := c109 b a
    by_cases hlt : b < a
    · have hs : srt l = false := srt_f fun h => by have := h (k + 1) (by omega) hk a b ha hb; omega
      rw [hs]
      rw [decide_eq_true hlt] at hc
      repeat' first | refine go_seq ?_ | refine go_region ?_ | refine go_draw drawsOk ?_ | ((first | refine go_op rfl ?_ | refine go_nil ?_ | refine go_dop rfl ?_ | refine go_dend (by kernel_rfl) ?_ | refine go_call [] (hc) rfl rfl rfl rfl ?_ | refine go_idx rfl rfl rfl rfl (by omega) hrb rfl ?_ | refine go_idx rfl rfl rfl rfl (by rw [e1]; omega) hra rfl ?_) <;> conv => whnf) | ((first | refine go_loadB ?_ | refine ⟨by kernel_rfl, ?_⟩ | refine go_ret ?_) <;> conv => whnf) | refine go_block ?_ | ((first | refine go_skip ?_ | refine go_exit ?_) <;> conv => whnf) | refine go_true rfl ?_ | refine go_false rfl ?_ | refine go_cond rfl (fun h => ?_) (fun h => ?_) | refine ⟨rfl, ?_⟩ | ((first | refine ⟨trivial, ?_⟩ | refine ⟨le_of_ble rfl, ?_⟩) <;> conv => whnf) | fail
      all_goals first
        | exact ret_imm rfl rfl rfl rfl rfl rfl
        | (exfalso; simp at h; omega)
        | (exfalso; simp at h; done)
        | trace_state
    · rw [decide_eq_false hlt] at hc
      repeat' first | refine go_seq ?_ | refine go_region ?_ | refine go_draw drawsOk ?_ | ((first | refine go_op rfl ?_ | refine go_nil ?_ | refine go_dop rfl ?_ | refine go_dend (by kernel_rfl) ?_ | refine go_call [] (hc) rfl rfl rfl rfl ?_ | refine go_idx rfl rfl rfl rfl (by omega) hrb rfl ?_ | refine go_idx rfl rfl rfl rfl (by rw [e1]; omega) hra rfl ?_) <;> conv => whnf) | ((first | refine go_loadB ?_ | refine ⟨by kernel_rfl, ?_⟩ | refine go_ret ?_) <;> conv => whnf) | refine go_block ?_ | ((first | refine go_skip ?_ | refine go_exit ?_) <;> conv => whnf) | refine go_true rfl ?_ | refine go_false rfl ?_ | refine go_cond rfl (fun h => ?_) (fun h => ?_) | refine ⟨rfl, ?_⟩ | ((first | refine ⟨trivial, ?_⟩ | refine ⟨le_of_ble rfl, ?_⟩) <;> conv => whnf) | fail
      all_goals first
        | (refine go_next k ⟨by omega, fun j h2 h3 => ?_⟩ (by omega) (ref_st0 rfl ⟨rfl, ?_, trivial⟩ rfl)
           · by_cases he : j = k + 1
             · subst he
               intro a' b' h4 h5
               rw [Nat.add_sub_cancel, ha] at h4; injection h4 with h4
               rw [hb] at h5; injection h5 with h5
               omega
             · exact hp j (by omega) h3
           · show AV.imm _ = AV.imm _
             rw [e1]
           done)
        | (exfalso; simp at h; omega)
        | (exfalso; simp at h; done)
        | trace_state

def isPr (x : Int) : Bool := inR x 0 10000
theorem c97 (x : Int) : CallOk Try.prog 97 [.imm (.int .i64 x)] { res := [.imm (.bool (isPr x))] } := by
  refine callOk_of tyOk Try.func97 rfl rfl (le_of_ble rfl) (le_of_ble rfl) (mutOk_imm rfl _) ?_
  repeat' first | refine go_seq ?_ | refine go_region ?_ | ((first | refine go_op rfl ?_ | refine go_nil ?_ | refine go_call [] (c88 _ _ _) rfl rfl rfl rfl ?_) <;> conv => whnf) | ((first | refine ⟨by kernel_rfl, ?_⟩ | refine go_ret ?_) <;> conv => whnf) | ((first | refine go_skip ?_) <;> conv => whnf) | refine ⟨rfl, ?_⟩ | ((first | refine ⟨trivial, ?_⟩ | refine ⟨le_of_ble rfl, ?_⟩) <;> conv => whnf) | fail
  all_goals exact ret_imm rfl rfl rfl rfl rfl rfl

/-- What the reference looks at, place by place. -/
def prAt (l : List Int) (i : Nat) (z : Int) : Bool := inR z 0 10000 && (decide (i = 0) || decide (l.getD (i - 1) 0 ≤ z))
def prOk (p : Prices) : Bool := allI (prAt p.zones) p.zones && inR p.zones.length 1 9 && inR p.day 0 10000 && inR p.week 0 10000

theorem srt_up {l : List Int} (h : Srt l) : ∀ (d i : Nat) a b, l[i]? = some a → l[i + d]? = some b → a ≤ b
  | 0, i, a, b, ha, hb => by rw [Nat.add_zero, ha] at hb; injection hb with hb; omega
  | d + 1, i, a, b, ha, hb => by
    have hlt := lt_of_at hb
    have hc : l[i + d]? = some (l[i + d]'(by omega)) := List.getElem?_eq_getElem (by omega)
    have h1 := srt_up h d i a _ ha hc
    have h2 := h (i + (d + 1)) (by omega) hlt _ b (by rw [show i + (d + 1) - 1 = i + d from by omega]; exact hc) hb
    omega
theorem prOk_impl {p : Prices} {a b : Int} (h1 : inR p.zones.length 1 9 = true) (ha : p.zones[0]? = some a) (hb : p.zones[p.zones.length - 1]? = some b) :
    prOk p = (srt p.zones && isPr p.day && isPr p.week && isPr a && isPr b) := by
  have key : allI (prAt p.zones) p.zones = (srt p.zones && isPr a && isPr b) := by
    rw [Bool.eq_iff_iff, allI_iff]
    simp only [Bool.and_eq_true, srt_iff, isPr]
    constructor
    · intro h
      have hz : ∀ j v, p.zones[j]? = some v → inR v 0 10000 = true := fun j v hj => by
        have := h j v hj; unfold prAt at this; simp only [Bool.and_eq_true] at this; exact this.1
      refine ⟨⟨fun j h2 h3 x y hx hy => ?_, hz _ _ ha⟩, hz _ _ hb⟩
      have := h j y hy
      unfold prAt at this
      simp only [Bool.and_eq_true, Bool.or_eq_true, decide_eq_true_eq] at this
      rcases this.2 with h4 | h4
      · omega
      · rw [List.getD_eq_getElem?_getD, hx] at h4; exact h4
    · rintro ⟨⟨hs, h2⟩, h3⟩ j v hj
      have hlt := lt_of_at hj
      have q1 := srt_up hs j 0 a v ha (by rw [Nat.zero_add]; exact hj)
      have q2 := srt_up hs (p.zones.length - 1 - j) j v b hj (by rw [show j + (p.zones.length - 1 - j) = p.zones.length - 1 from by omega]; exact hb)
      rw [inR_iff] at h2 h3
      unfold prAt
      simp only [Bool.and_eq_true, Bool.or_eq_true, decide_eq_true_eq]
      refine ⟨(inR_iff _ _ _).2 (by omega), ?_⟩
      by_cases hj0 : j = 0
      · exact .inl hj0
      · refine .inr ?_
        have hc : p.zones[j - 1]? = some (p.zones[j - 1]'(by omega)) := List.getElem?_eq_getElem (by omega)
        rw [List.getD_eq_getElem?_getD, hc]
        exact hs j (by omega) hlt _ v hc hj
  unfold prOk
  rw [key, h1]
  unfold isPr
  cases srt p.zones <;> cases inR p.day 0 10000 <;> cases inR p.week 0 10000 <;> cases inR a 0 10000 <;> cases inR b 0 10000 <;> rfl

theorem c73 (p : Prices) (hf : p.fit) : CallOk Try.prog 73 [.imm (.agg p.enc)] { res := [.imm (.bool (prOk p))] } := by
  refine callOk_of tyOk Try.func73 rfl rfl (le_of_ble rfl) (le_of_ble rfl) (mutOk_imm rfl _) ?_
  have hzl : ((p.zones.map intRow).length : Int) = p.zones.length := by rw [List.length_map]
  have hlen : p.zones.length ≤ 1048576 := hf
  have h0 : CallOk Try.prog 88 [.imm (.int .i64 ((p.zones.map intRow).length : Int)), .imm (.int .i64 1), .imm (.int .i64 9)] { res := [.imm (.bool (inR p.zones.length 1 9))] } := by rw [hzl]; exact c88 _ 1 9
  cases h1 : inR (p.zones.length : Int) 1 9 with
  | false =>
    have hp : prOk p = false := by unfold prOk; rw [h1]; simp
    rw [h1] at h0
    rw [hp]
    repeat' first | refine go_seq ?_ | refine go_region ?_ | refine go_miss rfl rfl rfl ?_ | refine go_undef rfl rfl rfl ?_ | ((first | refine go_op rfl ?_ | refine go_nil ?_ | refine go_hit rfl rfl rfl ?_ | refine go_splitT rfl rfl rfl (fun h => ?_) (fun h => ?_) | refine go_splitF rfl rfl rfl (fun h => ?_) (fun h => ?_) | refine go_pickT rfl ?_ | refine go_pickF rfl ?_ | refine go_pick rfl (fun h => ?_) (fun h => ?_) | refine go_call [] (h0) rfl rfl rfl rfl ?_) <;> conv => whnf) | ((first | refine go_loadB ?_ | refine ⟨by kernel_rfl, ?_⟩ | refine go_ret ?_) <;> conv => whnf) | ((first | refine go_skip ?_) <;> conv => whnf) | refine go_true rfl ?_ | refine go_false rfl ?_ | refine go_cond rfl (fun h => ?_) (fun h => ?_) | refine ⟨rfl, ?_⟩ | ((first | refine ⟨trivial, ?_⟩ | refine ⟨le_of_ble rfl, ?_⟩) <;> conv => whnf) | fail
    all_goals first
      | exact ret_imm rfl rfl rfl rfl rfl rfl
      | (exfalso; simp_all; done)
      | trace_state
  | true =>
    rw [h1] at h0
    have h19 := (inR_iff _ _ _).1 h1
    have ha : p.zones[0]? = some (p.zones[0]'(by omega)) := List.getElem?_eq_getElem (by omega)
    have hb : p.zones[p.zones.length - 1]? = some (p.zones[p.zones.length - 1]'(by omega)) := List.getElem?_eq_getElem (by omega)
    generalize (p.zones[0]'(by omega)) = a at *
    generalize (p.zones[p.zones.length - 1]'(by omega)) = b at *
    have e0 : IntKind.i64.wrap (((p.zones.map intRow).length : Int) - 1) = ((p.zones.length - 1 : Nat) : Int) := by rw [hzl, wrap_small (by omega) (by omega)]; omega
    have hra : (p.zones.map intRow)[((0 : Int)).toNat]? = some (intRow a) := by rw [List.getElem?_map]; show Option.map intRow p.zones[0]? = _; rw [ha]; rfl
    have hrb : (p.zones.map intRow)[(IntKind.i64.wrap (((p.zones.map intRow).length : Int) - 1)).toNat]? = some (intRow b) := by rw [e0]; exact row_at intRow hb
    have hi := c96 p.zones (by omega) (by omega)
    have hd := c97 p.day
    have hw := c97 p.week
    have hpa := c97 a
    have hpb := c97 b
    rw [prOk_impl h1 ha hb]
    cases b1 : srt p.zones <;> cases b2 : isPr p.day <;> cases b3 : isPr p.week <;> rw [b1] at hi <;> rw [b2] at hd <;> rw [b3] at hw <;>
    (
    repeat' first | refine go_seq ?_ | refine go_region ?_ | refine go_miss rfl rfl rfl ?_ | refine go_undef rfl rfl rfl ?_ | ((first | refine go_op rfl ?_ | refine go_nil ?_ | refine go_hit rfl rfl rfl ?_ | refine go_splitT rfl rfl rfl (fun h => ?_) (fun h => ?_) | refine go_splitF rfl rfl rfl (fun h => ?_) (fun h => ?_) | refine go_pickT rfl ?_ | refine go_pickF rfl ?_ | refine go_pick rfl (fun h => ?_) (fun h => ?_) | refine go_call [] (h0) rfl rfl rfl rfl ?_ | refine go_call [] (hi) rfl rfl rfl rfl ?_ | refine go_call [] (hd) rfl rfl rfl rfl ?_ | refine go_call [] (hw) rfl rfl rfl rfl ?_ | refine go_call [] (hpa) rfl rfl rfl rfl ?_ | refine go_call [] (hpb) rfl rfl rfl rfl ?_ | refine go_idx rfl rfl rfl rfl (by omega) hra rfl ?_ | refine go_idx rfl rfl rfl rfl (by rw [e0]; omega) hrb rfl ?_) <;> conv => whnf) | ((first | refine go_loadB ?_ | refine ⟨by kernel_rfl, ?_⟩ | refine go_ret ?_) <;> conv => whnf) | ((first | refine go_skip ?_) <;> conv => whnf) | refine go_true rfl ?_ | refine go_false rfl ?_ | refine go_cond rfl (fun h => ?_) (fun h => ?_) | refine ⟨rfl, ?_⟩ | ((first | refine ⟨trivial, ?_⟩ | refine ⟨le_of_ble rfl, ?_⟩) <;> conv => whnf) | fail
    all_goals first
      | exact ret_imm rfl rfl rfl rfl rfl rfl
      | (refine ret_imm rfl rfl rfl rfl ?_ rfl; simp_all; done)
      | trace_state
    )
end Go.Proofs.Ytphoamcbapfbkaa

