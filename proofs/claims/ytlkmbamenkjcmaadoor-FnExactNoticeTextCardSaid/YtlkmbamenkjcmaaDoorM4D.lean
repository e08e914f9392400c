/- The walks of lists of numbers, of searches and of notices. -/
import Derived.Test.YtlkmbamenkjcmaaDoorM2D
namespace Go.Proofs.YtlkmbamenkjcmaaDoor
open Go Go.Am
set_option maxRecDepth 100000
set_option maxHeartbeats 4000000
attribute [local irreducible] amOps amC opCall opIndexAddr opPick retQ opMake opStore amDraw opAppend opLoad opNilCmp opIndex

/-! ### Lists of numbers -/

/-! ### Searches -/

def idxF {α : Type} (p : α → Bool) (xs : List α) : Int := if xs.any p then (xs.findIdx p : Nat) else -1

theorem idxF_hit {α : Type} {p : α → Bool} {xs : List α} {i : Nat} {v : α} (hx : xs[i]? = some v) (hp : p v = true) (ha : (xs.take i).any p = false) : idxF p xs = i := by
  have hlt := lt_of_at hx
  have hv : xs[i] = v := (List.getElem?_eq_some_iff.1 hx).2
  have hany : xs.any p = true := List.any_eq_true.2 ⟨v, List.mem_of_getElem? hx, hp⟩
  have hf : xs.findIdx p = i := by
    rw [List.findIdx_eq hlt]
    refine ⟨by rw [hv]; exact hp, fun j hj => ?_⟩
    have := List.any_eq_false.1 ha (xs[j]'(by omega)) (by
      rw [List.mem_take_iff_getElem]
      exact ⟨j, by omega, rfl⟩)
    simpa using this
  unfold idxF
  rw [if_pos hany, hf]
theorem idxF_miss {α : Type} {p : α → Bool} {xs : List α} (ha : xs.any p = false) : idxF p xs = -1 := by
  unfold idxF
  rw [ha]
  rfl
theorem idxF_ge {α : Type} (p : α → Bool) (xs : List α) : decide (0 ≤ idxF p xs) = xs.any p := by
  unfold idxF
  cases xs.any p <;> simp

theorem any_next {α : Type} {p : α → Bool} {xs : List α} {i : Nat} {x : α} (h : xs[i]? = some x) (ha : (xs.take i).any p = false) (hp : p x = false) : (xs.take (i + 1)).any p = false := by
  rw [List.take_add_one, h]
  simp only [List.any_append, ha, Option.toList_some, List.any_cons, hp, List.any_nil, Bool.or_self]

theorem c50 (g : FuncId) (p : Message → Bool) (hp : ∀ v, CallOk Tryd.prog g [.imm (.agg v.enc)] { res := [.imm (.bool (p v))] }) (xs : List Message) (hl : xs.length ≤ 1048576) :
    CallOk Tryd.prog 50 [.imm (.list (xs.map Message.enc)), .imm (.fn g [])] { res := [.imm (.int .i64 (idxF p xs))] } := by
  refine callOk_of tyOk Tryd.func50 rfl rfl (le_of_ble rfl) (le_of_ble rfl) (mutOk_imm rfl _) ?_
  repeat' first
    | refine go_seq ?_
    | refine go_region ?_
    | (refine go_op rfl ?_; conv => whnf)
    | (refine go_nil ?_; conv => whnf)
    | (refine go_hit rfl rfl rfl ?_; conv => whnf)
    | (refine go_miss rfl rfl rfl ?_)
    | (refine go_undef rfl rfl rfl ?_)
    | (refine go_splitT rfl rfl rfl (fun h => ?_) (fun h => ?_) <;> conv => whnf)
    | (refine go_splitF rfl rfl rfl (fun h => ?_) (fun h => ?_) <;> conv => whnf)
    | (refine go_storeBox rfl rfl rfl rfl rfl rfl ?_; conv => whnf)
    | (refine go_dop rfl ?_; conv => whnf)
    | (refine go_dhit rfl rfl ?_; conv => whnf)
    | (refine go_dmiss rfl rfl ?_; conv => whnf)
    | (refine go_dundef rfl rfl ?_; conv => whnf)
    | (refine go_dend (by kernel_rfl) ?_; conv => whnf)
    | refine go_draw drawsOk ?_
    | (refine go_pickT rfl ?_; conv => whnf)
    | (refine go_pickF rfl ?_; conv => whnf)
    | (refine go_pick rfl (fun h => ?_) (fun h => ?_) <;> conv => whnf)
    | (refine go_dsplit2 rfl (fun h => ?_) (fun h => ?_) <;> conv => whnf)
    | (refine go_loadB ?_; conv => whnf)
    | (refine ⟨by kernel_rfl, ?_⟩; conv => whnf)
    | (refine go_ret ?_; conv => whnf)
    | refine go_block ?_
    | (refine go_skip ?_; conv => whnf)
    | (refine go_exit ?_; conv => whnf)
    | refine go_true rfl ?_
    | refine go_false rfl ?_
    | refine go_cond rfl (fun h => ?_) (fun h => ?_)
    | refine ⟨rfl, ?_⟩
    | (refine ⟨trivial, ?_⟩; conv => whnf)
    | (refine ⟨le_of_ble rfl, ?_⟩; conv => whnf)
    | fail
  refine go_loop (α := Nat) (fun i => i ≤ xs.length ∧ (xs.take i).any p = false) (fun i => xs.length - i) (fun i => st Tryd.f50.ntmps [(0, .imm (.list (xs.map Message.enc))), (1, .imm (.fn g [])), (7, .imm (.int .i64 (xs.map Message.enc).length)), (8, .imm (.int .i64 (i : Nat)))] [] []) 0
    ⟨Nat.zero_le _, rfl⟩ (ref_st0 rfl ⟨rfl, rfl, rfl, rfl, trivial⟩ rfl) ?_
  rintro i ⟨hi, ha⟩
  cases hx : xs[i]? with
  | none =>
    have hge := le_of_at hx
    rw [List.take_of_length_le hge] at ha
    repeat' first
      | refine go_seq ?_
      | refine go_region ?_
      | (refine go_op rfl ?_; conv => whnf)
      | (refine go_nil ?_; conv => whnf)
      | (refine go_hit rfl rfl rfl ?_; conv => whnf)
      | (refine go_miss rfl rfl rfl ?_)
      | (refine go_undef rfl rfl rfl ?_)
      | (refine go_splitT rfl rfl rfl (fun h => ?_) (fun h => ?_) <;> conv => whnf)
      | (refine go_splitF rfl rfl rfl (fun h => ?_) (fun h => ?_) <;> conv => whnf)
      | (refine go_storeBox rfl rfl rfl rfl rfl rfl ?_; conv => whnf)
      | (refine go_dop rfl ?_; conv => whnf)
      | (refine go_dhit rfl rfl ?_; conv => whnf)
      | (refine go_dmiss rfl rfl ?_; conv => whnf)
      | (refine go_dundef rfl rfl ?_; conv => whnf)
      | (refine go_dend (by kernel_rfl) ?_; conv => whnf)
      | refine go_draw drawsOk ?_
      | (refine go_pickT rfl ?_; conv => whnf)
      | (refine go_pickF rfl ?_; conv => whnf)
      | (refine go_pick rfl (fun h => ?_) (fun h => ?_) <;> conv => whnf)
      | (refine go_dsplit2 rfl (fun h => ?_) (fun h => ?_) <;> conv => whnf)
      | (refine go_loadB ?_; conv => whnf)
      | (refine ⟨by kernel_rfl, ?_⟩; conv => whnf)
      | (refine go_ret ?_; conv => whnf)
      | refine go_block ?_
      | (refine go_skip ?_; conv => whnf)
      | (refine go_exit ?_; conv => whnf)
      | refine go_true rfl ?_
      | refine go_false rfl ?_
      | refine go_cond rfl (fun h => ?_) (fun h => ?_)
      | refine ⟨rfl, ?_⟩
      | (refine ⟨trivial, ?_⟩; conv => whnf)
      | (refine ⟨le_of_ble rfl, ?_⟩; conv => whnf)
      | fail
    · exfalso; simp at h; omega
    · exact ret_imm rfl rfl rfl rfl (by rw [idxF_miss ha]) rfl
  | some v =>
    have hlt := lt_of_at hx
    have hr := row_at Message.enc hx
    repeat' first
      | refine go_seq ?_
      | refine go_region ?_
      | (refine go_op rfl ?_; conv => whnf)
      | (refine go_nil ?_; conv => whnf)
      | (refine go_hit rfl rfl rfl ?_; conv => whnf)
      | (refine go_miss rfl rfl rfl ?_)
      | (refine go_undef rfl rfl rfl ?_)
      | (refine go_splitT rfl rfl rfl (fun h => ?_) (fun h => ?_) <;> conv => whnf)
      | (refine go_splitF rfl rfl rfl (fun h => ?_) (fun h => ?_) <;> conv => whnf)
      | (refine go_storeBox rfl rfl rfl rfl rfl rfl ?_; conv => whnf)
      | (refine go_dop rfl ?_; conv => whnf)
      | (refine go_dhit rfl rfl ?_; conv => whnf)
      | (refine go_dmiss rfl rfl ?_; conv => whnf)
      | (refine go_dundef rfl rfl ?_; conv => whnf)
      | (refine go_dend (by kernel_rfl) ?_; conv => whnf)
      | refine go_draw drawsOk ?_
      | (refine go_pickT rfl ?_; conv => whnf)
      | (refine go_pickF rfl ?_; conv => whnf)
      | (refine go_pick rfl (fun h => ?_) (fun h => ?_) <;> conv => whnf)
      | (refine go_call [] (hp v) rfl rfl rfl rfl ?_; conv => whnf)
      | (refine go_idx rfl rfl rfl rfl (by omega) hr rfl ?_; conv => whnf)
      | (refine go_dsplit2 rfl (fun h => ?_) (fun h => ?_) <;> conv => whnf)
      | (refine go_loadB ?_; conv => whnf)
      | (refine ⟨by kernel_rfl, ?_⟩; conv => whnf)
      | (refine go_ret ?_; conv => whnf)
      | refine go_block ?_
      | (refine go_skip ?_; conv => whnf)
      | (refine go_exit ?_; conv => whnf)
      | refine go_true rfl ?_
      | refine go_false rfl ?_
      | refine go_cond rfl (fun h => ?_) (fun h => ?_)
      | refine ⟨rfl, ?_⟩
      | (refine ⟨trivial, ?_⟩; conv => whnf)
      | (refine ⟨le_of_ble rfl, ?_⟩; conv => whnf)
      | fail
    · exact ret_imm rfl rfl rfl rfl (by rw [idxF_hit hx h ha]) rfl
    · exact go_next (i + 1) ⟨by omega, any_next hx ha h⟩ (by omega) (ref_st0 rfl ⟨rfl, rfl, rfl, next_i (by omega), trivial⟩ rfl)
    · exfalso; simp at h; omega

theorem c40 (g : FuncId) (p : Message → Bool) (hp : ∀ v, CallOk Tryd.prog g [.imm (.agg v.enc)] { res := [.imm (.bool (p v))] }) (xs : List Message) (hl : xs.length ≤ 1048576) :
    CallOk Tryd.prog 40 [.imm (.list (xs.map Message.enc)), .imm (.fn g [])] { res := [.imm (.bool (xs.any p))] } := by
  refine callOk_of tyOk Tryd.func40 rfl rfl (le_of_ble rfl) (le_of_ble rfl) (mutOk_imm rfl _) ?_
  have hc := c50 g p hp xs hl
  repeat' first
    | refine go_seq ?_
    | refine go_region ?_
    | (refine go_op rfl ?_; conv => whnf)
    | (refine go_nil ?_; conv => whnf)
    | (refine go_hit rfl rfl rfl ?_; conv => whnf)
    | (refine go_miss rfl rfl rfl ?_)
    | (refine go_undef rfl rfl rfl ?_)
    | (refine go_splitT rfl rfl rfl (fun h => ?_) (fun h => ?_) <;> conv => whnf)
    | (refine go_splitF rfl rfl rfl (fun h => ?_) (fun h => ?_) <;> conv => whnf)
    | (refine go_storeBox rfl rfl rfl rfl rfl rfl ?_; conv => whnf)
    | (refine go_dop rfl ?_; conv => whnf)
    | (refine go_dhit rfl rfl ?_; conv => whnf)
    | (refine go_dmiss rfl rfl ?_; conv => whnf)
    | (refine go_dundef rfl rfl ?_; conv => whnf)
    | (refine go_dend (by kernel_rfl) ?_; conv => whnf)
    | refine go_draw drawsOk ?_
    | (refine go_pickT rfl ?_; conv => whnf)
    | (refine go_pickF rfl ?_; conv => whnf)
    | (refine go_pick rfl (fun h => ?_) (fun h => ?_) <;> conv => whnf)
    | (refine go_call [] (hc) rfl rfl rfl rfl ?_; conv => whnf)
    | (refine go_dsplit2 rfl (fun h => ?_) (fun h => ?_) <;> conv => whnf)
    | (refine go_loadB ?_; conv => whnf)
    | (refine ⟨by kernel_rfl, ?_⟩; conv => whnf)
    | (refine go_ret ?_; conv => whnf)
    | refine go_block ?_
    | (refine go_skip ?_; conv => whnf)
    | (refine go_exit ?_; conv => whnf)
    | refine go_true rfl ?_
    | refine go_false rfl ?_
    | refine go_cond rfl (fun h => ?_) (fun h => ?_)
    | refine ⟨rfl, ?_⟩
    | (refine ⟨trivial, ?_⟩; conv => whnf)
    | (refine ⟨le_of_ble rfl, ?_⟩; conv => whnf)
    | fail
  exact ret_imm rfl rfl rfl rfl (by rw [idxF_ge]) rfl

theorem c50d (g : FuncId) (d : D) (p : Message → Bool) (hp : ∀ v, CallOk Tryd.prog g [.imm (.agg v.enc), .imm d] { res := [.imm (.bool (p v))] }) (xs : List Message) (hl : xs.length ≤ 1048576) :
    CallOk Tryd.prog 50 [.imm (.list (xs.map Message.enc)), .imm (.fn g [d])] { res := [.imm (.int .i64 (idxF p xs))] } := by
  refine callOk_of tyOk Tryd.func50 rfl rfl (le_of_ble rfl) (le_of_ble rfl) (mutOk_imm rfl _) ?_
  repeat' first
    | refine go_seq ?_
    | refine go_region ?_
    | (refine go_op rfl ?_; conv => whnf)
    | (refine go_nil ?_; conv => whnf)
    | (refine go_hit rfl rfl rfl ?_; conv => whnf)
    | (refine go_miss rfl rfl rfl ?_)
    | (refine go_undef rfl rfl rfl ?_)
    | (refine go_splitT rfl rfl rfl (fun h => ?_) (fun h => ?_) <;> conv => whnf)
    | (refine go_splitF rfl rfl rfl (fun h => ?_) (fun h => ?_) <;> conv => whnf)
    | (refine go_storeBox rfl rfl rfl rfl rfl rfl ?_; conv => whnf)
    | (refine go_dop rfl ?_; conv => whnf)
    | (refine go_dhit rfl rfl ?_; conv => whnf)
    | (refine go_dmiss rfl rfl ?_; conv => whnf)
    | (refine go_dundef rfl rfl ?_; conv => whnf)
    | (refine go_dend (by kernel_rfl) ?_; conv => whnf)
    | refine go_draw drawsOk ?_
    | (refine go_pickT rfl ?_; conv => whnf)
    | (refine go_pickF rfl ?_; conv => whnf)
    | (refine go_pick rfl (fun h => ?_) (fun h => ?_) <;> conv => whnf)
    | (refine go_dsplit2 rfl (fun h => ?_) (fun h => ?_) <;> conv => whnf)
    | (refine go_loadB ?_; conv => whnf)
    | (refine ⟨by kernel_rfl, ?_⟩; conv => whnf)
    | (refine go_ret ?_; conv => whnf)
    | refine go_block ?_
    | (refine go_skip ?_; conv => whnf)
    | (refine go_exit ?_; conv => whnf)
    | refine go_true rfl ?_
    | refine go_false rfl ?_
    | refine go_cond rfl (fun h => ?_) (fun h => ?_)
    | refine ⟨rfl, ?_⟩
    | (refine ⟨trivial, ?_⟩; conv => whnf)
    | (refine ⟨le_of_ble rfl, ?_⟩; conv => whnf)
    | fail
  refine go_loop (α := Nat) (fun i => i ≤ xs.length ∧ (xs.take i).any p = false) (fun i => xs.length - i) (fun i => st Tryd.f50.ntmps [(0, .imm (.list (xs.map Message.enc))), (1, .imm (.fn g [d])), (7, .imm (.int .i64 (xs.map Message.enc).length)), (8, .imm (.int .i64 (i : Nat)))] [] []) 0
    ⟨Nat.zero_le _, rfl⟩ (ref_st0 rfl ⟨rfl, rfl, rfl, rfl, trivial⟩ rfl) ?_
  rintro i ⟨hi, ha⟩
  cases hx : xs[i]? with
  | none =>
    have hge := le_of_at hx
    rw [List.take_of_length_le hge] at ha
    repeat' first
      | refine go_seq ?_
      | refine go_region ?_
      | (refine go_op rfl ?_; conv => whnf)
      | (refine go_nil ?_; conv => whnf)
      | (refine go_hit rfl rfl rfl ?_; conv => whnf)
      | (refine go_miss rfl rfl rfl ?_)
      | (refine go_undef rfl rfl rfl ?_)
      | (refine go_splitT rfl rfl rfl (fun h => ?_) (fun h => ?_) <;> conv => whnf)
      | (refine go_splitF rfl rfl rfl (fun h => ?_) (fun h => ?_) <;> conv => whnf)
      | (refine go_storeBox rfl rfl rfl rfl rfl rfl ?_; conv => whnf)
      | (refine go_dop rfl ?_; conv => whnf)
      | (refine go_dhit rfl rfl ?_; conv => whnf)
      | (refine go_dmiss rfl rfl ?_; conv => whnf)
      | (refine go_dundef rfl rfl ?_; conv => whnf)
      | (refine go_dend (by kernel_rfl) ?_; conv => whnf)
      | refine go_draw drawsOk ?_
      | (refine go_pickT rfl ?_; conv => whnf)
      | (refine go_pickF rfl ?_; conv => whnf)
      | (refine go_pick rfl (fun h => ?_) (fun h => ?_) <;> conv => whnf)
      | (refine go_dsplit2 rfl (fun h => ?_) (fun h => ?_) <;> conv => whnf)
      | (refine go_loadB ?_; conv => whnf)
      | (refine ⟨by kernel_rfl, ?_⟩; conv => whnf)
      | (refine go_ret ?_; conv => whnf)
      | refine go_block ?_
      | (refine go_skip ?_; conv => whnf)
      | (refine go_exit ?_; conv => whnf)
      | refine go_true rfl ?_
      | refine go_false rfl ?_
      | refine go_cond rfl (fun h => ?_) (fun h => ?_)
      | refine ⟨rfl, ?_⟩
      | (refine ⟨trivial, ?_⟩; conv => whnf)
      | (refine ⟨le_of_ble rfl, ?_⟩; conv => whnf)
      | fail
    · exfalso; simp at h; omega
    · exact ret_imm rfl rfl rfl rfl (by rw [idxF_miss ha]) rfl
  | some v =>
    have hlt := lt_of_at hx
    have hr := row_at Message.enc hx
    repeat' first
      | refine go_seq ?_
      | refine go_region ?_
      | (refine go_op rfl ?_; conv => whnf)
      | (refine go_nil ?_; conv => whnf)
      | (refine go_hit rfl rfl rfl ?_; conv => whnf)
      | (refine go_miss rfl rfl rfl ?_)
      | (refine go_undef rfl rfl rfl ?_)
      | (refine go_splitT rfl rfl rfl (fun h => ?_) (fun h => ?_) <;> conv => whnf)
      | (refine go_splitF rfl rfl rfl (fun h => ?_) (fun h => ?_) <;> conv => whnf)
      | (refine go_storeBox rfl rfl rfl rfl rfl rfl ?_; conv => whnf)
      | (refine go_dop rfl ?_; conv => whnf)
      | (refine go_dhit rfl rfl ?_; conv => whnf)
      | (refine go_dmiss rfl rfl ?_; conv => whnf)
      | (refine go_dundef rfl rfl ?_; conv => whnf)
      | (refine go_dend (by kernel_rfl) ?_; conv => whnf)
      | refine go_draw drawsOk ?_
      | (refine go_pickT rfl ?_; conv => whnf)
      | (refine go_pickF rfl ?_; conv => whnf)
      | (refine go_pick rfl (fun h => ?_) (fun h => ?_) <;> conv => whnf)
      | (refine go_call [] (hp v) rfl rfl rfl rfl ?_; conv => whnf)
      | (refine go_idx rfl rfl rfl rfl (by omega) hr rfl ?_; conv => whnf)
      | (refine go_dsplit2 rfl (fun h => ?_) (fun h => ?_) <;> conv => whnf)
      | (refine go_loadB ?_; conv => whnf)
      | (refine ⟨by kernel_rfl, ?_⟩; conv => whnf)
      | (refine go_ret ?_; conv => whnf)
      | refine go_block ?_
      | (refine go_skip ?_; conv => whnf)
      | (refine go_exit ?_; conv => whnf)
      | refine go_true rfl ?_
      | refine go_false rfl ?_
      | refine go_cond rfl (fun h => ?_) (fun h => ?_)
      | refine ⟨rfl, ?_⟩
      | (refine ⟨trivial, ?_⟩; conv => whnf)
      | (refine ⟨le_of_ble rfl, ?_⟩; conv => whnf)
      | fail
    · exact ret_imm rfl rfl rfl rfl (by rw [idxF_hit hx h ha]) rfl
    · exact go_next (i + 1) ⟨by omega, any_next hx ha h⟩ (by omega) (ref_st0 rfl ⟨rfl, rfl, rfl, next_i (by omega), trivial⟩ rfl)
    · exfalso; simp at h; omega

theorem c40d (g : FuncId) (d : D) (p : Message → Bool) (hp : ∀ v, CallOk Tryd.prog g [.imm (.agg v.enc), .imm d] { res := [.imm (.bool (p v))] }) (xs : List Message) (hl : xs.length ≤ 1048576) :
    CallOk Tryd.prog 40 [.imm (.list (xs.map Message.enc)), .imm (.fn g [d])] { res := [.imm (.bool (xs.any p))] } := by
  refine callOk_of tyOk Tryd.func40 rfl rfl (le_of_ble rfl) (le_of_ble rfl) (mutOk_imm rfl _) ?_
  have hc := c50d g d p hp xs hl
  repeat' first
    | refine go_seq ?_
    | refine go_region ?_
    | (refine go_op rfl ?_; conv => whnf)
    | (refine go_nil ?_; conv => whnf)
    | (refine go_hit rfl rfl rfl ?_; conv => whnf)
    | (refine go_miss rfl rfl rfl ?_)
    | (refine go_undef rfl rfl rfl ?_)
    | (refine go_splitT rfl rfl rfl (fun h => ?_) (fun h => ?_) <;> conv => whnf)
    | (refine go_splitF rfl rfl rfl (fun h => ?_) (fun h => ?_) <;> conv => whnf)
    | (refine go_storeBox rfl rfl rfl rfl rfl rfl ?_; conv => whnf)
    | (refine go_dop rfl ?_; conv => whnf)
    | (refine go_dhit rfl rfl ?_; conv => whnf)
    | (refine go_dmiss rfl rfl ?_; conv => whnf)
    | (refine go_dundef rfl rfl ?_; conv => whnf)
    | (refine go_dend (by kernel_rfl) ?_; conv => whnf)
    | refine go_draw drawsOk ?_
    | (refine go_pickT rfl ?_; conv => whnf)
    | (refine go_pickF rfl ?_; conv => whnf)
    | (refine go_pick rfl (fun h => ?_) (fun h => ?_) <;> conv => whnf)
    | (refine go_call [] (hc) rfl rfl rfl rfl ?_; conv => whnf)
    | (refine go_dsplit2 rfl (fun h => ?_) (fun h => ?_) <;> conv => whnf)
    | (refine go_loadB ?_; conv => whnf)
    | (refine ⟨by kernel_rfl, ?_⟩; conv => whnf)
    | (refine go_ret ?_; conv => whnf)
    | refine go_block ?_
    | (refine go_skip ?_; conv => whnf)
    | (refine go_exit ?_; conv => whnf)
    | refine go_true rfl ?_
    | refine go_false rfl ?_
    | refine go_cond rfl (fun h => ?_) (fun h => ?_)
    | refine ⟨rfl, ?_⟩
    | (refine ⟨trivial, ?_⟩; conv => whnf)
    | (refine ⟨le_of_ble rfl, ?_⟩; conv => whnf)
    | fail
  exact ret_imm rfl rfl rfl rfl (by rw [idxF_ge]) rfl

/-! ### Notices -/

def noticeOk (xs : List Message) : Bool := decide (xs.length ≤ 10) && xs.all msgOk

theorem not_any (xs : List Message) : (!(xs.any fun v => !msgOk v)) = xs.all msgOk := by
  induction xs with
  | nil => rfl
  | cons v xs ih => simp only [List.any_cons, List.all_cons, Bool.not_or, Bool.not_not, ih]

theorem c41 (v : Message) : CallOk Tryd.prog 41 [.imm (.agg v.enc)] { res := [.imm (.bool (!msgOk v))] } := by
  refine callOk_of tyOk Tryd.func41 rfl rfl (le_of_ble rfl) (le_of_ble rfl) (mutOk_imm rfl _) ?_
  repeat' first
    | refine go_seq ?_
    | refine go_region ?_
    | (refine go_op rfl ?_; conv => whnf)
    | (refine go_nil ?_; conv => whnf)
    | (refine go_hit rfl rfl rfl ?_; conv => whnf)
    | (refine go_miss rfl rfl rfl ?_)
    | (refine go_undef rfl rfl rfl ?_)
    | (refine go_splitT rfl rfl rfl (fun h => ?_) (fun h => ?_) <;> conv => whnf)
    | (refine go_splitF rfl rfl rfl (fun h => ?_) (fun h => ?_) <;> conv => whnf)
    | (refine go_storeBox rfl rfl rfl rfl rfl rfl ?_; conv => whnf)
    | (refine go_dop rfl ?_; conv => whnf)
    | (refine go_dhit rfl rfl ?_; conv => whnf)
    | (refine go_dmiss rfl rfl ?_; conv => whnf)
    | (refine go_dundef rfl rfl ?_; conv => whnf)
    | (refine go_dend (by kernel_rfl) ?_; conv => whnf)
    | refine go_draw drawsOk ?_
    | (refine go_pickT rfl ?_; conv => whnf)
    | (refine go_pickF rfl ?_; conv => whnf)
    | (refine go_pick rfl (fun h => ?_) (fun h => ?_) <;> conv => whnf)
    | (refine go_call [] (c21 v) rfl rfl rfl rfl ?_; conv => whnf)
    | (refine go_dsplit2 rfl (fun h => ?_) (fun h => ?_) <;> conv => whnf)
    | (refine go_loadB ?_; conv => whnf)
    | (refine ⟨by kernel_rfl, ?_⟩; conv => whnf)
    | (refine go_ret ?_; conv => whnf)
    | refine go_block ?_
    | (refine go_skip ?_; conv => whnf)
    | (refine go_exit ?_; conv => whnf)
    | refine go_true rfl ?_
    | refine go_false rfl ?_
    | refine go_cond rfl (fun h => ?_) (fun h => ?_)
    | refine ⟨rfl, ?_⟩
    | (refine ⟨trivial, ?_⟩; conv => whnf)
    | (refine ⟨le_of_ble rfl, ?_⟩; conv => whnf)
    | fail
  exact ret_imm rfl rfl rfl rfl rfl rfl

theorem c24 (xs : List Message) (hl : xs.length ≤ 1048576) : CallOk Tryd.prog 24 [.imm (.list (xs.map Message.enc))] { res := [.imm (.bool (noticeOk xs))] } := by
  refine callOk_of tyOk Tryd.func24 rfl rfl (le_of_ble rfl) (le_of_ble rfl) (mutOk_imm rfl _) ?_
  have hc := c40 41 (fun v => !msgOk v) c41 xs hl
  repeat' first
    | refine go_seq ?_
    | refine go_region ?_
    | (refine go_op rfl ?_; conv => whnf)
    | (refine go_nil ?_; conv => whnf)
    | (refine go_hit rfl rfl rfl ?_; conv => whnf)
    | (refine go_miss rfl rfl rfl ?_)
    | (refine go_undef rfl rfl rfl ?_)
    | (refine go_splitT rfl rfl rfl (fun h => ?_) (fun h => ?_) <;> conv => whnf)
    | (refine go_splitF rfl rfl rfl (fun h => ?_) (fun h => ?_) <;> conv => whnf)
    | (refine go_storeBox rfl rfl rfl rfl rfl rfl ?_; conv => whnf)
    | (refine go_dop rfl ?_; conv => whnf)
    | (refine go_dhit rfl rfl ?_; conv => whnf)
    | (refine go_dmiss rfl rfl ?_; conv => whnf)
    | (refine go_dundef rfl rfl ?_; conv => whnf)
    | (refine go_dend (by kernel_rfl) ?_; conv => whnf)
    | refine go_draw drawsOk ?_
    | (refine go_pickT rfl ?_; conv => whnf)
    | (refine go_pickF rfl ?_; conv => whnf)
    | (refine go_pick rfl (fun h => ?_) (fun h => ?_) <;> conv => whnf)
    | (refine go_call [] (hc) rfl rfl rfl rfl ?_; conv => whnf)
    | (refine go_dsplit2 rfl (fun h => ?_) (fun h => ?_) <;> conv => whnf)
    | (refine go_loadB ?_; conv => whnf)
    | (refine ⟨by kernel_rfl, ?_⟩; conv => whnf)
    | (refine go_ret ?_; conv => whnf)
    | refine go_block ?_
    | (refine go_skip ?_; conv => whnf)
    | (refine go_exit ?_; conv => whnf)
    | refine go_true rfl ?_
    | refine go_false rfl ?_
    | refine go_cond rfl (fun h => ?_) (fun h => ?_)
    | refine ⟨rfl, ?_⟩
    | (refine ⟨trivial, ?_⟩; conv => whnf)
    | (refine ⟨le_of_ble rfl, ?_⟩; conv => whnf)
    | fail
  · refine ret_imm rfl rfl rfl rfl ?_ rfl
    rw [not_any]
    have : decide (xs.length ≤ 10) = true := by simp at h; simp; omega
    simp only [noticeOk, this, Bool.true_and]
  · refine ret_imm rfl rfl rfl rfl ?_ rfl
    have : decide (xs.length ≤ 10) = false := by simp at h; simp; omega
    simp only [noticeOk, this, Bool.false_and]

theorem c23 (xs : List Message) (hl : xs.length ≤ 1048576) : CallOk Tryd.prog 23 [.imm (.list (xs.map Message.enc))] { res := [.imm (.bool (noticeOk xs))] } := by
  refine callOk_of tyOk Tryd.func23 rfl rfl (le_of_ble rfl) (le_of_ble rfl) (mutOk_imm rfl _) ?_
  repeat' first
    | refine go_seq ?_
    | refine go_region ?_
    | (refine go_op rfl ?_; conv => whnf)
    | (refine go_nil ?_; conv => whnf)
    | (refine go_hit rfl rfl rfl ?_; conv => whnf)
    | (refine go_miss rfl rfl rfl ?_)
    | (refine go_undef rfl rfl rfl ?_)
    | (refine go_splitT rfl rfl rfl (fun h => ?_) (fun h => ?_) <;> conv => whnf)
    | (refine go_splitF rfl rfl rfl (fun h => ?_) (fun h => ?_) <;> conv => whnf)
    | (refine go_storeBox rfl rfl rfl rfl rfl rfl ?_; conv => whnf)
    | (refine go_dop rfl ?_; conv => whnf)
    | (refine go_dhit rfl rfl ?_; conv => whnf)
    | (refine go_dmiss rfl rfl ?_; conv => whnf)
    | (refine go_dundef rfl rfl ?_; conv => whnf)
    | (refine go_dend (by kernel_rfl) ?_; conv => whnf)
    | refine go_draw drawsOk ?_
    | (refine go_pickT rfl ?_; conv => whnf)
    | (refine go_pickF rfl ?_; conv => whnf)
    | (refine go_pick rfl (fun h => ?_) (fun h => ?_) <;> conv => whnf)
    | (refine go_dsplit2 rfl (fun h => ?_) (fun h => ?_) <;> conv => whnf)
    | (refine go_loadB ?_; conv => whnf)
    | (refine ⟨by kernel_rfl, ?_⟩; conv => whnf)
    | (refine go_ret ?_; conv => whnf)
    | refine go_block ?_
    | (refine go_skip ?_; conv => whnf)
    | (refine go_exit ?_; conv => whnf)
    | refine go_true rfl ?_
    | refine go_false rfl ?_
    | refine go_cond rfl (fun h => ?_) (fun h => ?_)
    | refine ⟨rfl, ?_⟩
    | (refine ⟨trivial, ?_⟩; conv => whnf)
    | (refine ⟨le_of_ble rfl, ?_⟩; conv => whnf)
    | fail
  refine go_loop (α := Nat) (fun i => i ≤ xs.length ∧ (xs.take i).all msgOk = true) (fun i => xs.length - i) (fun i => st Tryd.f23.ntmps [(0, .imm (.list (xs.map Message.enc))), (3, .imm (.int .i64 (i : Nat)))] [] []) 0
    ⟨Nat.zero_le _, rfl⟩ (ref_st0 rfl ⟨rfl, rfl, trivial⟩ rfl) ?_
  rintro i ⟨hi, ha⟩
  cases hx : xs[i]? with
  | none =>
    have hge := le_of_at hx
    repeat' first
      | refine go_seq ?_
      | refine go_region ?_
      | (refine go_op rfl ?_; conv => whnf)
      | (refine go_nil ?_; conv => whnf)
      | (refine go_hit rfl rfl rfl ?_; conv => whnf)
      | (refine go_miss rfl rfl rfl ?_)
      | (refine go_undef rfl rfl rfl ?_)
      | (refine go_splitT rfl rfl rfl (fun h => ?_) (fun h => ?_) <;> conv => whnf)
      | (refine go_splitF rfl rfl rfl (fun h => ?_) (fun h => ?_) <;> conv => whnf)
      | (refine go_storeBox rfl rfl rfl rfl rfl rfl ?_; conv => whnf)
      | (refine go_dop rfl ?_; conv => whnf)
      | (refine go_dhit rfl rfl ?_; conv => whnf)
      | (refine go_dmiss rfl rfl ?_; conv => whnf)
      | (refine go_dundef rfl rfl ?_; conv => whnf)
      | (refine go_dend (by kernel_rfl) ?_; conv => whnf)
      | refine go_draw drawsOk ?_
      | (refine go_pickT rfl ?_; conv => whnf)
      | (refine go_pickF rfl ?_; conv => whnf)
      | (refine go_pick rfl (fun h => ?_) (fun h => ?_) <;> conv => whnf)
      | (refine go_dsplit2 rfl (fun h => ?_) (fun h => ?_) <;> conv => whnf)
      | (refine go_loadB ?_; conv => whnf)
      | (refine ⟨by kernel_rfl, ?_⟩; conv => whnf)
      | (refine go_ret ?_; conv => whnf)
      | refine go_block ?_
      | (refine go_skip ?_; conv => whnf)
      | (refine go_exit ?_; conv => whnf)
      | refine go_true rfl ?_
      | refine go_false rfl ?_
      | refine go_cond rfl (fun h => ?_) (fun h => ?_)
      | refine ⟨rfl, ?_⟩
      | (refine ⟨trivial, ?_⟩; conv => whnf)
      | (refine ⟨le_of_ble rfl, ?_⟩; conv => whnf)
      | fail
    · exfalso; simp at h; omega
    · refine ret_imm rfl rfl rfl rfl ?_ rfl
      rw [noticeOk, all_end hge ha]
      simp
      omega
  | some v =>
    have hlt := lt_of_at hx
    have hr := row_at Message.enc hx
    have hno := fun h => all_not (p := msgOk) hx h
    repeat' first
      | refine go_seq ?_
      | refine go_region ?_
      | (refine go_op rfl ?_; conv => whnf)
      | (refine go_nil ?_; conv => whnf)
      | (refine go_hit rfl rfl rfl ?_; conv => whnf)
      | (refine go_miss rfl rfl rfl ?_)
      | (refine go_undef rfl rfl rfl ?_)
      | (refine go_splitT rfl rfl rfl (fun h => ?_) (fun h => ?_) <;> conv => whnf)
      | (refine go_splitF rfl rfl rfl (fun h => ?_) (fun h => ?_) <;> conv => whnf)
      | (refine go_storeBox rfl rfl rfl rfl rfl rfl ?_; conv => whnf)
      | (refine go_dop rfl ?_; conv => whnf)
      | (refine go_dhit rfl rfl ?_; conv => whnf)
      | (refine go_dmiss rfl rfl ?_; conv => whnf)
      | (refine go_dundef rfl rfl ?_; conv => whnf)
      | (refine go_dend (by kernel_rfl) ?_; conv => whnf)
      | refine go_draw drawsOk ?_
      | (refine go_pickT rfl ?_; conv => whnf)
      | (refine go_pickF rfl ?_; conv => whnf)
      | (refine go_pick rfl (fun h => ?_) (fun h => ?_) <;> conv => whnf)
      | (refine go_call [] (c19 v) rfl rfl rfl rfl ?_; conv => whnf)
      | (refine go_idx rfl rfl rfl rfl (by omega) hr rfl ?_; conv => whnf)
      | (refine go_dsplit2 rfl (fun h => ?_) (fun h => ?_) <;> conv => whnf)
      | (refine go_loadB ?_; conv => whnf)
      | (refine ⟨by kernel_rfl, ?_⟩; conv => whnf)
      | (refine go_ret ?_; conv => whnf)
      | refine go_block ?_
      | (refine go_skip ?_; conv => whnf)
      | (refine go_exit ?_; conv => whnf)
      | refine go_true rfl ?_
      | refine go_false rfl ?_
      | refine go_cond rfl (fun h => ?_) (fun h => ?_)
      | refine ⟨rfl, ?_⟩
      | (refine ⟨trivial, ?_⟩; conv => whnf)
      | (refine ⟨le_of_ble rfl, ?_⟩; conv => whnf)
      | fail
    · refine ret_imm rfl rfl rfl rfl ?_ rfl
      rw [noticeOk, hno (by simpa using h), Bool.and_false]
    · exact go_next (i + 1) ⟨by omega, all_next hx ha (by simpa using h)⟩ (by omega) (ref_st0 rfl ⟨rfl, next_i (by omega), trivial⟩ rfl)
    · exfalso; simp at h; omega
end Go.Proofs.YtlkmbamenkjcmaaDoor

