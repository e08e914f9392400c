/- The visits' law, walked. -/
import Derived.Test.YtnjojepeilgikaaV1
import Derived.Test.YtnjojepeilgikaaAm30
namespace Go.Proofs.Ytnjojepeilgikaa
open Go Go.Am
set_option maxRecDepth 100000
attribute [local irreducible] amOps amC opCall opIndexAddr opPick retQ opMake opStore amDraw

/-- The fields are numbers of 64 bits. -/
def i64 (x : Int) : Prop := -9223372036854775808 ≤ x ∧ x ≤ 9223372036854775807
def Visit.ok (v : Visit) : Prop := i64 v.stop ∧ i64 v.planned ∧ i64 v.actual ∧ i64 v.persons

theorem good_same (v : Visit) (h : v.ok) : vGood1 v = vGood2 v := by
  obtain ⟨h1, h2, h3, h4⟩ := h
  unfold i64 at *
  rw [Bool.eq_iff_iff]
  simp only [vGood1, vGood2, inR, IntKind.wrap_i64, Bool.and_eq_true, decide_eq_true_eq]
  omega

theorem all_same {α : Type} {p q : α → Bool} : ∀ {xs : List α}, (∀ x ∈ xs, p x = q x) → xs.all p = xs.all q
  | [], _ => rfl
  | x :: xs, h => by
    simp only [List.all_cons]
    rw [h x (by simp), all_same (fun y hy => h y (by simp [hy]))]

theorem beq_self (v : Visit) : v.beq v = true := by simp [Visit.beq]

theorem c3 (xs : List Visit) (hok : ∀ v ∈ xs, v.ok) (hl : xs.length ≤ 9223372036854775807) : CallOk Try.prog 3 [.imm (.list (xs.map Visit.enc))] { res := [.imm (.bool true)] } := by
  refine callOk_of tyOk Try.func3 rfl rfl (le_of_ble rfl) (le_of_ble rfl) (mutOk_imm rfl _) ?_
  have hw : IntKind.i64.wrap (1048576 - (xs.length : Int)) = 1048576 - xs.length := by rw [IntKind.wrap_i64]; omega
  by_cases hs : xs.length ≤ 1048576
  · have hsame : xs.all vGood1 = xs.all vGood2 := all_same fun v hv => good_same v (hok v hv)
    repeat' first
      | refine go_seq ?_
      | refine go_region ?_
      | (refine go_op rfl ?_; conv => whnf)
      | (refine go_nil ?_; conv => whnf)
      | (refine go_hit rfl rfl rfl ?_; conv => whnf)
      | (refine go_miss rfl rfl rfl ?_)
      | (refine go_undef rfl rfl rfl ?_)
      | (refine go_splitT rfl rfl rfl (fun h => ?_) (fun h => ?_) <;> conv => whnf)
      | (refine go_splitF rfl rfl rfl (fun h => ?_) (fun h => ?_) <;> conv => whnf)
      | (refine go_storeBox rfl rfl rfl rfl rfl rfl ?_; conv => whnf)
      | (refine go_dop rfl ?_; conv => whnf)
      | (refine go_dhit rfl rfl ?_; conv => whnf)
      | (refine go_dmiss rfl rfl ?_; conv => whnf)
      | (refine go_dundef rfl rfl ?_; conv => whnf)
      | (refine go_dend (by kernel_rfl) ?_; conv => whnf)
      | refine go_draw drawsOk ?_
      | (refine go_pickT rfl ?_; conv => whnf)
      | (refine go_pickF rfl ?_; conv => whnf)
      | (refine go_pick rfl (fun h => ?_) (fun h => ?_) <;> conv => whnf)
      | (refine go_call [] (c13 xs _) rfl rfl rfl rfl ?_; conv => whnf)
      | (refine go_call [] (c15 xs hs) rfl rfl rfl rfl ?_; conv => whnf)
      | (refine go_call [] (c14 xs hs) rfl rfl rfl rfl ?_; conv => whnf)
      | (refine go_call [] (c16 xs hs) rfl rfl rfl rfl ?_; conv => whnf)
      | (refine go_call [] (c17 xs xs hs) rfl rfl rfl rfl ?_; conv => whnf)
      | (refine go_dsplit2 rfl (fun h => ?_) (fun h => ?_) <;> conv => whnf)
      | (refine go_loadB ?_; conv => whnf)
      | (refine ⟨by kernel_rfl, ?_⟩; conv => whnf)
      | (refine go_ret ?_; conv => whnf)
      | refine go_block ?_
      | (refine go_skip ?_; conv => whnf)
      | (refine go_exit ?_; conv => whnf)
      | refine go_true rfl ?_
      | refine go_false rfl ?_
      | refine go_cond rfl (fun h => ?_) (fun h => ?_)
      | refine ⟨rfl, ?_⟩
      | (refine ⟨trivial, ?_⟩; conv => whnf)
      | (refine ⟨le_of_ble rfl, ?_⟩; conv => whnf)
      | fail
    all_goals refine ret_imm rfl rfl rfl rfl ?_ rfl
    · rfl
    · exfalso; rw [hsame] at h; simp [Bool.and_comm] at h
    · exfalso; rw [zip_self beq_self] at h; simp at h
    · rfl
  ·
    repeat' first
      | refine go_seq ?_
      | refine go_region ?_
      | (refine go_op rfl ?_; conv => whnf)
      | (refine go_nil ?_; conv => whnf)
      | (refine go_hit rfl rfl rfl ?_; conv => whnf)
      | (refine go_miss rfl rfl rfl ?_)
      | (refine go_undef rfl rfl rfl ?_)
      | (refine go_splitT rfl rfl rfl (fun h => ?_) (fun h => ?_) <;> conv => whnf)
      | (refine go_splitF rfl rfl rfl (fun h => ?_) (fun h => ?_) <;> conv => whnf)
      | (refine go_storeBox rfl rfl rfl rfl rfl rfl ?_; conv => whnf)
      | (refine go_dop rfl ?_; conv => whnf)
      | (refine go_dhit rfl rfl ?_; conv => whnf)
      | (refine go_dmiss rfl rfl ?_; conv => whnf)
      | (refine go_dundef rfl rfl ?_; conv => whnf)
      | (refine go_dend (by kernel_rfl) ?_; conv => whnf)
      | refine go_draw drawsOk ?_
      | (refine go_pickT rfl ?_; conv => whnf)
      | (refine go_pickF rfl ?_; conv => whnf)
      | (refine go_pick rfl (fun h => ?_) (fun h => ?_) <;> conv => whnf)
      | (refine go_call [] (c13 xs _) rfl rfl rfl rfl ?_; conv => whnf)
      | (refine go_dsplit2 rfl (fun h => ?_) (fun h => ?_) <;> conv => whnf)
      | (refine go_loadB ?_; conv => whnf)
      | (refine ⟨by kernel_rfl, ?_⟩; conv => whnf)
      | (refine go_ret ?_; conv => whnf)
      | refine go_block ?_
      | (refine go_skip ?_; conv => whnf)
      | (refine go_exit ?_; conv => whnf)
      | refine go_true rfl ?_
      | refine go_false rfl ?_
      | refine go_cond rfl (fun h => ?_) (fun h => ?_)
      | refine ⟨rfl, ?_⟩
      | (refine ⟨trivial, ?_⟩; conv => whnf)
      | (refine ⟨le_of_ble rfl, ?_⟩; conv => whnf)
      | fail
    · exact ret_imm rfl rfl rfl rfl rfl rfl
    · exfalso
      rw [hw] at h
      rw [if_pos (by omega)] at h
      simp at h
end Go.Proofs.Ytnjojepeilgikaa

