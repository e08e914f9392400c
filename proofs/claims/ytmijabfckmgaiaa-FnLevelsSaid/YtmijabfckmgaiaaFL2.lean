/- Charging: legs, batteries and plans: batteries, breaks. -/
import Derived.Test.YtmijabfckmgaiaaFL0
import Derived.Test.YtmijabfckmgaiaaFL1
import Derived.Test.YtmijabfckmgaiaaFLB
namespace Go.Proofs.Ytmijabfckmgaiaa
open Go Go.Am
set_option maxRecDepth 100000
set_option maxHeartbeats 8000000
attribute [local irreducible] amOps amC opCall opIndexAddr opPick retQ opMake opStore amDraw opAppend opLoad opNilCmp opIndex opSlice

theorem c37 (b : Bat) : CallOk Try.prog 37 [.imm (.agg (batE b))] { res := [.imm (.bool (batOk b))] } := by
  refine callOk_of tyOk Try.func37 rfl rfl (le_of_ble rfl) (le_of_ble rfl) (mutOk_imm rfl _) ?_
  have h1 := c33 b.cap 1 10000
  have h2 := c33 b.res 0 b.cap
  have h3 := c33 b.rate 0 1000
  unfold batOk
  cases e1 : inR b.cap 1 10000 <;> cases e2 : inR b.res 0 b.cap <;> cases e3 : inR b.rate 0 1000
  all_goals
    rw [e1] at h1
    rw [e2] at h2
    rw [e3] at h3
    repeat' first | refine go_seq ?_ | refine go_region ?_ | refine go_miss rfl rfl rfl ?_ | refine go_undef rfl rfl rfl ?_ | ((first | refine go_op rfl ?_ | refine go_nil ?_ | refine go_hit rfl rfl rfl ?_ | refine go_splitT rfl rfl rfl (fun h => ?_) (fun h => ?_) | refine go_splitF rfl rfl rfl (fun h => ?_) (fun h => ?_) | refine go_pickT rfl ?_ | refine go_pickF rfl ?_ | refine go_pick rfl (fun h => ?_) (fun h => ?_) | refine go_call [] (h1) rfl rfl rfl rfl ?_ | refine go_call [] (h2) rfl rfl rfl rfl ?_ | refine go_call [] (h3) rfl rfl rfl rfl ?_) <;> conv => whnf) | ((first | refine go_loadB ?_ | refine ⟨by kernel_rfl, ?_⟩ | refine go_ret ?_) <;> conv => whnf) | ((first | refine go_skip ?_) <;> conv => whnf) | refine ⟨rfl, ?_⟩ | ((first | refine ⟨trivial, ?_⟩ | refine ⟨le_of_ble rfl, ?_⟩) <;> conv => whnf) | fail
    all_goals exact ret_imm rfl rfl rfl rfl rfl rfl
theorem c27 (b : Bat) (lv : Int) : CallOk Try.prog 27 [.imm (.agg (batE b)), .imm (.int .i64 lv)] { res := [.imm (.bool (batOk b && inR lv 0 b.cap))] } := by
  refine callOk_of tyOk Try.func27 rfl rfl (le_of_ble rfl) (le_of_ble rfl) (mutOk_imm rfl _) ?_
  have h1 := c38 b.cap 1 10000
  have h2 := c38 b.res 0 b.cap
  have h3 := c38 b.rate 0 1000
  have h4 := c38 lv 0 b.cap
  unfold batOk
  cases e1 : inR b.cap 1 10000 <;> cases e2 : inR b.res 0 b.cap <;> cases e3 : inR b.rate 0 1000 <;> cases e4 : inR lv 0 b.cap
  all_goals
    rw [e1] at h1
    rw [e2] at h2
    rw [e3] at h3
    rw [e4] at h4
    repeat' first | refine go_seq ?_ | refine go_region ?_ | refine go_miss rfl rfl rfl ?_ | refine go_undef rfl rfl rfl ?_ | ((first | refine go_op rfl ?_ | refine go_nil ?_ | refine go_hit rfl rfl rfl ?_ | refine go_splitT rfl rfl rfl (fun h => ?_) (fun h => ?_) | refine go_splitF rfl rfl rfl (fun h => ?_) (fun h => ?_) | refine go_pickT rfl ?_ | refine go_pickF rfl ?_ | refine go_pick rfl (fun h => ?_) (fun h => ?_) | refine go_call [] (h1) rfl rfl rfl rfl ?_ | refine go_call [] (h2) rfl rfl rfl rfl ?_ | refine go_call [] (h3) rfl rfl rfl rfl ?_ | refine go_call [] (h4) rfl rfl rfl rfl ?_) <;> conv => whnf) | ((first | refine go_loadB ?_ | refine ⟨by kernel_rfl, ?_⟩ | refine go_ret ?_) <;> conv => whnf) | ((first | refine go_skip ?_) <;> conv => whnf) | refine ⟨rfl, ?_⟩ | ((first | refine ⟨trivial, ?_⟩ | refine ⟨le_of_ble rfl, ?_⟩) <;> conv => whnf) | fail
    all_goals exact ret_imm rfl rfl rfl rfl rfl rfl
theorem c23 (xs : List Leg) (hl : xs.length ≤ 1048576) (b : Bat) (lv : Int) : CallOk Try.prog 23 [.imm (.list (xs.map Leg.enc)), .imm (.agg (batE b)), .imm (.int .i64 lv)] { res := [.imm (.bool (chgOk xs b lv))] } := by
  refine callOk_of tyOk Try.func23 rfl rfl (le_of_ble rfl) (le_of_ble rfl) (mutOk_imm rfl _) ?_
  have h1 := c11 xs hl
  have h2 := c37 b
  have h3 := c33 lv 0 b.cap
  unfold chgOk
  cases e1 : legsOk xs <;> cases e2 : batOk b <;> cases e3 : inR lv 0 b.cap
  all_goals
    rw [e1] at h1
    rw [e2] at h2
    rw [e3] at h3
    repeat' first | refine go_seq ?_ | refine go_region ?_ | refine go_miss rfl rfl rfl ?_ | refine go_undef rfl rfl rfl ?_ | ((first | refine go_op rfl ?_ | refine go_nil ?_ | refine go_hit rfl rfl rfl ?_ | refine go_splitT rfl rfl rfl (fun h => ?_) (fun h => ?_) | refine go_splitF rfl rfl rfl (fun h => ?_) (fun h => ?_) | refine go_pickT rfl ?_ | refine go_pickF rfl ?_ | refine go_pick rfl (fun h => ?_) (fun h => ?_) | refine go_call [] (h1) rfl rfl rfl rfl ?_ | refine go_call [] (h2) rfl rfl rfl rfl ?_ | refine go_call [] (h3) rfl rfl rfl rfl ?_) <;> conv => whnf) | ((first | refine go_loadB ?_ | refine ⟨by kernel_rfl, ?_⟩ | refine go_ret ?_) <;> conv => whnf) | ((first | refine go_skip ?_) <;> conv => whnf) | refine ⟨rfl, ?_⟩ | ((first | refine ⟨trivial, ?_⟩ | refine ⟨le_of_ble rfl, ?_⟩) <;> conv => whnf) | fail
    all_goals exact ret_imm rfl rfl rfl rfl rfl rfl
theorem two_ne : (2 : Int) ≠ 0 := by omega
theorem c31 (xs : List Leg) (hv : legsOk xs = true) (i : Nat) (hi : i + 1 < xs.length) : CallOk Try.prog 31 [.imm (.list (xs.map Leg.enc)), .imm (.int .i64 ((i + 1 : Nat) : Int))] { res := [.imm (.int .i64 (brk xs i))] } := by
  refine callOk_of tyOk Try.func31 rfl rfl (le_of_ble rfl) (le_of_ble rfl) (mutOk_imm rfl _) ?_
  have hn := (legs_at hv).1
  have hk := brk_at hv hi
  have g1 : xs[i]? = some xs[i] := List.getElem?_eq_getElem (by omega)
  have g2 : xs[i + 1]? = some xs[i + 1] := List.getElem?_eq_getElem hi
  have r1 := row_at Leg.enc g1
  have r2 := row_at Leg.enc g2
  have hw : IntKind.i64.wrap (((i + 1 : Nat) : Int) - 1) = (i : Int) := by rw [wrap_small (by omega) (by omega)]; omega
  have hb : brk xs i = xs[i + 1].fro - xs[i].to := by unfold brk; rw [legAt_of g1, legAt_of g2]
  rw [hb] at hk ⊢
  have hw2 : IntKind.i64.wrap (xs[i + 1].fro - xs[i].to) = xs[i + 1].fro - xs[i].to := wrap_small (by omega) (by omega)
  repeat' first | refine go_seq ?_ | refine go_region ?_ | refine go_draw drawsOk ?_ | ((first | refine go_op rfl ?_ | refine go_nil ?_ | refine go_dop rfl ?_ | refine go_dend (by kernel_rfl) ?_ | refine go_idx rfl rfl rfl rfl (by omega) r2 rfl ?_ | refine go_idx (i := IntKind.i64.wrap (((i + 1 : Nat) : Int) - 1)) rfl rfl rfl rfl (by rw [hw]; omega) (by rw [hw]; exact r1) rfl ?_) <;> conv => whnf) | ((first | refine go_loadB ?_ | refine ⟨by kernel_rfl, ?_⟩ | refine go_ret ?_) <;> conv => whnf) | ((first | refine go_skip ?_) <;> conv => whnf) | refine ⟨rfl, ?_⟩ | ((first | refine ⟨trivial, ?_⟩ | refine ⟨le_of_ble rfl, ?_⟩) <;> conv => whnf) | fail
  all_goals exact ret_imm rfl rfl rfl rfl (congrArg (D.int .i64) hw2) rfl
end Go.Proofs.Ytmijabfckmgaiaa

