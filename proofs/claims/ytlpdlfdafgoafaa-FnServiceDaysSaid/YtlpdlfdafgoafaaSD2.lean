/- Calendars: whether one is valid, and whether it runs on a day: both sides. -/
import Derived.Test.YtlpdlfdafgoafaaSD1
namespace Go.Proofs.Ytlpdlfdafgoafaa
open Go Go.Am Go.SD
set_option maxRecDepth 100000
set_option maxHeartbeats 4000000
attribute [local irreducible] amOps amC opCall opIndexAddr opPick retQ opMake opStore amDraw opAppend opLoad opNilCmp opIndex opSlice

def calE (c : Cal) : List D := [.int .i64 c.fro, .int .i64 c.to, .int .i64 c.wd, .list (c.added.map intRow), .list (c.removed.map intRow)]
theorem seven_ne : (7 : Int) ≠ 0 := by omega

theorem byw_all : ∀ s : Fin 128, ∀ k : Fin 7, decide (bits BinOp.and IntKind.i64 ((s.val : Int).fdiv (2 ^ min k.val IntKind.i64.bits)) 1 = 1) = s.val.testBit k.val := by decide +kernel
theorem byw_at {s d : Int} (hs : 0 ≤ s ∧ s ≤ 127) (hd : 0 ≤ d) : decide (bits BinOp.and IntKind.i64 (s.fdiv (2 ^ min (d.tmod 7).toNat IntKind.i64.bits)) 1 = 1) = byW s d := by
  obtain ⟨n, rfl⟩ := Int.eq_ofNat_of_zero_le hs.1
  have h1 : d.tmod 7 = d % 7 := Int.tmod_eq_emod_of_nonneg hd
  have h2 : (d % 7).toNat < 7 := by omega
  have := byw_all ⟨n, by omega⟩ ⟨(d % 7).toNat, h2⟩
  rw [h1]
  exact this

theorem c25 (s d : Int) (hs : 0 ≤ s ∧ s ≤ 127) (hd : 0 ≤ d ∧ d ≤ 1000000) : CallOk Try.prog 25 [.imm (.int .i64 s), .imm (.int .i64 d)] { res := [.imm (.bool (byW s d))] } := by
  refine callOk_of tyOk Try.func25 rfl rfl (le_of_ble rfl) (le_of_ble rfl) (mutOk_imm rfl _) ?_
  have h7 : 0 ≤ d.tmod 7 := Int.tmod_nonneg _ hd.1
  repeat' first | refine go_seq ?_ | refine go_region ?_ | ((first | refine go_op rfl ?_ | refine go_nil ?_ | refine ⟨seven_ne, ?_⟩ | refine ⟨h7, ?_⟩) <;> conv => whnf) | ((first | refine ⟨by kernel_rfl, ?_⟩ | refine go_ret ?_) <;> conv => whnf) | ((first | refine go_skip ?_) <;> conv => whnf) | refine ⟨rfl, ?_⟩ | ((first | refine ⟨trivial, ?_⟩ | refine ⟨le_of_ble rfl, ?_⟩) <;> conv => whnf) | fail
  all_goals exact ret_imm rfl rfl rfl rfl (congrArg D.bool (byw_at hs hd.1)) rfl
theorem c30 (c : Cal) (hs : 0 ≤ c.wd ∧ c.wd ≤ 127) (h0 : 0 ≤ c.fro) (d : Int) : CallOk Try.prog 30 [.imm (.agg (calE c)), .imm (.int .i64 d)] { res := [.imm (.bool (inR d c.fro c.to && byW c.wd d))] } := by
  refine callOk_of tyOk Try.func30 rfl rfl (le_of_ble rfl) (le_of_ble rfl) (mutOk_imm rfl _) ?_
  have hc := c27 d c.fro c.to
  cases hin : inR d c.fro c.to with
  | false =>
    rw [hin] at hc
    repeat' first | refine go_seq ?_ | refine go_region ?_ | refine go_miss rfl rfl rfl ?_ | refine go_undef rfl rfl rfl ?_ | ((first | refine go_op rfl ?_ | refine go_nil ?_ | refine go_hit rfl rfl rfl ?_ | refine go_splitT rfl rfl rfl (fun h => ?_) (fun h => ?_) | refine go_splitF rfl rfl rfl (fun h => ?_) (fun h => ?_) | refine go_pickT rfl ?_ | refine go_pickF rfl ?_ | refine go_pick rfl (fun h => ?_) (fun h => ?_) | refine go_call [] (hc) rfl rfl rfl rfl ?_) <;> conv => whnf) | ((first | refine go_loadB ?_ | refine ⟨by kernel_rfl, ?_⟩ | refine go_ret ?_) <;> conv => whnf) | ((first | refine go_skip ?_) <;> conv => whnf) | refine ⟨rfl, ?_⟩ | ((first | refine ⟨trivial, ?_⟩ | refine ⟨le_of_ble rfl, ?_⟩) <;> conv => whnf) | fail
    all_goals exact ret_imm rfl rfl rfl rfl rfl rfl
  | true =>
    rw [hin] at hc
    simp only [inR, Bool.and_eq_true, decide_eq_true_eq] at hin
    have h7 : 0 ≤ d.tmod 7 := Int.tmod_nonneg _ (by omega)
    have h8 : d.tmod 7 < 7 := Int.tmod_lt_of_pos _ (by omega)
    have hu : IntKind.u64.wrap (d.tmod 7) = d.tmod 7 := by rw [IntKind.wrap_u64]; omega
    repeat' first | refine go_seq ?_ | refine go_region ?_ | refine go_miss rfl rfl rfl ?_ | refine go_undef rfl rfl rfl ?_ | ((first | refine go_op rfl ?_ | refine go_nil ?_ | refine go_hit rfl rfl rfl ?_ | refine go_splitT rfl rfl rfl (fun h => ?_) (fun h => ?_) | refine go_splitF rfl rfl rfl (fun h => ?_) (fun h => ?_) | refine go_pickT rfl ?_ | refine go_pickF rfl ?_ | refine go_pick rfl (fun h => ?_) (fun h => ?_) | refine go_call [] (hc) rfl rfl rfl rfl ?_ | refine ⟨seven_ne, ?_⟩ | refine ⟨by rw [hu]; exact h7, ?_⟩) <;> conv => whnf) | ((first | refine go_loadB ?_ | refine ⟨by kernel_rfl, ?_⟩ | refine go_ret ?_) <;> conv => whnf) | ((first | refine go_skip ?_) <;> conv => whnf) | refine ⟨rfl, ?_⟩ | ((first | refine ⟨trivial, ?_⟩ | refine ⟨le_of_ble rfl, ?_⟩) <;> conv => whnf) | fail
    all_goals first
      | (refine ret_imm rfl rfl rfl rfl ?_ rfl; show D.bool (decide (bits BinOp.and IntKind.i64 (c.wd.fdiv (2 ^ min (IntKind.u64.wrap (d.tmod 7)).toNat IntKind.i64.bits)) 1 = 1)) = D.bool (true && byW c.wd d); rw [hu, byw_at hs (show 0 ≤ d by omega), Bool.true_and]; done)
      | trace_state
end Go.Proofs.Ytlpdlfdafgoafaa

