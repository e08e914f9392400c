/- The walk of the length of a line; what the runs of a valid line add up to. -/
import Derived.Test.YtmbaalkeogckbaaGreatT3
namespace Go.Proofs.YtmbaalkeogckbaaGreat
open Go Go.Am
set_option maxRecDepth 100000
set_option maxHeartbeats 4000000
attribute [local irreducible] amOps amC opCall opIndexAddr opPick retQ opMake opStore amDraw opAppend opLoad opNilCmp opIndex opSlice

theorem c146 (l : Line) (hr : l.runs.length + 1 = l.stops.length) (hl : l.runs.length ≤ 1048576) : CallOk Tryz.prog 146 [.imm (.agg l.enc)] { res := [.imm (.int .i64 (totW l.runs))] } := by
  refine callOk_of tyOk Tryz.func146 rfl rfl (le_of_ble rfl) (le_of_ble rfl) (mutOk_imm rfl _) ?_
  have hw : IntKind.i64.wrap (((l.stops.map intRow).length : Int) - 1) = ((l.runs.length : Nat) : Int) := by rw [List.length_map, wrap_small (by omega) (by omega)]; omega
  have hc : CallOk Tryz.prog 127 [.imm (.agg l.enc), .imm (.int .i64 0), .imm (.int .i64 (IntKind.i64.wrap (((l.stops.map intRow).length : Int) - 1)))] { res := [.imm (.int .i64 (totW l.runs))] } := by
    rw [hw]
    have := c127 l l.runs.length (Nat.le_refl _) hl
    rwa [List.take_length] at this
  repeat' first | refine go_seq ?_ | refine go_region ?_ | ((first | refine go_op rfl ?_ | refine go_nil ?_ | refine go_call [] (hc) rfl rfl rfl rfl ?_) <;> conv => whnf) | ((first | refine go_loadB ?_ | refine ⟨by kernel_rfl, ?_⟩ | refine go_ret ?_) <;> conv => whnf) | ((first | refine go_skip ?_) <;> conv => whnf) | refine ⟨rfl, ?_⟩ | ((first | refine ⟨trivial, ?_⟩ | refine ⟨le_of_ble rfl, ?_⟩) <;> conv => whnf) | fail
  all_goals exact ret_imm rfl rfl rfl rfl rfl rfl

end Go.Proofs.YtmbaalkeogckbaaGreat

