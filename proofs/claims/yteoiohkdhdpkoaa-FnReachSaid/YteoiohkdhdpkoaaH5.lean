/- FnReach: the draw, and the law for all bytes. -/
import Derived.Test.YteoiohkdhdpkoaaH4
namespace Go.Proofs.Yteoiohkdhdpkoaa
open Go Go.Am
set_option maxRecDepth 100000
set_option maxHeartbeats 8000000
attribute [local irreducible] amOps amC opCall opIndexAddr opPick retQ opMake opStore amDraw opAppend opLoad opNilCmp opIndex opSlice xQ

theorem drawLines (xs : List Int) (hx : areB xs) : ∃ (n : Network) (s : Int), n.fit ∧
    CallOk Try.prog 12 [.imm (.list (xs.map byteRow))] { res := [.imm (.agg n.enc), .imm (.int .i64 s)], sep := false } := by
  obtain ⟨hf, hk⟩ := anF_ok hx (c := ⟨0, 0⟩) (by decide)
  have hD := any_walk xs hx ⟨0, 0⟩ (by decide)
  generalize anF xs ⟨0, 0⟩ = Y at *
  obtain ⟨n, c⟩ := Y
  simp only at hf hk
  have hD : CallOk Try.prog 21 [.box 48 (curD xs 0 0)] { res := [.imm (.agg n.enc)], muts := [.box 48 ((curD xs c.k c.s).map .imm)], sep := false } := hD
  obtain ⟨p, k4, s4, _, _, hP⟩ := pick_ok xs hx c.k (by omega) c.s 8
  refine ⟨n, IntKind.i64.wrap (p - 1), hf, ?_⟩
  refine callOk_of tyOk Try.func12 rfl rfl (le_of_ble rfl) (le_of_ble rfl) (mutOk_imm rfl _) ?_
  repeat' first | refine go_seq ?_ | refine go_region ?_ | ((first | refine go_op rfl ?_ | refine go_nil ?_ | refine go_storeBox rfl rfl rfl rfl rfl rfl ?_ | refine go_call [2] (hD) rfl rfl rfl rfl ?_ | refine go_call [2] (hP) rfl rfl rfl rfl ?_) <;> conv => whnf) | ((first | refine Or.inl ?_ | refine ⟨by kernel_rfl, ?_⟩ | refine go_ret ?_) <;> conv => whnf) | ((first | refine go_skip ?_) <;> conv => whnf) | refine ⟨rfl, ?_⟩ | ((first | refine ⟨trivial, ?_⟩ | refine ⟨le_of_ble rfl, ?_⟩) <;> conv => whnf) | fail
  all_goals first
    | exact ret_all rfl ⟨⟨rfl, fun h => by cases h⟩, ⟨rfl, fun h => by cases h⟩, trivial⟩ List.nodup_nil List.nodup_nil trivial
    | trace_state
theorem drawReach (xs : List Int) (hx : areB xs) : ∃ (n : Network) (s : Int), n.fit ∧
    CallOk Try.prog 5 [.imm (.list (xs.map byteRow))] { res := [.imm (.agg n.enc), .imm (.int .i64 s)], sep := false } := by
  obtain ⟨n, s, hf, hD⟩ := drawLines xs hx
  refine ⟨n, s, hf, ?_⟩
  refine callOk_of tyOk Try.func5 rfl rfl (le_of_ble rfl) (le_of_ble rfl) (mutOk_imm rfl _) ?_
  repeat' first | refine go_seq ?_ | refine go_region ?_ | ((first | refine go_op rfl ?_ | refine go_nil ?_ | refine go_storeBox rfl rfl rfl rfl rfl rfl ?_ | refine go_call [] (hD) rfl rfl rfl rfl ?_) <;> conv => whnf) | ((first | refine ⟨by kernel_rfl, ?_⟩ | refine go_ret ?_) <;> conv => whnf) | ((first | refine go_skip ?_) <;> conv => whnf) | refine ⟨rfl, ?_⟩ | ((first | refine ⟨trivial, ?_⟩ | refine ⟨le_of_ble rfl, ?_⟩) <;> conv => whnf) | fail
  all_goals first
    | exact ret_all rfl ⟨⟨rfl, fun h => by cases h⟩, ⟨rfl, fun h => by cases h⟩, trivial⟩ List.nodup_nil List.nodup_nil trivial
    | trace_state
theorem c3 (xs : List Int) (hx : areB xs) : CallOk Try.prog 3 [.imm (.list (xs.map byteRow))] { res := [.imm (.bool true)] } := by
  obtain ⟨n, s, hf, hD⟩ := drawReach xs hx
  exact law_of xs n s hf hD
end Go.Proofs.Yteoiohkdhdpkoaa

