/- The walks of the two draws of FnDepots. -/
import Derived.Test.YtkjigbbbobijnaaF2
namespace Go.Proofs.Ytkjigbbbobijnaa
open Go Go.Am
set_option maxRecDepth 100000
set_option maxHeartbeats 8000000
attribute [local irreducible] amOps amC opCall opIndexAddr opPick retQ opMake opStore amDraw opAppend opLoad opNilCmp opIndex opSlice xQ

theorem drawPark (xs : List Int) (hx : areB xs) : ∃ (d : Depot) (v t : Int), d.fit ∧
    CallOk Try.prog 5 [.imm (.list (xs.map byteRow))] { res := [.imm (.agg d.enc), .imm (.int .i64 v), .imm (.int .i64 t)], sep := false } := by
  obtain ⟨hf, hk⟩ := depF_ok hx (c := ⟨0, 0⟩) (by decide)
  have hD := depot_walk xs hx ⟨0, 0⟩ (by decide)
  generalize depF xs ⟨0, 0⟩ = Y at *
  obtain ⟨d, c⟩ := Y
  simp only at hf hk
  have hD : CallOk Try.prog 17 [.box 45 (curD xs 0 0)] { res := [.imm (.agg d.enc)], muts := [.box 45 ((curD xs c.k c.s).map .imm)], sep := false } := hD
  obtain ⟨v1, k1, s1, _, hk1, hA⟩ := among_ok xs hx c.k (by omega) c.s [20, 21, 99, 30] (by decide) (by decide)
  obtain ⟨b, k2, s2, hk2, hO⟩ := one_ok xs hx k1 (by omega) s1 6
  obtain ⟨v3, k3, s3, hk3, hV⟩ := veh_ok xs hx k2 (by omega) s2 d hf
  obtain ⟨kb, sb, vb, hkb, e0, e1⟩ : ∃ (kb : Nat) (sb vb : Int), kb ≤ 2000 ∧ (b = false → vb = v1 ∧ kb = k2 ∧ sb = s2) ∧ (b = true → vb = v3 ∧ kb = k3 ∧ sb = s3) := by
    cases b with
    | false => exact ⟨k2, s2, v1, by omega, (fun _ => ⟨rfl, rfl, rfl⟩), fun h => by cases h⟩
    | true => exact ⟨k3, s3, v3, by omega, (fun h => by cases h), fun _ => ⟨rfl, rfl, rfl⟩⟩
  obtain ⟨p, k4, s4, hp, hk4, hP⟩ := pick_ok xs hx kb (by omega) sb (IntKind.i64.wrap (((d.sizes.map intRow).length : Int) + 1))
  obtain ⟨q, k5, s5, hq, hk5, hQ⟩ := pick_ok xs hx k4 (by omega) s4 12
  refine ⟨d, vb, IntKind.i64.wrap (p - IntKind.i64.wrap (q.tdiv 11)), hf, ?_⟩
  refine callOk_of tyOk Try.func5 rfl rfl (le_of_ble rfl) (le_of_ble rfl) (mutOk_imm rfl _) ?_
  cases b with
  | false =>
    obtain ⟨rfl, rfl, rfl⟩ := e0 rfl
    repeat' first | refine go_seq ?_ | refine go_region ?_ | refine go_draw drawsOk ?_ | ((first | refine go_op rfl ?_ | refine go_nil ?_ | refine go_storeBox rfl rfl rfl rfl rfl rfl ?_ | refine go_dop rfl ?_ | refine go_dend (by kernel_rfl) ?_ | refine go_call [2] (hD) rfl rfl rfl rfl ?_ | refine go_call [2, 1] (hA) rfl rfl rfl rfl ?_ | refine go_call [2] (hO) rfl rfl rfl rfl ?_ | refine go_call [2] (hP) rfl rfl rfl rfl ?_ | refine go_call [2] (hQ) rfl rfl rfl rfl ?_ | refine ⟨by decide, ?_⟩) <;> conv => whnf) | ((first | refine Or.inl ?_ | refine go_loadB ?_ | refine ⟨by kernel_rfl, ?_⟩ | refine go_ret ?_) <;> conv => whnf) | ((first | refine go_skip ?_) <;> conv => whnf) | refine go_true rfl ?_ | refine go_false rfl ?_ | refine go_cond rfl (fun h => ?_) (fun h => ?_) | refine ⟨rfl, ?_⟩ | ((first | refine ⟨trivial, ?_⟩ | refine ⟨le_of_ble rfl, ?_⟩) <;> conv => whnf) | fail
    all_goals first
      | (exfalso; simp at h; done)
      | exact ret_all rfl ⟨⟨rfl, fun h => by cases h⟩, ⟨rfl, fun h => by cases h⟩, ⟨rfl, fun h => by cases h⟩, trivial⟩ List.nodup_nil List.nodup_nil trivial
      | trace_state
  | true =>
    obtain ⟨rfl, rfl, rfl⟩ := e1 rfl
    repeat' first | refine go_seq ?_ | refine go_region ?_ | refine go_draw drawsOk ?_ | ((first | refine go_op rfl ?_ | refine go_nil ?_ | refine go_storeBox rfl rfl rfl rfl rfl rfl ?_ | refine go_dop rfl ?_ | refine go_dend (by kernel_rfl) ?_ | refine go_call [2] (hD) rfl rfl rfl rfl ?_ | refine go_call [2, 1] (hA) rfl rfl rfl rfl ?_ | refine go_call [2] (hO) rfl rfl rfl rfl ?_ | refine go_call [2] (hV) rfl rfl rfl rfl ?_ | refine go_call [2] (hP) rfl rfl rfl rfl ?_ | refine go_call [2] (hQ) rfl rfl rfl rfl ?_ | refine ⟨by decide, ?_⟩) <;> conv => whnf) | ((first | refine Or.inl ?_ | refine go_loadB ?_ | refine ⟨by kernel_rfl, ?_⟩ | refine go_ret ?_) <;> conv => whnf) | ((first | refine go_skip ?_) <;> conv => whnf) | refine go_true rfl ?_ | refine go_false rfl ?_ | refine go_cond rfl (fun h => ?_) (fun h => ?_) | refine ⟨rfl, ?_⟩ | ((first | refine ⟨trivial, ?_⟩ | refine ⟨le_of_ble rfl, ?_⟩) <;> conv => whnf) | fail
    all_goals first
      | (exfalso; simp at h; done)
      | exact ret_all rfl ⟨⟨rfl, fun h => by cases h⟩, ⟨rfl, fun h => by cases h⟩, ⟨rfl, fun h => by cases h⟩, trivial⟩ List.nodup_nil List.nodup_nil trivial
      | trace_state

theorem drawTake (xs : List Int) (hx : areB xs) : ∃ (d : Depot) (v : Int), d.fit ∧
    CallOk Try.prog 13 [.imm (.list (xs.map byteRow))] { res := [.imm (.agg d.enc), .imm (.int .i64 v)], sep := false } := by
  obtain ⟨hf, hk⟩ := depF_ok hx (c := ⟨0, 0⟩) (by decide)
  have hD := depot_walk xs hx ⟨0, 0⟩ (by decide)
  generalize depF xs ⟨0, 0⟩ = Y at *
  obtain ⟨d, c⟩ := Y
  simp only at hf hk
  have hD : CallOk Try.prog 17 [.box 45 (curD xs 0 0)] { res := [.imm (.agg d.enc)], muts := [.box 45 ((curD xs c.k c.s).map .imm)], sep := false } := hD
  obtain ⟨v3, k3, s3, hk3, hV⟩ := veh_ok xs hx c.k (by omega) c.s d hf
  refine ⟨d, v3, hf, ?_⟩
  refine callOk_of tyOk Try.func13 rfl rfl (le_of_ble rfl) (le_of_ble rfl) (mutOk_imm rfl _) ?_
  repeat' first | refine go_seq ?_ | refine go_region ?_ | refine go_draw drawsOk ?_ | ((first | refine go_op rfl ?_ | refine go_nil ?_ | refine go_storeBox rfl rfl rfl rfl rfl rfl ?_ | refine go_dop rfl ?_ | refine go_dend (by kernel_rfl) ?_ | refine go_call [2] (hD) rfl rfl rfl rfl ?_ | refine go_call [2] (hV) rfl rfl rfl rfl ?_) <;> conv => whnf) | ((first | refine Or.inl ?_ | refine go_loadB ?_ | refine ⟨by kernel_rfl, ?_⟩ | refine go_ret ?_) <;> conv => whnf) | ((first | refine go_skip ?_) <;> conv => whnf) | refine ⟨rfl, ?_⟩ | ((first | refine ⟨trivial, ?_⟩ | refine ⟨le_of_ble rfl, ?_⟩) <;> conv => whnf) | fail
  all_goals first
    | exact ret_all rfl ⟨⟨rfl, fun h => by cases h⟩, ⟨rfl, fun h => by cases h⟩, trivial⟩ List.nodup_nil List.nodup_nil trivial
    | trace_state
end Go.Proofs.Ytkjigbbbobijnaa

