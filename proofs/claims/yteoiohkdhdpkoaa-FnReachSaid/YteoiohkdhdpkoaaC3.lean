/- Picks among numbers, times that are drawn. -/
import Derived.Test.YteoiohkdhdpkoaaC2
namespace Go.Proofs.Yteoiohkdhdpkoaa
open Go Go.Am
set_option maxRecDepth 100000
set_option maxHeartbeats 4000000
attribute [local irreducible] amOps amC opCall opIndexAddr opPick retQ opMake opStore amDraw opAppend opLoad opNilCmp opIndex opSlice

theorem tmod_in {x n : Int} (hx : 0 ≤ x) (hn : 1 ≤ n) : 0 ≤ x.tmod n ∧ x.tmod n < n := by
  rw [Int.tmod_eq_emod_of_nonneg hx]
  exact ⟨Int.emod_nonneg _ (by omega), Int.emod_lt_of_pos _ (by omega)⟩

/-- A number from 0 to n - 1; 0 where there is none. -/
theorem pick_ok (xs : List Int) (hx : areB xs) (k : Nat) (hk : k ≤ 999000) (s : Int) (n : Int) : ∃ (v : Int) (k' : Nat) (s' : Int), (0 ≤ v ∧ (1 ≤ n → v < n)) ∧ (k ≤ k' ∧ k' ≤ k + 2) ∧
    CallOk Try.prog 22 [.box 48 (curD xs k s), .imm (.int .i64 n)] { res := [.imm (.int .i64 v)], muts := [.box 48 ((curD xs k' s').map .imm)], sep := false } := by
  by_cases h1 : n ≤ 1
  · refine ⟨0, k, s, ⟨by omega, fun _ => by omega⟩, ⟨by omega, by omega⟩, ?_⟩
    refine callOk_of tyOk Try.func22 rfl rfl (le_of_ble rfl) (le_of_ble rfl) (mutOk_box0 rfl) ?_
    repeat' first | refine go_seq ?_ | refine go_region ?_ | ((first | refine go_op rfl ?_ | refine go_nil ?_) <;> conv => whnf) | ((first | refine ⟨by kernel_rfl, ?_⟩ | refine go_ret ?_) <;> conv => whnf) | ((first | refine go_skip ?_) <;> conv => whnf) | refine go_true rfl ?_ | refine go_false rfl ?_ | refine go_cond rfl (fun h => ?_) (fun h => ?_) | refine ⟨rfl, ?_⟩ | ((first | refine ⟨trivial, ?_⟩ | refine ⟨le_of_ble rfl, ?_⟩) <;> conv => whnf) | fail
    all_goals first
      | exact ret_box1 rfl rfl rfl rfl rfl rfl
      | (exfalso; simp at h; omega)
      | trace_state
  · have hn0 : n ≠ 0 := by omega
    obtain ⟨v, s1, hv, hc⟩ := next_ok xs hx k (by omega) s
    by_cases h2 : 200 < n
    · obtain ⟨v2, s2, hv2, hc2⟩ := next_ok xs hx (k + 1) (by omega) s1
      have e1 : IntKind.i64.wrap (IntKind.i64.wrap (v * 256) + v2) = v * 256 + v2 := by rw [wrap_small (n := v * 256) (by omega) (by omega), wrap_small (by omega) (by omega)]
      have hm := tmod_in (x := v * 256 + v2) (n := n) (by omega) (by omega)
      refine ⟨(v * 256 + v2).tmod n, k + 1 + 1, s2, ⟨hm.1, fun _ => hm.2⟩, ⟨by omega, by omega⟩, ?_⟩
      refine callOk_of tyOk Try.func22 rfl rfl (le_of_ble rfl) (le_of_ble rfl) (mutOk_box0 rfl) ?_
      repeat' first | refine go_seq ?_ | refine go_region ?_ | ((first | refine go_op rfl ?_ | refine go_nil ?_ | refine go_call [2] (hc) rfl rfl rfl rfl ?_ | refine go_call [2] (hc2) rfl rfl rfl rfl ?_ | refine ⟨hn0, ?_⟩) <;> conv => whnf) | ((first | refine ⟨by kernel_rfl, ?_⟩ | refine go_ret ?_) <;> conv => whnf) | ((first | refine go_skip ?_) <;> conv => whnf) | refine go_true rfl ?_ | refine go_false rfl ?_ | refine go_cond rfl (fun h => ?_) (fun h => ?_) | refine ⟨rfl, ?_⟩ | ((first | refine ⟨trivial, ?_⟩ | refine ⟨le_of_ble rfl, ?_⟩) <;> conv => whnf) | fail
      all_goals first
        | (refine ret_box1 rfl rfl rfl rfl ?_ rfl
           show D.int .i64 ((IntKind.i64.wrap (IntKind.i64.wrap (v * 256) + v2)).tmod n) = _
           rw [e1]
           done)
        | (exfalso; simp at h; omega)
        | trace_state
    · have hm := tmod_in (x := v) (n := n) (by omega) (by omega)
      refine ⟨v.tmod n, k + 1, s1, ⟨hm.1, fun _ => hm.2⟩, ⟨by omega, by omega⟩, ?_⟩
      refine callOk_of tyOk Try.func22 rfl rfl (le_of_ble rfl) (le_of_ble rfl) (mutOk_box0 rfl) ?_
      repeat' first | refine go_seq ?_ | refine go_region ?_ | ((first | refine go_op rfl ?_ | refine go_nil ?_ | refine go_call [2] (hc) rfl rfl rfl rfl ?_ | refine ⟨hn0, ?_⟩) <;> conv => whnf) | ((first | refine ⟨by kernel_rfl, ?_⟩ | refine go_ret ?_) <;> conv => whnf) | ((first | refine go_skip ?_) <;> conv => whnf) | refine go_true rfl ?_ | refine go_false rfl ?_ | refine go_cond rfl (fun h => ?_) (fun h => ?_) | refine ⟨rfl, ?_⟩ | ((first | refine ⟨trivial, ?_⟩ | refine ⟨le_of_ble rfl, ?_⟩) <;> conv => whnf) | fail
      all_goals first
        | exact ret_box1 rfl rfl rfl rfl rfl rfl
        | (exfalso; simp at h; omega)
        | trace_state

theorem one_ok (xs : List Int) (hx : areB xs) (k : Nat) (hk : k ≤ 999000) (s : Int) (n : Int) : ∃ (b : Bool) (k' : Nat) (s' : Int), (k ≤ k' ∧ k' ≤ k + 2) ∧
    CallOk Try.prog 42 [.box 48 (curD xs k s), .imm (.int .i64 n)] { res := [.imm (.bool b)], muts := [.box 48 ((curD xs k' s').map .imm)], sep := false } := by
  obtain ⟨v, k', s', hv, hk', hc⟩ := pick_ok xs hx k hk s n
  refine ⟨decide (v = 0), k', s', hk', ?_⟩
  refine callOk_of tyOk Try.func42 rfl rfl (le_of_ble rfl) (le_of_ble rfl) (mutOk_box0 rfl) ?_
  repeat' first | refine go_seq ?_ | refine go_region ?_ | ((first | refine go_op rfl ?_ | refine go_nil ?_ | refine go_call [2] (hc) rfl rfl rfl rfl ?_) <;> conv => whnf) | ((first | refine ⟨by kernel_rfl, ?_⟩ | refine go_ret ?_) <;> conv => whnf) | ((first | refine go_skip ?_) <;> conv => whnf) | refine ⟨rfl, ?_⟩ | ((first | refine ⟨trivial, ?_⟩ | refine ⟨le_of_ble rfl, ?_⟩) <;> conv => whnf) | fail
  all_goals exact ret_box1 rfl rfl rfl rfl rfl rfl

theorem among_ok (xs : List Int) (hx : areB xs) (k : Nat) (hk : k ≤ 999000) (s : Int) (l : List Int) (hl : 1 ≤ l.length) (hl2 : l.length ≤ 1000) : ∃ (v : Int) (k' : Nat) (s' : Int), v ∈ l ∧ (k ≤ k' ∧ k' ≤ k + 2) ∧
    CallOk Try.prog 32 [.box 48 (curD xs k s), .imm (.list (l.map intRow))] { res := [.imm (.int .i64 v)], muts := [.box 48 ((curD xs k' s').map .imm)], sep := false } := by
  have hll : ((l.map intRow).length : Int) = l.length := by rw [List.length_map]
  obtain ⟨i, k', s', hi, hk', hc⟩ := pick_ok xs hx k hk s ((l.map intRow).length : Int)
  have hi2 := hi.2 (by omega)
  obtain ⟨j, rfl⟩ := Int.eq_ofNat_of_zero_le hi.1
  have hlt : j < l.length := by omega
  have hg : l[j]? = some l[j] := List.getElem?_eq_getElem hlt
  have hr := row_at intRow hg
  refine ⟨l[j], k', s', List.getElem_mem hlt, hk', ?_⟩
  refine callOk_of tyOk Try.func32 rfl rfl (le_of_ble rfl) (le_of_ble rfl) (mutOk_box0 rfl) ?_
  repeat' first | refine go_seq ?_ | refine go_region ?_ | ((first | refine go_op rfl ?_ | refine go_nil ?_ | refine go_call [2] (hc) rfl rfl rfl rfl ?_ | refine go_idx rfl rfl rfl rfl (by omega) hr rfl ?_) <;> conv => whnf) | ((first | refine go_loadB ?_ | refine ⟨by kernel_rfl, ?_⟩ | refine go_ret ?_) <;> conv => whnf) | ((first | refine go_skip ?_) <;> conv => whnf) | refine ⟨rfl, ?_⟩ | ((first | refine ⟨trivial, ?_⟩ | refine ⟨le_of_ble rfl, ?_⟩) <;> conv => whnf) | fail
  all_goals first
    | exact ret_box1 rfl rfl rfl rfl rfl rfl
    | trace_state

/-- A byte of a text. -/
theorem one_byte {l : List UInt8} {i : Nat} (h : i < l.length) : ∃ b, (l.drop i).take 1 = [b] := by
  refine ⟨l[i], ?_⟩
  rw [List.drop_eq_getElem_cons h]
  rfl
end Go.Proofs.Yteoiohkdhdpkoaa

