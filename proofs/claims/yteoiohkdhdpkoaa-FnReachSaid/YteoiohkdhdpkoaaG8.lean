/- The draw of networks: small parts. -/
import Derived.Test.YteoiohkdhdpkoaaG7
import Derived.Test.YteoiohkdhdpkoaaCU
namespace Go.Proofs.Yteoiohkdhdpkoaa
open Go Go.Am
set_option maxRecDepth 100000
set_option maxHeartbeats 8000000
attribute [local irreducible] amOps amC opCall opIndexAddr opPick retQ opMake opStore amDraw opAppend opLoad opNilCmp opIndex opSlice xQ

theorem of_ok (xs : List Int) (hx : areB xs) (k : Nat) (hk : k ≤ 999000) (s : Int) (l : List ByteArray) (hl : 1 ≤ l.length) (hl2 : l.length ≤ 1000) : ∃ (v : ByteArray) (k' : Nat) (s' : Int), v ∈ l ∧ (k ≤ k' ∧ k' ≤ k + 2) ∧
    CallOk Try.prog 31 [.box 48 (curD xs k s), .imm (.list (l.map strRow))] { res := [.imm (.str v)], muts := [.box 48 ((curD xs k' s').map .imm)], sep := false } := by
  have hll : ((l.map strRow).length : Int) = l.length := by rw [List.length_map]
  obtain ⟨i, k', s', hi, hk', hc⟩ := pick_ok xs hx k hk s ((l.map strRow).length : Int)
  have hi2 := hi.2 (by omega)
  obtain ⟨j, rfl⟩ := Int.eq_ofNat_of_zero_le hi.1
  have hlt : j < l.length := by omega
  have hg : l[j]? = some l[j] := List.getElem?_eq_getElem hlt
  have hr := row_at strRow hg
  refine ⟨l[j], k', s', List.getElem_mem hlt, hk', ?_⟩
  refine callOk_of tyOk Try.func31 rfl rfl (le_of_ble rfl) (le_of_ble rfl) (mutOk_box0 rfl) ?_
  repeat' first | refine go_seq ?_ | refine go_region ?_ | ((first | refine go_op rfl ?_ | refine go_nil ?_ | refine go_call [2] (hc) rfl rfl rfl rfl ?_ | refine go_idx rfl rfl rfl rfl (by omega) hr rfl ?_) <;> conv => whnf) | ((first | refine go_loadB ?_ | refine ⟨by kernel_rfl, ?_⟩ | refine go_ret ?_) <;> conv => whnf) | ((first | refine go_skip ?_) <;> conv => whnf) | refine ⟨rfl, ?_⟩ | ((first | refine ⟨trivial, ?_⟩ | refine ⟨le_of_ble rfl, ?_⟩) <;> conv => whnf) | fail
  all_goals first
    | exact ret_box1 rfl rfl rfl rfl rfl rfl
    | trace_state

def dgs : List UInt8 := [48, 49, 50, 51, 52, 53, 54, 55, 56, 57]
def dig1 (n : Nat) : List UInt8 := (dgs.drop n).take (n + 1 - n)
theorem dig1_len : ∀ n, n < 10 → (dig1 n).length = 1 := by decide
theorem c34 (n : Nat) (h10 : n < 10) : CallOk Try.prog 34 [.imm (.int .i64 (n : Int))] { res := [.imm (.str (ofL (dig1 n)))] } := by
  refine callOk_of tyOk Try.func34 rfl rfl (le_of_ble rfl) (le_of_ble rfl) (mutOk_imm rfl _) ?_
  have hw1 : IntKind.i64.wrap ((n : Int) + 1) = ((n + 1 : Nat) : Int) := by rw [wrap_small (by omega) (by omega)]; omega
  repeat' first | refine go_seq ?_ | refine go_region ?_ | refine go_draw drawsOk ?_ | ((first | refine go_op rfl ?_ | refine go_nil ?_ | refine go_dop rfl ?_ | refine go_dend (by kernel_rfl) ?_ | refine go_sliceL (l := dgs) n (n + 1) rfl rfl rfl (by show some _ = _; rw [hw1]) (by omega) (by show n + 1 ≤ 10; omega) ?_) <;> conv => whnf) | ((first | refine ⟨by kernel_rfl, ?_⟩ | refine go_ret ?_) <;> conv => whnf) | ((first | refine go_skip ?_) <;> conv => whnf) | refine go_true rfl ?_ | refine go_false rfl ?_ | refine go_cond rfl (fun h => ?_) (fun h => ?_) | refine ⟨rfl, ?_⟩ | ((first | refine ⟨trivial, ?_⟩ | refine ⟨le_of_ble rfl, ?_⟩) <;> conv => whnf) | fail
  all_goals first
    | (exfalso; simp at h; omega)
    | exact ret_imm rfl rfl rfl rfl rfl rfl
    | trace_state

theorem rev_at {xs : List Int} {p : Nat} {x : Int} (h : xs[p]? = some x) : (xs.drop p).reverse = (xs.drop (p + 1)).reverse ++ [x] := by
  obtain ⟨hlt, e⟩ := List.getElem?_eq_some_iff.1 h
  rw [List.drop_eq_getElem_cons hlt, e, List.reverse_cons]
theorem c43 (xs : List Int) (hl : xs.length ≤ 1048576) : CallOk Try.prog 43 [.imm (.list (xs.map intRow))] { res := [.imm (.list (xs.reverse.map intRow))] } := by
  refine callOk_of tyOk Try.func43 rfl rfl (le_of_ble rfl) (le_of_ble rfl) (mutOk_imm rfl _) ?_
  have hw0 : AV.imm (.int .i64 (IntKind.i64.wrap (((xs.map intRow).length : Int) - 1))) = .imm (.int .i64 (((xs.length : Nat) : Int) - 1)) := by rw [List.length_map, wrap_small (by omega) (by omega)]
  repeat' first | refine go_seq ?_ | refine go_region ?_ | ((first | refine go_op rfl ?_ | refine go_nil ?_) <;> conv => whnf) | ((first | refine go_loadB ?_ | refine ⟨by kernel_rfl, ?_⟩ | refine go_ret ?_) <;> conv => whnf) | refine go_block ?_ | ((first | refine go_skip ?_ | refine go_exit ?_) <;> conv => whnf) | refine go_true rfl ?_ | refine go_false rfl ?_ | refine go_cond rfl (fun h => ?_) (fun h => ?_) | refine ⟨rfl, ?_⟩ | ((first | refine ⟨trivial, ?_⟩ | refine ⟨le_of_ble rfl, ?_⟩) <;> conv => whnf) | fail
  refine go_loop (α := Nat) (fun p => p ≤ xs.length) (fun p => p)
    (fun p => st Try.f43.ntmps [(0, .imm (.list (xs.map intRow))), (3, .own 1001 0 ((xs.drop p).reverse.map intRow).length), (4, .imm (.int .i64 (((p : Nat) : Int) - 1)))]
      [(1001, .arr 3 1 ((xs.drop p).reverse.map intRow))] []) xs.length (Nat.le_refl _) ?_ ?_
  · refine ref_st (fun _ => nid 2 5) rfl ⟨rfl, ⟨?_, rfl⟩, hw0, trivial⟩ ⟨?_, trivial⟩ (by simp [nid]) rfl (by simp)
    · show AV.own _ _ _ = AV.own _ _ _
      rw [List.drop_length]; rfl
    · show some _ = some _
      rw [List.drop_length]; rfl
  intro p hp
  by_cases hgo : 0 < p
  · obtain ⟨q, rfl⟩ : ∃ q, p = q + 1 := ⟨p - 1, by omega⟩
    obtain ⟨x, hx⟩ : ∃ x, xs[q]? = some x := ⟨_, List.getElem?_eq_getElem (by omega)⟩
    have e1 : ((q + 1 : Nat) : Int) - 1 = ((q : Nat) : Int) := by omega
    have e2 : AV.imm (.int .i64 (IntKind.i64.wrap (((q + 1 : Nat) : Int) - 1 - 1))) = .imm (.int .i64 (((q : Nat) : Int) - 1)) := by rw [wrap_small (by omega) (by omega), e1]
    have hr4 : (xs.map intRow)[(((q + 1 : Nat) : Int) - 1).toNat]? = some (intRow x) := by rw [e1]; exact row_at intRow hx
    have hbd : ((xs.drop (q + 1)).reverse.map intRow).length + 1 ≤ 1073741824 := by simp; omega
    repeat' first | refine go_seq ?_ | refine go_region ?_ | ((first | refine go_op rfl ?_ | refine go_nil ?_ | refine go_idx rfl rfl rfl rfl (by omega) hr4 rfl ?_ | refine go_append (rows2 := [intRow x]) rfl rfl rfl rfl rfl rfl rfl rfl rfl rfl rfl rfl rfl rfl rfl rfl hbd ?_) <;> conv => whnf) | ((first | refine go_loadB ?_ | refine ⟨by kernel_rfl, ?_⟩ | refine go_ret ?_) <;> conv => whnf) | refine go_block ?_ | ((first | refine go_skip ?_ | refine go_exit ?_) <;> conv => whnf) | refine go_true rfl ?_ | refine go_false rfl ?_ | refine go_cond rfl (fun h => ?_) (fun h => ?_) | refine ⟨rfl, ?_⟩ | ((first | refine ⟨trivial, ?_⟩ | refine ⟨le_of_ble rfl, ?_⟩) <;> conv => whnf) | fail
    all_goals first
      | (exfalso; simp only [decide_eq_false_iff_not] at *; omega)
      | skip
    refine go_next q (by show q ≤ _; omega) (by show q < q + 1; omega) (ref_st (fun y => if y = 1001 then nid 3 19 else y) rfl ⟨rfl, ⟨?_, rfl⟩, e2, trivial⟩ ⟨?_, trivial⟩ (by simp [nid]) rfl (by simp))
    · show AV.own _ _ _ = AV.own _ _ ((xs.drop q).reverse.map intRow).length
      rw [rev_at hx, List.map_append, List.length_append]; rfl
    · show some _ = some (O.arr _ _ ((xs.drop q).reverse.map intRow))
      rw [rev_at hx, List.map_append]; rfl
  · have hpe : p = 0 := by omega
    subst hpe
    repeat' first | refine go_seq ?_ | refine go_region ?_ | ((first | refine go_op rfl ?_ | refine go_nil ?_) <;> conv => whnf) | ((first | refine go_loadB ?_ | refine ⟨by kernel_rfl, ?_⟩ | refine go_ret ?_) <;> conv => whnf) | refine go_block ?_ | ((first | refine go_skip ?_ | refine go_exit ?_) <;> conv => whnf) | refine go_true rfl ?_ | refine go_false rfl ?_ | refine go_cond rfl (fun h => ?_) (fun h => ?_) | refine ⟨rfl, ?_⟩ | ((first | refine ⟨trivial, ?_⟩ | refine ⟨le_of_ble rfl, ?_⟩) <;> conv => whnf) | fail
    all_goals first
      | (exfalso; simp at h; done)
      | exact ret_own rfl rfl rfl rfl rfl (List.take_of_length_le (by simp)) (int_gr _)
      | (exfalso; simp only [decide_eq_true_eq] at *; omega)
      | trace_state
end Go.Proofs.Yteoiohkdhdpkoaa

