/- The walks of whole logs read. -/
import Derived.Test.YtnndgejlkljlaaaDoorD3
namespace Go.Proofs.YtnndgejlkljlaaaDoor
open Go Go.Am Go.Lg
set_option maxRecDepth 100000
set_option maxHeartbeats 4000000
attribute [local irreducible] amOps amC opCall opIndexAddr opPick retQ opMake opStore amDraw opAppend opLoad opNilCmp opIndex opSlice

def recRow (x : Rec × Nat) : List D := x.1.enc
def recsTo (L : List (Rec × Nat)) (j : Nat) : List (List D) := (L.take j).map recRow
def endsTo (L : List (Rec × Nat)) (j : Nat) : List (List D) := (List.range (j + 1)).map fun i => intRow (upTo L i : Nat)
theorem recs_len {L : List (Rec × Nat)} {j : Nat} (h : j ≤ L.length) : (recsTo L j).length = j := by simp [recsTo]; omega
theorem ends_len (L : List (Rec × Nat)) (j : Nat) : (endsTo L j).length = j + 1 := by simp [endsTo]
theorem ends_at (L : List (Rec × Nat)) {i j : Nat} (h : i ≤ j) : (endsTo L j)[i]? = some (intRow (upTo L i : Nat)) := by
  unfold endsTo
  rw [List.getElem?_map, List.getElem?_range (by omega)]
  rfl
theorem recs_next {L : List (Rec × Nat)} {j : Nat} {x : Rec × Nat} (h : L[j]? = some x) : recsTo L (j + 1) = recsTo L j ++ [x.1.enc] := by
  unfold recsTo
  rw [List.take_add_one, h]
  simp [recRow]
theorem ends_next {L : List (Rec × Nat)} {j : Nat} : endsTo L (j + 1) = endsTo L j ++ [intRow (upTo L (j + 1) : Nat)] := by
  unfold endsTo
  rw [List.range_succ, List.map_append]
  rfl
theorem recs_gr (L : List (Rec × Nat)) (j : Nat) : ∀ r ∈ recsTo L j, r.all D.gr = true := by
  intro r hr
  obtain ⟨v, _, rfl⟩ := List.mem_map.1 hr
  rfl
theorem ends_gr (L : List (Rec × Nat)) (j : Nat) : ∀ r ∈ endsTo L j, r.all D.gr = true := by
  intro r hr
  obtain ⟨v, _, rfl⟩ := List.mem_map.1 hr
  rfl
theorem recs_all (L : List (Rec × Nat)) : recsTo L L.length = L.map recRow := by simp [recsTo]

theorem c13 (s : List UInt8) (hl : s.length ≤ 4611686018427387000) : CallOk Tryd.prog 13 [.imm (.str (ofL s))]
    { res := [.arr 42 2 (recsTo (opn s) (opn s).length), .imm (.list (endsTo (opn s) (opn s).length))] } := by
  refine callOk_of tyOk Tryd.func13 rfl rfl (le_of_ble rfl) (le_of_ble rfl) (mutOk_imm rfl _) ?_
  have hL := opn_len s
  have hat := fun j => opn_upTo s j
  have hdec := fun j h => dec_at (s := s) (j := j) h
  generalize opn s = L at *
  repeat' first | refine go_seq ?_ | refine go_region ?_ | ((first | refine go_op rfl ?_ | refine go_nil ?_ | refine go_storeBox rfl rfl rfl rfl rfl rfl ?_) <;> conv => whnf) | ((first | refine go_loadB ?_ | refine ⟨by kernel_rfl, ?_⟩ | refine go_ret ?_) <;> conv => whnf) | refine go_block ?_ | ((first | refine go_skip ?_ | refine go_exit ?_) <;> conv => whnf) | refine go_true rfl ?_ | refine go_false rfl ?_ | refine go_cond rfl (fun h => ?_) (fun h => ?_) | refine ⟨rfl, ?_⟩ | ((first | refine ⟨trivial, ?_⟩ | refine ⟨le_of_ble rfl, ?_⟩) <;> conv => whnf) | fail
  refine go_loop (α := Nat) (fun j => j ≤ L.length) (fun j => L.length - j)
    (fun j => st Tryd.f13.ntmps [(0, .imm (.str (ofL s))), (4, .own 1000 0 (recsTo L j).length), (5, .own 1001 0 (endsTo L j).length)]
      [(1000, .arr 42 2 (recsTo L j)), (1001, .arr 3 1 (endsTo L j))] []) 0 (Nat.zero_le _) ?_ ?_
  · refine ref_st (fun k => if k = 1000 then nid 2 4 else nid 3 10) rfl ⟨rfl, ⟨rfl, rfl⟩, ⟨rfl, rfl⟩, trivial⟩ ⟨rfl, ?_, trivial⟩ (by simp [nid]) rfl (by simp)
    rw [show endsTo L 0 = [intRow 0] by simp [endsTo, upTo_zero]]
    rfl
  · intro j hj
    have hlen := recs_len hj
    have hel := ends_len L j
    have hxr : (endsTo L j)[(recsTo L j).length]? = some (intRow (upTo L j : Nat)) := by rw [hlen]; exact ends_at L (Nat.le_refl _)
    have ha := hat j
    have e : (s.drop (upTo L j)).take (s.length - upTo L j) = s.drop (upTo L j) := List.take_of_length_le (by simp)
    have hc : CallOk Tryd.prog 16 [.imm (.int .i64 ((recsTo L j).length : Nat)), .imm (.str (ofL ((s.drop (upTo L j)).take (s.length - upTo L j))))]
        { res := [.imm (.agg (dR L[j]?).enc), .imm (.int .i64 (dN L[j]? : Nat)), .imm (.bool L[j]?.isSome)] } := by
      rw [hlen, e, ← hdec j hj]
      exact c16 j (s.drop (upTo L j)) (by rw [List.length_drop]; omega) (by omega)
    cases hx : L[j]? with
    | none =>
      have hge := le_of_at hx
      have hje : j = L.length := by omega
      rw [hx] at hc
      repeat' first | refine go_seq ?_ | refine go_region ?_ | ((first | refine go_op rfl ?_ | refine go_nil ?_ | refine go_storeBox rfl rfl rfl rfl rfl rfl ?_ | refine go_call [] (hc) rfl rfl rfl rfl ?_ | refine go_idxOwn (i := (recsTo L j).length) rfl rfl rfl rfl rfl rfl (by omega) ?_ | refine go_loadEl (i := (recsTo L j).length) rfl rfl rfl hxr ?_ | refine go_sliceL (upTo L j) s.length rfl rfl rfl rfl (by omega) (by omega) ?_) <;> conv => whnf) | ((first | refine go_loadB ?_ | refine ⟨by kernel_rfl, ?_⟩ | refine go_ret ?_) <;> conv => whnf) | refine go_block ?_ | ((first | refine go_skip ?_ | refine go_exit ?_) <;> conv => whnf) | refine go_true rfl ?_ | refine go_false rfl ?_ | refine go_cond rfl (fun h => ?_) (fun h => ?_) | refine ⟨rfl, ?_⟩ | ((first | refine ⟨trivial, ?_⟩ | refine ⟨le_of_ble rfl, ?_⟩) <;> conv => whnf) | fail
      all_goals
        subst hje
        exact ret_arrown rfl rfl rfl rfl rfl (by rw [List.drop_zero, List.take_length]) (recs_gr _ _) rfl rfl (by rw [List.drop_zero, List.take_length]) (ends_gr _ _) rfl
    | some x =>
      have hlt := lt_of_at hx
      rw [hx] at hc
      have hn : IntKind.i64.wrap ((upTo L j : Nat) + (x.2 : Int)) = ((upTo L (j + 1) : Nat) : Int) := by
        have := hat (j + 1)
        rw [upTo_next hx] at this ⊢
        rw [wrap_small (by omega) (by omega)]
        omega
      repeat' first | refine go_seq ?_ | refine go_region ?_ | ((first | refine go_op rfl ?_ | refine go_nil ?_ | refine go_storeBox rfl rfl rfl rfl rfl rfl ?_ | refine go_call [] (hc) rfl rfl rfl rfl ?_ | refine go_idxOwn (i := (recsTo L j).length) rfl rfl rfl rfl rfl rfl (by omega) ?_ | refine go_loadEl (i := (recsTo L j).length) rfl rfl rfl hxr ?_ | refine go_sliceL (upTo L j) s.length rfl rfl rfl rfl (by omega) (by omega) ?_ | refine go_append (rows2 := [x.1.enc]) rfl rfl rfl rfl rfl rfl rfl rfl rfl rfl rfl rfl rfl rfl rfl rfl (by omega) ?_ | refine go_append (rows2 := [[.int .i64 (IntKind.i64.wrap ((upTo L j : Nat) + (x.2 : Int)))]]) rfl rfl rfl rfl rfl rfl rfl rfl rfl rfl rfl rfl rfl rfl rfl rfl (by omega) ?_) <;> conv => whnf) | ((first | refine go_loadB ?_ | refine ⟨by kernel_rfl, ?_⟩ | refine go_ret ?_) <;> conv => whnf) | refine go_block ?_ | ((first | refine go_skip ?_ | refine go_exit ?_) <;> conv => whnf) | refine go_true rfl ?_ | refine go_false rfl ?_ | refine go_cond rfl (fun h => ?_) (fun h => ?_) | refine ⟨rfl, ?_⟩ | ((first | refine ⟨trivial, ?_⟩ | refine ⟨le_of_ble rfl, ?_⟩) <;> conv => whnf) | fail
      all_goals
        refine go_next (j + 1) (by omega) (by omega) (ref_st (fun k => if k = 1000 then nid 5 33 else nid 5 39) rfl ⟨rfl, ⟨?_, rfl⟩, ⟨?_, rfl⟩, trivial⟩ ⟨?_, ?_, trivial⟩ (by simp [nid]) rfl (by simp))
        · show AV.own _ _ _ = AV.own _ _ _
          rw [recs_next hx, List.length_append]; rfl
        · show AV.own _ _ _ = AV.own _ _ _
          rw [ends_next, List.length_append]; rfl
        · show some _ = some _
          rw [recs_next hx]; rfl
        · show some _ = some _
          rw [ends_next, ← hn]; rfl
end Go.Proofs.YtnndgejlkljlaaaDoor

