/- The walks of the reference's readers of logs. -/
import Derived.Test.YtnndgejlkljlaaaDoorD4
namespace Go.Proofs.YtnndgejlkljlaaaDoor
open Go Go.Am Go.Lg
set_option maxRecDepth 100000
set_option maxHeartbeats 4000000
attribute [local irreducible] amOps amC opCall opIndexAddr opPick retQ opMake opStore amDraw opAppend opLoad opNilCmp opIndex opSlice

def strRow (l : List UInt8) : List D := [.str (ofL l)]
theorem str_gr (xs : List (List UInt8)) : ∀ r ∈ xs.map strRow, r.all D.gr = true := by
  intro r hr
  obtain ⟨v, _, rfl⟩ := List.mem_map.1 hr
  rfl
def partsTo (c : UInt8) (s : List UInt8) (i : Nat) : List (List D) := (splAt c s i).1.map strRow
theorem parts_len (c : UInt8) (s : List UInt8) : ∀ i, (splAt c s i).1.length ≤ i
  | 0 => by simp [splAt]
  | i + 1 => by
    have ih := parts_len c s i
    cases hx : s[i]? with
    | none =>
      have : splAt c s (i + 1) = splAt c s i := by
        unfold splAt
        rw [List.take_add_one, hx]; simp
      rw [this]; omega
    | some b =>
      rw [spl_next hx]
      unfold spl1
      split
      · simp; omega
      · simp; omega
theorem part_eq {c : UInt8} {s : List UInt8} {i : Nat} (h : i ≤ s.length) : (s.drop (i - (splAt c s i).2.length)).take (i - (i - (splAt c s i).2.length)) = (splAt c s i).2 := by
  have := (spl_len c s i h).2
  rw [List.drop_take] at this
  exact this.symm

theorem c14 (s : List UInt8) (c : UInt8) (hl : s.length ≤ 1073741000) : CallOk Tryd.prog 14 [.imm (.str (ofL s)), .imm (.int .u8 (c.toNat : Int))]
    { res := [.imm (.list ((split c s).map strRow))] } := by
  refine callOk_of tyOk Tryd.func14 rfl rfl (le_of_ble rfl) (le_of_ble rfl) (mutOk_imm rfl _) ?_
  have hsz := ofL_size s
  have hpl := parts_len c s
  repeat' first | refine go_seq ?_ | refine go_region ?_ | ((first | refine go_op rfl ?_ | refine go_nil ?_) <;> conv => whnf) | ((first | refine ⟨by kernel_rfl, ?_⟩ | refine go_ret ?_) <;> conv => whnf) | refine go_block ?_ | ((first | refine go_skip ?_ | refine go_exit ?_) <;> conv => whnf) | refine go_true rfl ?_ | refine go_false rfl ?_ | refine go_cond rfl (fun h => ?_) (fun h => ?_) | refine ⟨rfl, ?_⟩ | ((first | refine ⟨trivial, ?_⟩ | refine ⟨le_of_ble rfl, ?_⟩) <;> conv => whnf) | fail
  refine go_loop (α := Nat) (fun i => i ≤ s.length) (fun i => s.length - i)
    (fun i => st Tryd.f14.ntmps [(0, .imm (.str (ofL s))), (1, .imm (.int .u8 (c.toNat : Int))), (5, .own 1000 0 (partsTo c s i).length), (6, .imm (.int .i64 ((i - (splAt c s i).2.length : Nat) : Int))), (7, .imm (.int .i64 (i : Nat)))]
      [(1000, .arr 9 1 (partsTo c s i))] []) 0 (Nat.zero_le _) ?_ ?_
  · exact ref_st (fun _ => nid 2 8) rfl ⟨rfl, rfl, ⟨rfl, rfl⟩, rfl, rfl, trivial⟩ ⟨rfl, trivial⟩ (by simp) rfl (by simp)
  · intro i hi
    have hle := hpl i
    have hlen : (partsTo c s i).length = (splAt c s i).1.length := by simp [partsTo]
    have hpe := part_eq (c := c) hi
    cases hx : s[i]? with
    | none =>
      have hge := le_of_at hx
      have hie : i = s.length := by omega
      subst hie
      have hpe2 : (s.drop (s.length - (splAt c s s.length).2.length)).take (s.length - (s.length - (splAt c s s.length).2.length)) = (splAt c s s.length).2 := hpe
      have hres : ((partsTo c s s.length ++ [[D.str (ofL ((s.drop (s.length - (splAt c s s.length).2.length)).take (s.length - (s.length - (splAt c s s.length).2.length))))]]).drop 0).take ((partsTo c s s.length).length + 1) = (split c s).map strRow := by
        rw [List.drop_zero, List.take_of_length_le (by simp), hpe2]
        simp [split, partsTo, strRow]
      repeat' first | refine go_seq ?_ | refine go_region ?_ | ((first | refine go_op rfl ?_ | refine go_nil ?_ | refine go_sliceL (s.length - (splAt c s s.length).2.length) s.length rfl rfl rfl rfl (by omega) (by omega) ?_ | refine go_append (rows2 := [[.str (ofL ((s.drop (s.length - (splAt c s s.length).2.length)).take (s.length - (s.length - (splAt c s s.length).2.length))))]]) rfl rfl rfl rfl rfl rfl rfl rfl rfl rfl rfl rfl rfl rfl rfl rfl (by omega) ?_) <;> conv => whnf) | ((first | refine ⟨by kernel_rfl, ?_⟩ | refine go_ret ?_) <;> conv => whnf) | refine go_block ?_ | ((first | refine go_skip ?_ | refine go_exit ?_) <;> conv => whnf) | refine go_true rfl ?_ | refine go_false rfl ?_ | refine go_cond rfl (fun h => ?_) (fun h => ?_) | refine ⟨rfl, ?_⟩ | ((first | refine ⟨trivial, ?_⟩ | refine ⟨le_of_ble rfl, ?_⟩) <;> conv => whnf) | fail
      all_goals first
        | (exfalso; simp at h; omega)
        | exact ret_own rfl rfl rfl rfl rfl hres (str_gr _)
        | trace_state
    | some b =>
      have hlt := lt_of_at hx
      have hb := byteL hx
      have hbc : ((b.toNat : Int) = (c.toNat : Int)) ↔ b = c := ⟨fun h => UInt8.toNat_inj.1 (by omega), fun h => by rw [h]⟩
      have hnx := spl_next (c := c) hx
      repeat' first | refine go_seq ?_ | refine go_region ?_ | ((first | refine go_op rfl ?_ | refine go_nil ?_ | refine go_idxStr rfl rfl rfl (by omega) hb ?_ | refine go_sliceL (i - (splAt c s i).2.length) i rfl rfl rfl rfl (by omega) (by omega) ?_ | refine go_append (rows2 := [[.str (ofL ((s.drop (i - (splAt c s i).2.length)).take (i - (i - (splAt c s i).2.length))))]]) rfl rfl rfl rfl rfl rfl rfl rfl rfl rfl rfl rfl rfl rfl rfl rfl (by omega) ?_) <;> conv => whnf) | ((first | refine ⟨by kernel_rfl, ?_⟩ | refine go_ret ?_) <;> conv => whnf) | refine go_block ?_ | ((first | refine go_skip ?_ | refine go_exit ?_) <;> conv => whnf) | refine go_true rfl ?_ | refine go_false rfl ?_ | refine go_cond rfl (fun h => ?_) (fun h => ?_) | refine ⟨rfl, ?_⟩ | ((first | refine ⟨trivial, ?_⟩ | refine ⟨le_of_ble rfl, ?_⟩) <;> conv => whnf) | fail
      all_goals first
        | (exfalso; simp at h; omega)
        | (have hbc' : b = c := hbc.1 (by simpa using h)
           have hs : splAt c s (i + 1) = ((splAt c s i).1 ++ [(splAt c s i).2], []) := by rw [hnx]; unfold spl1; rw [if_pos hbc']
           have hp : partsTo c s (i + 1) = partsTo c s i ++ [[.str (ofL (splAt c s i).2)]] := by unfold partsTo; rw [hs]; simp [strRow]
           refine go_next (i + 1) (by omega) (by omega) (ref_st (fun _ => nid 4 26) rfl ⟨rfl, rfl, ⟨?_, rfl⟩, ?_, next_i (by omega), trivial⟩ ⟨?_, trivial⟩ (by simp) rfl (by simp))
           · show AV.own _ _ _ = AV.own _ _ _
             rw [hp, List.length_append]; rfl
           · rw [hs]
             exact next_i (by omega)
           · show some _ = some _
             rw [hp, hpe]; rfl)
        | (have hbc' : b ≠ c := fun e => by simp [hbc, e] at h
           have hs : splAt c s (i + 1) = ((splAt c s i).1, (splAt c s i).2 ++ [b]) := by rw [hnx]; unfold spl1; rw [if_neg hbc']
           have hp : partsTo c s (i + 1) = partsTo c s i := by unfold partsTo; rw [hs]
           have hf : i + 1 - (splAt c s (i + 1)).2.length = i - (splAt c s i).2.length := by rw [hs]; simp
           refine go_next (i + 1) (by omega) (by omega) ?_
           rw [hp, hf]
           exact ref_st id rfl ⟨rfl, rfl, ⟨rfl, rfl⟩, rfl, next_i (by omega), trivial⟩ ⟨rfl, trivial⟩ (by simp) rfl (by simp))
        | trace_state
end Go.Proofs.YtnndgejlkljlaaaDoor

