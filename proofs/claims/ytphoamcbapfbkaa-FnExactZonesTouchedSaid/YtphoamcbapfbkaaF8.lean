/- ZonesTouched, walked. -/
import Derived.Test.YtphoamcbapfbkaaF5
namespace Go.Proofs.Ytphoamcbapfbkaa
open Go Go.Am
set_option maxRecDepth 100000
set_option maxHeartbeats 4000000
attribute [local irreducible] amOps amC opCall opIndexAddr opPick retQ opMake opStore amDraw opAppend opLoad opNilCmp opIndex opSlice

def ztOk (n : Network) (zs : List Int) (line a b : Int) : Bool := zonesOk n zs && partOk n line a b
def ztR (n : Network) (zs : List Int) (line a b : Int) : List Int := if ztOk n zs line a b then zmem (zadd 0 (partZ n zs line a b)) else []
theorem ztR_len (n : Network) (zs : List Int) (line a b : Int) : (ztR n zs line a b).length ≤ 1048576 := by
  unfold ztR
  split
  · exact Nat.le_trans (zmem_le _) (by omega)
  · simp

theorem c11 (n : Network) (hf : n.fit) (zs : List Int) (hzl : zs.length ≤ 1048576) (line a b : Int) : CallOk Try.prog 11 [.imm (.agg n.enc), .imm (.list (zs.map intRow)), .imm (.int .i64 line), .imm (.int .i64 a), .imm (.int .i64 b)] { res := [.arr 3 1 ((ztR n zs line a b).map intRow), .imm (.bool (ztOk n zs line a b))] } := by
  refine callOk_of tyOk Try.func11 rfl rfl (le_of_ble rfl) (le_of_ble rfl) (mutOk_imm rfl _) ?_
  have h0 := c45 n hf zs hzl
  have h1 := c46 n line a b
  unfold ztR
  cases hp : ztOk n zs line a b with
  | false =>
    unfold ztOk at hp
    cases hz : zonesOk n zs <;> rw [hz] at h0 hp <;>
    (
    repeat' first | refine go_seq ?_ | refine go_region ?_ | refine go_miss rfl rfl rfl ?_ | refine go_undef rfl rfl rfl ?_ | ((first | refine go_op rfl ?_ | refine go_nil ?_ | refine go_hit rfl rfl rfl ?_ | refine go_splitT rfl rfl rfl (fun h => ?_) (fun h => ?_) | refine go_splitF rfl rfl rfl (fun h => ?_) (fun h => ?_) | refine go_pickT rfl ?_ | refine go_pickF rfl ?_ | refine go_pick rfl (fun h => ?_) (fun h => ?_) | refine go_call [] (h0) rfl rfl rfl rfl ?_ | refine go_call [] (h1) rfl rfl rfl rfl ?_) <;> conv => whnf) | ((first | refine go_loadB ?_ | refine ⟨by kernel_rfl, ?_⟩ | refine go_ret ?_) <;> conv => whnf) | refine go_block ?_ | ((first | refine go_skip ?_ | refine go_exit ?_) <;> conv => whnf) | refine go_true rfl ?_ | refine go_false rfl ?_ | refine go_cond rfl (fun h => ?_) (fun h => ?_) | refine ⟨rfl, ?_⟩ | ((first | refine ⟨trivial, ?_⟩ | refine ⟨le_of_ble rfl, ?_⟩) <;> conv => whnf) | fail
    all_goals first
      | exact ret_arr2 rfl rfl rfl rfl rfl rfl (by intro r hr; cases hr) rfl rfl rfl
      | (exfalso; simp_all; done)
      | trace_state
    )
  | true =>
    have hp' := hp
    unfold ztOk at hp
    simp only [Bool.and_eq_true] at hp
    obtain ⟨hz, hpl⟩ := hp
    have ht := c47 n zs hz hf line a b hpl
    rw [hz] at h0
    rw [hpl] at h1
    rw [if_pos rfl]
    have hm := zadd_lt (partZ n zs line a b) 0 (by omega) (partZ_in hz line a b)
    have hev := zadd_even (partZ n zs line a b) 0 rfl (partZ_in hz line a b)
    generalize zadd 0 (partZ n zs line a b) = m at *
    repeat' first | refine go_seq ?_ | refine go_region ?_ | refine go_miss rfl rfl rfl ?_ | refine go_undef rfl rfl rfl ?_ | ((first | refine go_op rfl ?_ | refine go_nil ?_ | refine go_hit rfl rfl rfl ?_ | refine go_splitT rfl rfl rfl (fun h => ?_) (fun h => ?_) | refine go_splitF rfl rfl rfl (fun h => ?_) (fun h => ?_) | refine go_pickT rfl ?_ | refine go_pickF rfl ?_ | refine go_pick rfl (fun h => ?_) (fun h => ?_) | refine go_call [] (h0) rfl rfl rfl rfl ?_ | refine go_call [] (h1) rfl rfl rfl rfl ?_ | refine go_call [] (ht) rfl rfl rfl rfl ?_) <;> conv => whnf) | ((first | refine go_loadB ?_ | refine ⟨by kernel_rfl, ?_⟩ | refine go_ret ?_) <;> conv => whnf) | refine go_block ?_ | ((first | refine go_skip ?_ | refine go_exit ?_) <;> conv => whnf) | refine go_true rfl ?_ | refine go_false rfl ?_ | refine go_cond rfl (fun h => ?_) (fun h => ?_) | refine ⟨rfl, ?_⟩ | ((first | refine ⟨trivial, ?_⟩ | refine ⟨le_of_ble rfl, ?_⟩) <;> conv => whnf) | fail
    refine go_loop (α := Nat) (fun z => 1 ≤ z ∧ z ≤ 10) (fun z => 10 - z)
      (fun z => st Try.f11.ntmps [(12, .imm (.int .i64 ((m : Nat) : Int))), (13, .own 1000 0 ((zlow m z).map intRow).length), (14, .imm (.int .i64 (z : Nat)))] [(1000, .arr 3 1 ((zlow m z).map intRow))] []) 1 ⟨by omega, by omega⟩ ?_ ?_
    · refine ref_st (fun _ => nid 4 13) rfl ⟨rfl, ⟨?_, rfl⟩, rfl, trivial⟩ ⟨?_, trivial⟩ (by simp) rfl (by simp)
      · show AV.own _ _ _ = AV.own _ _ _
        rw [zlow_one hev]
        rfl
      · show some _ = some _
        rw [zlow_one hev]
        rfl
    rintro z ⟨hz1, hz2⟩
    have hz0 : (0 : Int) ≤ (z : Nat) := by omega
    by_cases hz10 : z < 10
    · have hb := shr_zone hm hz10
      have hn := zlow_next m z
      have hle := zlow_len m z
      have hone := int_one [(z : Int)]
      have hbd : ((zlow m z).map intRow).length + 1 ≤ 1073741824 := by rw [List.length_map]; omega
      cases ht : m.testBit z with
      | true =>
        rw [ht, if_pos rfl] at hn
        rw [ht, if_pos rfl] at hb
        have hdec : decide (bits .and .i64 ((m : Int).fdiv (2 ^ (min z 64))) 1 = 1) = true := by rw [hb]; rfl
        repeat' first | refine go_seq ?_ | refine go_region ?_ | refine go_miss rfl rfl rfl ?_ | refine go_undef rfl rfl rfl ?_ | ((first | refine go_op rfl ?_ | refine go_nil ?_ | refine go_hit rfl rfl rfl ?_ | refine go_splitT rfl rfl rfl (fun h => ?_) (fun h => ?_) | refine go_splitF rfl rfl rfl (fun h => ?_) (fun h => ?_) | refine go_pickT rfl ?_ | refine go_pickF rfl ?_ | refine go_pick rfl (fun h => ?_) (fun h => ?_) | refine ⟨hz0, ?_⟩ | refine go_append (rows2 := [(z : Int)].map intRow) rfl rfl rfl rfl rfl rfl rfl rfl rfl rfl rfl rfl hone rfl rfl rfl hbd ?_) <;> conv => whnf) | ((first | refine go_loadB ?_ | refine ⟨by kernel_rfl, ?_⟩ | refine go_ret ?_) <;> conv => whnf) | refine go_block ?_ | ((first | refine go_skip ?_ | refine go_exit ?_) <;> conv => whnf) | refine go_true rfl ?_ | refine go_false rfl ?_ | refine go_cond rfl (fun h => ?_) (fun h => ?_) | refine ⟨rfl, ?_⟩ | ((first | refine ⟨trivial, ?_⟩ | refine ⟨le_of_ble rfl, ?_⟩) <;> conv => whnf) | fail
        all_goals first
          | (refine go_next (z + 1) ⟨by omega, by omega⟩ (by omega) (ref_st (fun _ => nid 4 45) rfl ⟨rfl, ⟨?_, rfl⟩, next_i (by omega), trivial⟩ ⟨?_, trivial⟩ (by simp) rfl (by simp))
             · show AV.own _ _ _ = AV.own _ _ _
               rw [hn, List.map_append, List.length_append]; rfl
             · show some _ = some _
               rw [hn, List.map_append]; rfl
             done)
          | (exfalso; have h' : decide (bits .and .i64 ((m : Int).fdiv (2 ^ (min z 64))) 1 = 1) = false := h; rw [hdec] at h'; cases h'; done)
          | (exfalso; simp at h; omega)
          | trace_state
      | false =>
        rw [ht] at hn hb
        simp only [Bool.false_eq_true, if_false, List.append_nil] at hn hb
        repeat' first | refine go_seq ?_ | refine go_region ?_ | refine go_miss rfl rfl rfl ?_ | refine go_undef rfl rfl rfl ?_ | ((first | refine go_op rfl ?_ | refine go_nil ?_ | refine go_hit rfl rfl rfl ?_ | refine go_splitT rfl rfl rfl (fun h => ?_) (fun h => ?_) | refine go_splitF rfl rfl rfl (fun h => ?_) (fun h => ?_) | refine go_pickT rfl ?_ | refine go_pickF rfl ?_ | refine go_pick rfl (fun h => ?_) (fun h => ?_) | refine ⟨hz0, ?_⟩ | refine go_append (rows2 := [(z : Int)].map intRow) rfl rfl rfl rfl rfl rfl rfl rfl rfl rfl rfl rfl hone rfl rfl rfl hbd ?_) <;> conv => whnf) | ((first | refine go_loadB ?_ | refine ⟨by kernel_rfl, ?_⟩ | refine go_ret ?_) <;> conv => whnf) | refine go_block ?_ | ((first | refine go_skip ?_ | refine go_exit ?_) <;> conv => whnf) | refine go_true rfl ?_ | refine go_false rfl ?_ | refine go_cond rfl (fun h => ?_) (fun h => ?_) | refine ⟨rfl, ?_⟩ | ((first | refine ⟨trivial, ?_⟩ | refine ⟨le_of_ble rfl, ?_⟩) <;> conv => whnf) | fail
        all_goals first
          | (refine go_next (z + 1) ⟨by omega, by omega⟩ (by omega) (ref_st id rfl ⟨rfl, ⟨?_, rfl⟩, next_i (by omega), trivial⟩ ⟨?_, trivial⟩ (by simp) rfl (by simp))
             · show AV.own _ _ _ = AV.own _ _ _
               rw [hn]; try rfl
             · show some _ = some _
               rw [hn]; try rfl
             done)
          | (exfalso; have h' := of_decide_eq_true h; have h2 : bits .and .i64 ((m : Int).fdiv (2 ^ (min z 64))) 1 = 1 := h'; rw [hb] at h2; cases h2; done)
          | (exfalso; simp at h; omega)
          | trace_state
    · have hz' : z = 10 := by omega
      subst hz'
      repeat' first | refine go_seq ?_ | refine go_region ?_ | refine go_miss rfl rfl rfl ?_ | refine go_undef rfl rfl rfl ?_ | ((first | refine go_op rfl ?_ | refine go_nil ?_ | refine go_hit rfl rfl rfl ?_ | refine go_splitT rfl rfl rfl (fun h => ?_) (fun h => ?_) | refine go_splitF rfl rfl rfl (fun h => ?_) (fun h => ?_) | refine go_pickT rfl ?_ | refine go_pickF rfl ?_ | refine go_pick rfl (fun h => ?_) (fun h => ?_)) <;> conv => whnf) | ((first | refine go_loadB ?_ | refine ⟨by kernel_rfl, ?_⟩ | refine go_ret ?_) <;> conv => whnf) | refine go_block ?_ | ((first | refine go_skip ?_ | refine go_exit ?_) <;> conv => whnf) | refine go_true rfl ?_ | refine go_false rfl ?_ | refine go_cond rfl (fun h => ?_) (fun h => ?_) | refine ⟨rfl, ?_⟩ | ((first | refine ⟨trivial, ?_⟩ | refine ⟨le_of_ble rfl, ?_⟩) <;> conv => whnf) | fail
      all_goals first
        | exact ret_arr2 rfl rfl rfl rfl rfl (by rw [List.drop_zero, List.take_length]; rfl) (int_gr _) rfl rfl rfl
        | (exfalso; simp at h; done)
        | trace_state

theorem c8 (n : Network) (hf : n.fit) (zs : List Int) (hzl : zs.length ≤ 1048576) (line a b : Int) : CallOk Try.prog 8 [.imm (.agg n.enc), .imm (.list (zs.map intRow)), .imm (.int .i64 line), .imm (.int .i64 a), .imm (.int .i64 b)] { res := [.imm (.list ((ztR n zs line a b).map intRow)), .imm (.bool (ztOk n zs line a b))], sep := false } := by
  refine callOk_of tyOk Try.func8 rfl rfl (le_of_ble rfl) (le_of_ble rfl) (mutOk_imm rfl _) ?_
  have h0 := c41 n hf zs hzl
  cases hz : zonesOk n zs with
  | false =>
    have hp : ztOk n zs line a b = false := by unfold ztOk; rw [hz]; rfl
    have hr : ztR n zs line a b = [] := by unfold ztR; rw [hp]; rfl
    rw [hz] at h0
    rw [hp, hr]
    repeat' first | refine go_seq ?_ | refine go_region ?_ | ((first | refine go_op rfl ?_ | refine go_nil ?_ | refine go_call [] (h0) rfl rfl rfl rfl ?_) <;> conv => whnf) | ((first | refine go_loadB ?_ | refine ⟨by kernel_rfl, ?_⟩ | refine go_ret ?_) <;> conv => whnf) | ((first | refine go_skip ?_) <;> conv => whnf) | refine go_true rfl ?_ | refine go_false rfl ?_ | refine go_cond rfl (fun h => ?_) (fun h => ?_) | refine ⟨rfl, ?_⟩ | ((first | refine ⟨trivial, ?_⟩ | refine ⟨le_of_ble rfl, ?_⟩) <;> conv => whnf) | fail
    all_goals first
      | exact ret_own2N rfl rfl rfl rfl rfl rfl rfl rfl
      | trace_state
  | true =>
    have hp : ztOk n zs line a b = partOk n line a b := by unfold ztOk; rw [hz]; rfl
    have hz0 : zmem 0 = [] := by decide
    have ht := c42 n zs hz hf 0 (by omega) line a b
    rw [hz0] at ht
    have hr : ztR n zs line a b = if partOk n line a b then zmem (zadd 0 (partZ n zs line a b)) else [] := by unfold ztR; rw [hp]
    rw [hz] at h0
    rw [hp, hr]
    repeat' first | refine go_seq ?_ | refine go_region ?_ | ((first | refine go_op rfl ?_ | refine go_nil ?_ | refine go_call [] (h0) rfl rfl rfl rfl ?_ | refine go_call [0, 0, 1] (ht) rfl rfl rfl rfl ?_) <;> conv => whnf) | ((first | refine go_loadB ?_ | refine ⟨by kernel_rfl, ?_⟩ | refine go_ret ?_) <;> conv => whnf) | ((first | refine go_skip ?_) <;> conv => whnf) | refine go_true rfl ?_ | refine go_false rfl ?_ | refine go_cond rfl (fun h => ?_) (fun h => ?_) | refine ⟨rfl, ?_⟩ | ((first | refine ⟨trivial, ?_⟩ | refine ⟨le_of_ble rfl, ?_⟩) <;> conv => whnf) | fail
    all_goals first
      | exact ret_imm2N rfl rfl rfl rfl rfl rfl rfl
      | trace_state
end Go.Proofs.Ytphoamcbapfbkaa

