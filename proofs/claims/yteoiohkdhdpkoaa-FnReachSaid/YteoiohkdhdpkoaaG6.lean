/- The walks of the reference's stops, of fewest lines and of a line's time. -/
import Derived.Test.YteoiohkdhdpkoaaG5
namespace Go.Proofs.Yteoiohkdhdpkoaa
open Go Go.Am
set_option maxRecDepth 100000
set_option maxHeartbeats 16000000
attribute [local irreducible] amOps amC opCall opIndexAddr opPick retQ opMake opStore amDraw opAppend opLoad opNilCmp opIndex opSlice xQ

theorem c7 (n : Network) (hf : n.fit) (s : Int) : CallOk Try.prog 7 [.imm (.agg n.enc), .imm (.int .i64 s)] { res := [.imm (.list ((rsL n s).map intRow)), .imm (.bool (rsB n s))], sep := false } := by
  rw [← rsL_same]
  refine callOk_of tyOk Try.func7 rfl rfl (le_of_ble rfl) (le_of_ble rfl) (mutOk_imm rfl _) ?_
  have hS := c16 n hf s
  unfold rsL'
  have hBe : (netOk n && isSt n s) = rsB n s := rfl
  rw [hBe] at hS
  by_cases hok : rsB n s = true
  · rw [hok] at hS ⊢
    rw [← hBe, Bool.and_eq_true] at hok
    obtain ⟨⟨h1, h2⟩, _, h3⟩ := netOk_facts hok.1
    obtain ⟨k, rfl, hk⟩ := isSt_nat hok.2
    rw [if_pos rfl, Int.toNat_natCast]
    have hR := c17 n k hf (fun l hl => (h3 l hl).1) (by omega) hk
    have a := ridS_ok (ls := n.lines) (f := k) (N := n.stops.length) (fun l hl => (h3 l hl).1) (by omega) hk
    have hol := a.1
    generalize ridS n.lines n.stops.length k = o at *
    unfold reL
    have el : (o.map intRow).length = o.length := List.length_map _
    repeat' first | refine go_seq ?_ | refine go_region ?_ | ((first | refine go_op rfl ?_ | refine go_nil ?_ | refine go_call [] (hS) rfl rfl rfl rfl ?_ | refine go_call [] (hR) rfl rfl rfl rfl ?_) <;> conv => whnf) | ((first | refine go_loadB ?_ | refine ⟨by kernel_rfl, ?_⟩ | refine go_ret ?_) <;> conv => whnf) | refine go_block ?_ | ((first | refine go_skip ?_ | refine go_exit ?_) <;> conv => whnf) | refine go_true rfl ?_ | refine go_false rfl ?_ | refine go_cond rfl (fun h => ?_) (fun h => ?_) | refine ⟨rfl, ?_⟩ | ((first | refine ⟨trivial, ?_⟩ | refine ⟨le_of_ble rfl, ?_⟩) <;> conv => whnf) | fail
    all_goals first
      | (exfalso; simp at h; done)
      | skip
    refine go_loop (α := Nat) (fun i => i ≤ o.length) (fun i => o.length - i)
      (fun i => st Try.f7.ntmps [(6, .own 1000 0 ((reU o i).map intRow).length), (7, .imm (.list (o.map intRow))), (8, .imm (.int .i64 (i : Nat)))]
        [(1000, .arr 3 1 ((reU o i).map intRow))] []) 0 (Nat.zero_le _) ?_ ?_
    · exact ref_st (fun _ => nid 2 9) rfl ⟨⟨rfl, rfl⟩, rfl, rfl, trivial⟩ ⟨rfl, trivial⟩ (by simp [nid]) rfl (by simp)
    intro i hi
    cases hx : o[i]? with
    | none =>
      have hge := le_of_at hx
      have hie : i = o.length := by omega
      subst hie
      repeat' first | refine go_seq ?_ | refine go_region ?_ | ((first | refine go_op rfl ?_ | refine go_nil ?_) <;> conv => whnf) | ((first | refine go_loadB ?_ | refine ⟨by kernel_rfl, ?_⟩ | refine go_ret ?_) <;> conv => whnf) | refine go_block ?_ | ((first | refine go_skip ?_ | refine go_exit ?_) <;> conv => whnf) | refine go_true rfl ?_ | refine go_false rfl ?_ | refine go_cond rfl (fun h => ?_) (fun h => ?_) | refine ⟨rfl, ?_⟩ | ((first | refine ⟨trivial, ?_⟩ | refine ⟨le_of_ble rfl, ?_⟩) <;> conv => whnf) | fail
      all_goals first
        | (exfalso; simp only [decide_eq_true_eq, List.length_map] at *; omega)
        | exact ret_own2 rfl rfl rfl rfl rfl (by first | rfl | rw [List.drop_zero, List.take_length]) (int_gr _) rfl rfl rfl
        | trace_state
    | some d =>
      have hlt := lt_of_at hx
      have hd : oN o i = d := by have := oN_at hlt; rw [hx] at this; injection this with this; exact this.symm
      have hr := row_at intRow hx
      have hbd : ((reU o i).map intRow).length + 1 ≤ 1073741824 := by rw [List.length_map]; have := reU_len o i; omega
      by_cases hp : 0 ≤ d
      · have e : (reU o (i + 1)).map intRow = (reU o i).map intRow ++ [intRow (i : Nat)] := by rw [reU, if_pos (by omega), List.map_append]; rfl
        repeat' first | refine go_seq ?_ | refine go_region ?_ | ((first | refine go_op rfl ?_ | refine go_nil ?_ | refine go_idx rfl rfl rfl rfl (by omega) hr rfl ?_ | refine go_append (rows2 := [intRow (i : Nat)]) rfl rfl rfl rfl rfl rfl rfl rfl rfl rfl rfl rfl rfl rfl rfl rfl hbd ?_) <;> conv => whnf) | ((first | refine go_loadB ?_ | refine ⟨by kernel_rfl, ?_⟩ | refine go_ret ?_) <;> conv => whnf) | refine go_block ?_ | ((first | refine go_skip ?_ | refine go_exit ?_) <;> conv => whnf) | refine go_true rfl ?_ | refine go_false rfl ?_ | refine go_cond rfl (fun h => ?_) (fun h => ?_) | refine ⟨rfl, ?_⟩ | ((first | refine ⟨trivial, ?_⟩ | refine ⟨le_of_ble rfl, ?_⟩) <;> conv => whnf) | fail
        all_goals first
          | (exfalso; simp only [decide_eq_true_eq, decide_eq_false_iff_not, List.length_map] at *; omega)
          | skip
        refine go_next (i + 1) (by show i + 1 ≤ _; omega) (by show _ - (i + 1) < _ - i; omega) (ref_st (fun y => if y = 1000 then nid 4 32 else y) rfl ⟨⟨?_, rfl⟩, rfl, next_i (by omega), trivial⟩ ⟨?_, trivial⟩ (by simp [nid]) rfl (by simp [lookM]))
        · show AV.own _ _ _ = AV.own _ _ ((reU o (i + 1)).map intRow).length
          rw [e, List.length_append]; rfl
        · show some _ = some (O.arr _ _ ((reU o (i + 1)).map intRow))
          rw [e]; rfl
      · have e : reU o (i + 1) = reU o i := by rw [reU, if_neg (by omega)]
        repeat' first | refine go_seq ?_ | refine go_region ?_ | ((first | refine go_op rfl ?_ | refine go_nil ?_ | refine go_idx rfl rfl rfl rfl (by omega) hr rfl ?_) <;> conv => whnf) | ((first | refine go_loadB ?_ | refine ⟨by kernel_rfl, ?_⟩ | refine go_ret ?_) <;> conv => whnf) | refine go_block ?_ | ((first | refine go_skip ?_ | refine go_exit ?_) <;> conv => whnf) | refine go_true rfl ?_ | refine go_false rfl ?_ | refine go_cond rfl (fun h => ?_) (fun h => ?_) | refine ⟨rfl, ?_⟩ | ((first | refine ⟨trivial, ?_⟩ | refine ⟨le_of_ble rfl, ?_⟩) <;> conv => whnf) | fail
        all_goals first
          | (exfalso; simp only [decide_eq_true_eq, decide_eq_false_iff_not, List.length_map] at *; omega)
          | skip
        refine go_next (i + 1) (by show i + 1 ≤ _; omega) (by show _ - (i + 1) < _ - i; omega) (ref_st id rfl ⟨⟨?_, rfl⟩, rfl, next_i (by omega), trivial⟩ ⟨?_, trivial⟩ (by simp) rfl (by simp))
        · show AV.own _ _ _ = AV.own _ _ ((reU o (i + 1)).map intRow).length
          rw [e]; rfl
        · show some _ = some (O.arr _ _ ((reU o (i + 1)).map intRow))
          rw [e]
  · have hok : rsB n s = false := by simpa using hok
    rw [hok] at hS ⊢
    repeat' first | refine go_seq ?_ | refine go_region ?_ | ((first | refine go_op rfl ?_ | refine go_nil ?_ | refine go_call [] (hS) rfl rfl rfl rfl ?_) <;> conv => whnf) | ((first | refine go_loadB ?_ | refine ⟨by kernel_rfl, ?_⟩ | refine go_ret ?_) <;> conv => whnf) | refine go_block ?_ | ((first | refine go_skip ?_ | refine go_exit ?_) <;> conv => whnf) | refine go_true rfl ?_ | refine go_false rfl ?_ | refine go_cond rfl (fun h => ?_) (fun h => ?_) | refine ⟨rfl, ?_⟩ | ((first | refine ⟨trivial, ?_⟩ | refine ⟨le_of_ble rfl, ?_⟩) <;> conv => whnf) | fail
    all_goals first
      | exact ret_own2 rfl rfl rfl rfl rfl rfl (by intro x hx; cases hx) rfl rfl rfl
      | (exfalso; simp at h; done)
      | trace_state

/-- The fewest lines between two stops. -/
def flB (n : Network) (s t : Int) : Bool := rsB n s && isSt n t && decide (0 ≤ oN (ridB n.lines n.stops.length s.toNat) t.toNat)
def flV (n : Network) (s t : Int) : Int := if flB n s t then oN (ridB n.lines n.stops.length s.toNat) t.toNat else 0
theorem c9 (n : Network) (hf : n.fit) (s t : Int) : CallOk Try.prog 9 [.imm (.agg n.enc), .imm (.int .i64 s), .imm (.int .i64 t)] { res := [.imm (.int .i64 (flV n s t)), .imm (.bool (flB n s t))] } := by
  refine callOk_of tyOk Try.func9 rfl rfl (le_of_ble rfl) (le_of_ble rfl) (mutOk_imm rfl _) ?_
  have hV := c13 n hf
  have hS := c14 n s
  have hT := c14 n t
  have hSe : inR s 0 ((n.stops.length : Int) - 1) = isSt n s := rfl
  have hTe : inR t 0 ((n.stops.length : Int) - 1) = isSt n t := rfl
  rw [hSe] at hS
  rw [hTe] at hT
  unfold flV flB rsB
  cases hv : netOk n with
  | false =>
    rw [hv] at hV
    repeat' first | refine go_seq ?_ | refine go_region ?_ | refine go_miss rfl rfl rfl ?_ | refine go_undef rfl rfl rfl ?_ | ((first | refine go_op rfl ?_ | refine go_nil ?_ | refine go_hit rfl rfl rfl ?_ | refine go_splitT rfl rfl rfl (fun h => ?_) (fun h => ?_) | refine go_splitF rfl rfl rfl (fun h => ?_) (fun h => ?_) | refine go_pickT rfl ?_ | refine go_pickF rfl ?_ | refine go_pick rfl (fun h => ?_) (fun h => ?_) | refine go_call [] (hV) rfl rfl rfl rfl ?_ | refine go_call [] (hS) rfl rfl rfl rfl ?_ | refine go_call [] (hT) rfl rfl rfl rfl ?_) <;> conv => whnf) | ((first | refine go_loadB ?_ | refine ⟨by kernel_rfl, ?_⟩ | refine go_ret ?_) <;> conv => whnf) | ((first | refine go_skip ?_) <;> conv => whnf) | refine go_true rfl ?_ | refine go_false rfl ?_ | refine go_cond rfl (fun h => ?_) (fun h => ?_) | refine ⟨rfl, ?_⟩ | ((first | refine ⟨trivial, ?_⟩ | refine ⟨le_of_ble rfl, ?_⟩) <;> conv => whnf) | fail
    all_goals first
      | exact ret_all rfl ⟨ret1_imm rfl rfl, ret1_imm rfl rfl, trivial⟩ List.nodup_nil List.nodup_nil trivial
      | (exfalso; simp at h; done)
      | trace_state
  | true =>
    rw [hv] at hV
    cases hs : isSt n s with
    | false =>
      rw [hs] at hS
      repeat' first | refine go_seq ?_ | refine go_region ?_ | refine go_miss rfl rfl rfl ?_ | refine go_undef rfl rfl rfl ?_ | ((first | refine go_op rfl ?_ | refine go_nil ?_ | refine go_hit rfl rfl rfl ?_ | refine go_splitT rfl rfl rfl (fun h => ?_) (fun h => ?_) | refine go_splitF rfl rfl rfl (fun h => ?_) (fun h => ?_) | refine go_pickT rfl ?_ | refine go_pickF rfl ?_ | refine go_pick rfl (fun h => ?_) (fun h => ?_) | refine go_call [] (hV) rfl rfl rfl rfl ?_ | refine go_call [] (hS) rfl rfl rfl rfl ?_ | refine go_call [] (hT) rfl rfl rfl rfl ?_) <;> conv => whnf) | ((first | refine go_loadB ?_ | refine ⟨by kernel_rfl, ?_⟩ | refine go_ret ?_) <;> conv => whnf) | ((first | refine go_skip ?_) <;> conv => whnf) | refine go_true rfl ?_ | refine go_false rfl ?_ | refine go_cond rfl (fun h => ?_) (fun h => ?_) | refine ⟨rfl, ?_⟩ | ((first | refine ⟨trivial, ?_⟩ | refine ⟨le_of_ble rfl, ?_⟩) <;> conv => whnf) | fail
      all_goals first
        | exact ret_all rfl ⟨ret1_imm rfl rfl, ret1_imm rfl rfl, trivial⟩ List.nodup_nil List.nodup_nil trivial
        | (exfalso; simp at h; done)
        | trace_state
    | true =>
      rw [hs] at hS
      cases ht : isSt n t with
      | false =>
        rw [ht] at hT
        repeat' first | refine go_seq ?_ | refine go_region ?_ | refine go_miss rfl rfl rfl ?_ | refine go_undef rfl rfl rfl ?_ | ((first | refine go_op rfl ?_ | refine go_nil ?_ | refine go_hit rfl rfl rfl ?_ | refine go_splitT rfl rfl rfl (fun h => ?_) (fun h => ?_) | refine go_splitF rfl rfl rfl (fun h => ?_) (fun h => ?_) | refine go_pickT rfl ?_ | refine go_pickF rfl ?_ | refine go_pick rfl (fun h => ?_) (fun h => ?_) | refine go_call [] (hV) rfl rfl rfl rfl ?_ | refine go_call [] (hS) rfl rfl rfl rfl ?_ | refine go_call [] (hT) rfl rfl rfl rfl ?_) <;> conv => whnf) | ((first | refine go_loadB ?_ | refine ⟨by kernel_rfl, ?_⟩ | refine go_ret ?_) <;> conv => whnf) | ((first | refine go_skip ?_) <;> conv => whnf) | refine go_true rfl ?_ | refine go_false rfl ?_ | refine go_cond rfl (fun h => ?_) (fun h => ?_) | refine ⟨rfl, ?_⟩ | ((first | refine ⟨trivial, ?_⟩ | refine ⟨le_of_ble rfl, ?_⟩) <;> conv => whnf) | fail
        all_goals first
          | exact ret_all rfl ⟨ret1_imm rfl rfl, ret1_imm rfl rfl, trivial⟩ List.nodup_nil List.nodup_nil trivial
          | (exfalso; simp at h; done)
          | trace_state
      | true =>
        rw [ht] at hT
        obtain ⟨⟨h1, h2⟩, _, h3⟩ := netOk_facts hv
        obtain ⟨k, rfl, hk⟩ := isSt_nat hs
        obtain ⟨j, rfl, hj⟩ := isSt_nat ht
        have hR := c15 n k hf (fun l hl => (h3 l hl).1) (by omega) hk
        have a := ridB_ok (ls := n.lines) (f := k) (N := n.stops.length) (fun l hl => (h3 l hl).1) (by omega) hk
        rw [Int.toNat_natCast, Int.toNat_natCast]
        have hol := a.len
        generalize ridB n.lines n.stops.length k = o at *
        have hr := row_at intRow (oN_at (o := o) (k := j) (by omega))
        have hF := c18 (oN o j)
        simp only [Bool.true_and]
        generalize oN o j = v at *
        repeat' first | refine go_seq ?_ | refine go_region ?_ | refine go_miss rfl rfl rfl ?_ | refine go_undef rfl rfl rfl ?_ | ((first | refine go_op rfl ?_ | refine go_nil ?_ | refine go_hit rfl rfl rfl ?_ | refine go_splitT rfl rfl rfl (fun h => ?_) (fun h => ?_) | refine go_splitF rfl rfl rfl (fun h => ?_) (fun h => ?_) | refine go_pickT rfl ?_ | refine go_pickF rfl ?_ | refine go_pick rfl (fun h => ?_) (fun h => ?_) | refine go_call [] (hV) rfl rfl rfl rfl ?_ | refine go_call [] (hS) rfl rfl rfl rfl ?_ | refine go_call [] (hT) rfl rfl rfl rfl ?_ | refine go_call [] (hR) rfl rfl rfl rfl ?_ | refine go_call [] (hF) rfl rfl rfl rfl ?_ | refine go_idx rfl rfl rfl rfl (by omega) hr rfl ?_) <;> conv => whnf) | ((first | refine go_loadB ?_ | refine ⟨by kernel_rfl, ?_⟩ | refine go_ret ?_) <;> conv => whnf) | ((first | refine go_skip ?_) <;> conv => whnf) | refine go_true rfl ?_ | refine go_false rfl ?_ | refine go_cond rfl (fun h => ?_) (fun h => ?_) | refine ⟨rfl, ?_⟩ | ((first | refine ⟨trivial, ?_⟩ | refine ⟨le_of_ble rfl, ?_⟩) <;> conv => whnf) | fail
        all_goals first
          | (exfalso; simp at h; done)
          | (refine ret_all rfl ⟨ret1_imm ?_ rfl, ret1_imm rfl rfl, trivial⟩ List.nodup_nil List.nodup_nil trivial
             by_cases h0 : 0 ≤ v
             · rw [if_neg (by omega), if_pos (by simpa using h0)]
             · rw [if_pos (by omega), if_neg (by simpa using h0)])
          | trace_state

/-- A line's time between two stops. -/
def rtG (n : Network) (li s t : Int) : Bool := netOk n && inR li 0 ((n.lines.length : Int) - 1) && isSt n s && isSt n t
def rtL (n : Network) (li : Int) : Line := n.lines.getD li.toNat ⟨ByteArray.empty, [], []⟩
def rtB (n : Network) (li s t : Int) : Bool := rtG n li s t && decide (0 ≤ rtV (rtL n li) s t)
def rtR (n : Network) (li s t : Int) : Int := if rtB n li s t then rtV (rtL n li) s t else 0
theorem c11 (n : Network) (hf : n.fit) (li s t : Int) : CallOk Try.prog 11 [.imm (.agg n.enc), .imm (.int .i64 li), .imm (.int .i64 s), .imm (.int .i64 t)] { res := [.imm (.int .i64 (rtR n li s t)), .imm (.bool (rtB n li s t))] } := by
  refine callOk_of tyOk Try.func11 rfl rfl (le_of_ble rfl) (le_of_ble rfl) (mutOk_imm rfl _) ?_
  have hV := c13 n hf
  have hL := c19 n li
  have hS := c14 n s
  have hT := c14 n t
  have hSe : inR s 0 ((n.stops.length : Int) - 1) = isSt n s := rfl
  have hTe : inR t 0 ((n.stops.length : Int) - 1) = isSt n t := rfl
  rw [hSe] at hS
  rw [hTe] at hT
  unfold rtR rtB rtG
  cases hv : netOk n with
  | false =>
    rw [hv] at hV
    repeat' first | refine go_seq ?_ | refine go_region ?_ | refine go_miss rfl rfl rfl ?_ | refine go_undef rfl rfl rfl ?_ | ((first | refine go_op rfl ?_ | refine go_nil ?_ | refine go_hit rfl rfl rfl ?_ | refine go_splitT rfl rfl rfl (fun h => ?_) (fun h => ?_) | refine go_splitF rfl rfl rfl (fun h => ?_) (fun h => ?_) | refine go_pickT rfl ?_ | refine go_pickF rfl ?_ | refine go_pick rfl (fun h => ?_) (fun h => ?_) | refine go_call [] (hV) rfl rfl rfl rfl ?_ | refine go_call [] (hL) rfl rfl rfl rfl ?_ | refine go_call [] (hS) rfl rfl rfl rfl ?_ | refine go_call [] (hT) rfl rfl rfl rfl ?_) <;> conv => whnf) | ((first | refine go_loadB ?_ | refine ⟨by kernel_rfl, ?_⟩ | refine go_ret ?_) <;> conv => whnf) | ((first | refine go_skip ?_) <;> conv => whnf) | refine go_true rfl ?_ | refine go_false rfl ?_ | refine go_cond rfl (fun h => ?_) (fun h => ?_) | refine ⟨rfl, ?_⟩ | ((first | refine ⟨trivial, ?_⟩ | refine ⟨le_of_ble rfl, ?_⟩) <;> conv => whnf) | fail
    all_goals first
      | exact ret_all rfl ⟨ret1_imm rfl rfl, ret1_imm rfl rfl, trivial⟩ List.nodup_nil List.nodup_nil trivial
      | (exfalso; simp at h; done)
      | trace_state
  | true =>
    rw [hv] at hV
    cases hl : inR li 0 ((n.lines.length : Int) - 1) with
    | false =>
      rw [hl] at hL
      repeat' first | refine go_seq ?_ | refine go_region ?_ | refine go_miss rfl rfl rfl ?_ | refine go_undef rfl rfl rfl ?_ | ((first | refine go_op rfl ?_ | refine go_nil ?_ | refine go_hit rfl rfl rfl ?_ | refine go_splitT rfl rfl rfl (fun h => ?_) (fun h => ?_) | refine go_splitF rfl rfl rfl (fun h => ?_) (fun h => ?_) | refine go_pickT rfl ?_ | refine go_pickF rfl ?_ | refine go_pick rfl (fun h => ?_) (fun h => ?_) | refine go_call [] (hV) rfl rfl rfl rfl ?_ | refine go_call [] (hL) rfl rfl rfl rfl ?_ | refine go_call [] (hS) rfl rfl rfl rfl ?_ | refine go_call [] (hT) rfl rfl rfl rfl ?_) <;> conv => whnf) | ((first | refine go_loadB ?_ | refine ⟨by kernel_rfl, ?_⟩ | refine go_ret ?_) <;> conv => whnf) | ((first | refine go_skip ?_) <;> conv => whnf) | refine go_true rfl ?_ | refine go_false rfl ?_ | refine go_cond rfl (fun h => ?_) (fun h => ?_) | refine ⟨rfl, ?_⟩ | ((first | refine ⟨trivial, ?_⟩ | refine ⟨le_of_ble rfl, ?_⟩) <;> conv => whnf) | fail
      all_goals first
        | exact ret_all rfl ⟨ret1_imm rfl rfl, ret1_imm rfl rfl, trivial⟩ List.nodup_nil List.nodup_nil trivial
        | (exfalso; simp at h; done)
        | trace_state
    | true =>
      rw [hl] at hL
      cases hs : isSt n s with
      | false =>
        rw [hs] at hS
        repeat' first | refine go_seq ?_ | refine go_region ?_ | refine go_miss rfl rfl rfl ?_ | refine go_undef rfl rfl rfl ?_ | ((first | refine go_op rfl ?_ | refine go_nil ?_ | refine go_hit rfl rfl rfl ?_ | refine go_splitT rfl rfl rfl (fun h => ?_) (fun h => ?_) | refine go_splitF rfl rfl rfl (fun h => ?_) (fun h => ?_) | refine go_pickT rfl ?_ | refine go_pickF rfl ?_ | refine go_pick rfl (fun h => ?_) (fun h => ?_) | refine go_call [] (hV) rfl rfl rfl rfl ?_ | refine go_call [] (hL) rfl rfl rfl rfl ?_ | refine go_call [] (hS) rfl rfl rfl rfl ?_ | refine go_call [] (hT) rfl rfl rfl rfl ?_) <;> conv => whnf) | ((first | refine go_loadB ?_ | refine ⟨by kernel_rfl, ?_⟩ | refine go_ret ?_) <;> conv => whnf) | ((first | refine go_skip ?_) <;> conv => whnf) | refine go_true rfl ?_ | refine go_false rfl ?_ | refine go_cond rfl (fun h => ?_) (fun h => ?_) | refine ⟨rfl, ?_⟩ | ((first | refine ⟨trivial, ?_⟩ | refine ⟨le_of_ble rfl, ?_⟩) <;> conv => whnf) | fail
        all_goals first
          | exact ret_all rfl ⟨ret1_imm rfl rfl, ret1_imm rfl rfl, trivial⟩ List.nodup_nil List.nodup_nil trivial
          | (exfalso; simp at h; done)
          | trace_state
      | true =>
        rw [hs] at hS
        cases ht : isSt n t with
        | false =>
          rw [ht] at hT
          repeat' first | refine go_seq ?_ | refine go_region ?_ | refine go_miss rfl rfl rfl ?_ | refine go_undef rfl rfl rfl ?_ | ((first | refine go_op rfl ?_ | refine go_nil ?_ | refine go_hit rfl rfl rfl ?_ | refine go_splitT rfl rfl rfl (fun h => ?_) (fun h => ?_) | refine go_splitF rfl rfl rfl (fun h => ?_) (fun h => ?_) | refine go_pickT rfl ?_ | refine go_pickF rfl ?_ | refine go_pick rfl (fun h => ?_) (fun h => ?_) | refine go_call [] (hV) rfl rfl rfl rfl ?_ | refine go_call [] (hL) rfl rfl rfl rfl ?_ | refine go_call [] (hS) rfl rfl rfl rfl ?_ | refine go_call [] (hT) rfl rfl rfl rfl ?_) <;> conv => whnf) | ((first | refine go_loadB ?_ | refine ⟨by kernel_rfl, ?_⟩ | refine go_ret ?_) <;> conv => whnf) | ((first | refine go_skip ?_) <;> conv => whnf) | refine go_true rfl ?_ | refine go_false rfl ?_ | refine go_cond rfl (fun h => ?_) (fun h => ?_) | refine ⟨rfl, ?_⟩ | ((first | refine ⟨trivial, ?_⟩ | refine ⟨le_of_ble rfl, ?_⟩) <;> conv => whnf) | fail
          all_goals first
            | exact ret_all rfl ⟨ret1_imm rfl rfl, ret1_imm rfl rfl, trivial⟩ List.nodup_nil List.nodup_nil trivial
            | (exfalso; simp at h; done)
            | trace_state
        | true =>
          rw [ht] at hT
          obtain ⟨_, _, h3⟩ := netOk_facts hv
          rw [inR_iff] at hl
          obtain ⟨j, rfl⟩ := Int.eq_ofNat_of_zero_le hl.1
          obtain ⟨l, hlj⟩ : ∃ l, n.lines[j]? = some l := ⟨_, List.getElem?_eq_getElem (by omega)⟩
          have e : rtL n (j : Int) = l := by unfold rtL; rw [Int.toNat_natCast, List.getD_eq_getElem?_getD, hlj]; rfl
          rw [e]
          obtain ⟨_, ⟨h5, h6⟩, _⟩ := h3 l (List.mem_of_getElem? hlj)
          have hR := c20 l (by omega) h6 s t
          have hF := c18 (rtV l s t)
          have hr := row_at Line.enc hlj
          simp only [Bool.true_and]
          generalize rtV l s t = v at *
          repeat' first | refine go_seq ?_ | refine go_region ?_ | refine go_miss rfl rfl rfl ?_ | refine go_undef rfl rfl rfl ?_ | ((first | refine go_op rfl ?_ | refine go_nil ?_ | refine go_hit rfl rfl rfl ?_ | refine go_splitT rfl rfl rfl (fun h => ?_) (fun h => ?_) | refine go_splitF rfl rfl rfl (fun h => ?_) (fun h => ?_) | refine go_pickT rfl ?_ | refine go_pickF rfl ?_ | refine go_pick rfl (fun h => ?_) (fun h => ?_) | refine go_call [] (hV) rfl rfl rfl rfl ?_ | refine go_call [] (hL) rfl rfl rfl rfl ?_ | refine go_call [] (hS) rfl rfl rfl rfl ?_ | refine go_call [] (hT) rfl rfl rfl rfl ?_ | refine go_call [] (hR) rfl rfl rfl rfl ?_ | refine go_call [] (hF) rfl rfl rfl rfl ?_ | refine go_idx rfl rfl rfl rfl (by omega) hr rfl ?_) <;> conv => whnf) | ((first | refine go_loadB ?_ | refine ⟨by kernel_rfl, ?_⟩ | refine go_ret ?_) <;> conv => whnf) | ((first | refine go_skip ?_) <;> conv => whnf) | refine go_true rfl ?_ | refine go_false rfl ?_ | refine go_cond rfl (fun h => ?_) (fun h => ?_) | refine ⟨rfl, ?_⟩ | ((first | refine ⟨trivial, ?_⟩ | refine ⟨le_of_ble rfl, ?_⟩) <;> conv => whnf) | fail
          all_goals first
            | (exfalso; simp at h; done)
            | (refine ret_all rfl ⟨ret1_imm ?_ rfl, ret1_imm rfl rfl, trivial⟩ List.nodup_nil List.nodup_nil trivial
               by_cases h0 : 0 ≤ v
               · rw [if_neg (by omega), if_pos (by simpa using h0)]
               · rw [if_pos (by omega), if_neg (by simpa using h0)])
            | trace_state
end Go.Proofs.Yteoiohkdhdpkoaa

