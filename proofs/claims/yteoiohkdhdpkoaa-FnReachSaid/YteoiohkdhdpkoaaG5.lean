/- The walks of what is asked: stops reached, fewest lines, a line's time. -/
import Derived.Test.YteoiohkdhdpkoaaG4
namespace Go.Am
open Go
/-- A result that is an array given up, and data. -/
theorem ret_own2 {T : TypeId → Option TI} {fn : Func} {ins : List In} {r1 r2 : ResultVar} {id off len ty sz : Nat} {rows rows' : List (List D)} {d d' : D} {sp : Bool} {σ : S} (hr : fn.results.toList = [r1, r2]) (hm : mutIdx ins = []) (hp : σ.pm = []) (hv : retAV T σ r1 = .own id off len)
    (hmm : σ.m id = some (.arr ty sz rows')) (hd : (rows'.drop off).take len = rows) (hg : ∀ x ∈ rows, x.all D.gr = true) (hv2 : retAV T σ r2 = .imm d') (hd2 : d' = d) (hg2 : d.gr' = true) :
    retQ T fn ins { res := [.imm (.list rows), .imm d], sep := sp } .ret σ := by
  refine ret_all (avs := [.own id off len, .imm d']) (by rw [hr]; simp only [List.map_cons, List.map_nil, hv, hv2]) ⟨ret1_own' hmm hd hg (by rw [hp]; simp), ret1_imm hd2 hg2, trivial⟩ (by simp [ownIds]) (by rw [hp]; exact List.nodup_nil) (by rw [hm, hp]; trivial)
end Go.Am
namespace Go.Proofs.Yteoiohkdhdpkoaa
open Go Go.Am
set_option maxRecDepth 100000
set_option maxHeartbeats 16000000
attribute [local irreducible] amOps amC opCall opIndexAddr opPick retQ opMake opStore amDraw opAppend opLoad opNilCmp opIndex opSlice xQ

def isSt (n : Network) (s : Int) : Bool := inR s 0 ((n.stops.length : Int) - 1)
theorem netOk_facts {n : Network} (h : netOk n = true) : (2 ≤ n.stops.length ∧ n.stops.length ≤ 8) ∧ (n.lines.length ≤ 5) ∧ ∀ l ∈ n.lines, LnOk n.stops.length l ∧ (l.stops.length ≤ 6 ∧ l.runs.length + 1 = l.stops.length) ∧ ∀ r ∈ l.runs, 1 ≤ r ∧ r ≤ 60 := by
  unfold netOk at h
  simp only [Bool.and_eq_true] at h
  obtain ⟨⟨⟨⟨h1, h2⟩, _⟩, _⟩, h5⟩ := h
  rw [inR_iff] at h1 h2
  refine ⟨by omega, by omega, fun l hl => ?_⟩
  have h6 := List.all_eq_true.1 h5 l hl
  refine ⟨lnOk_of h6, ?_⟩
  unfold lineOk at h6
  simp only [Bool.and_eq_true, decide_eq_true_eq] at h6
  obtain ⟨⟨⟨h7, h8⟩, _⟩, h9⟩ := h6
  rw [inR_iff] at h7
  refine ⟨by omega, fun r hr => ?_⟩
  have := List.all_eq_true.1 h9 r hr
  rw [inR_iff] at this
  exact this
theorem isSt_nat {n : Network} {s : Int} (h : isSt n s = true) : ∃ k : Nat, s = (k : Nat) ∧ k < n.stops.length := by
  unfold isSt at h
  rw [inR_iff] at h
  exact ⟨s.toNat, by omega, by omega⟩

theorem c16 (n : Network) (hf : n.fit) (s : Int) : CallOk Try.prog 16 [.imm (.agg n.enc), .imm (.int .i64 s)] { res := [.imm (.bool (netOk n && isSt n s))] } := by
  refine callOk_of tyOk Try.func16 rfl rfl (le_of_ble rfl) (le_of_ble rfl) (mutOk_imm rfl _) ?_
  have hG := c28 n hf
  have hw : IntKind.i64.wrap (((n.stops.map strRow).length : Int) - 1) = (n.stops.length : Int) - 1 := by rw [List.length_map, wrap_small (by omega) (by have := hf.1; omega)]
  have hI := c29 s 0 (IntKind.i64.wrap (((n.stops.map strRow).length : Int) - 1))
  unfold isSt
  cases hok : netOk n with
  | false =>
    rw [hok] at hG
    repeat' first | refine go_seq ?_ | refine go_region ?_ | refine go_miss rfl rfl rfl ?_ | refine go_undef rfl rfl rfl ?_ | ((first | refine go_op rfl ?_ | refine go_nil ?_ | refine go_hit rfl rfl rfl ?_ | refine go_splitT rfl rfl rfl (fun h => ?_) (fun h => ?_) | refine go_splitF rfl rfl rfl (fun h => ?_) (fun h => ?_) | refine go_pickT rfl ?_ | refine go_pickF rfl ?_ | refine go_pick rfl (fun h => ?_) (fun h => ?_) | refine go_call [] (hG) rfl rfl rfl rfl ?_ | refine go_call [] (hI) rfl rfl rfl rfl ?_) <;> conv => whnf) | ((first | refine go_loadB ?_ | refine ⟨by kernel_rfl, ?_⟩ | refine go_ret ?_) <;> conv => whnf) | ((first | refine go_skip ?_) <;> conv => whnf) | refine ⟨rfl, ?_⟩ | ((first | refine ⟨trivial, ?_⟩ | refine ⟨le_of_ble rfl, ?_⟩) <;> conv => whnf) | fail
    all_goals first
      | exact ret_imm rfl rfl rfl rfl rfl rfl
      | (exfalso; simp at h; done)
      | trace_state
  | true =>
    rw [hok] at hG
    repeat' first | refine go_seq ?_ | refine go_region ?_ | refine go_miss rfl rfl rfl ?_ | refine go_undef rfl rfl rfl ?_ | ((first | refine go_op rfl ?_ | refine go_nil ?_ | refine go_hit rfl rfl rfl ?_ | refine go_splitT rfl rfl rfl (fun h => ?_) (fun h => ?_) | refine go_splitF rfl rfl rfl (fun h => ?_) (fun h => ?_) | refine go_pickT rfl ?_ | refine go_pickF rfl ?_ | refine go_pick rfl (fun h => ?_) (fun h => ?_) | refine go_call [] (hG) rfl rfl rfl rfl ?_ | refine go_call [] (hI) rfl rfl rfl rfl ?_) <;> conv => whnf) | ((first | refine go_loadB ?_ | refine ⟨by kernel_rfl, ?_⟩ | refine go_ret ?_) <;> conv => whnf) | ((first | refine go_skip ?_) <;> conv => whnf) | refine ⟨rfl, ?_⟩ | ((first | refine ⟨trivial, ?_⟩ | refine ⟨le_of_ble rfl, ?_⟩) <;> conv => whnf) | fail
    all_goals first
      | (refine ret_imm rfl rfl rfl rfl ?_ rfl; rw [hw, Bool.true_and]; done)
      | (exfalso; simp at h; done)
      | trace_state

/-- What is reached, and whether the question is a good one. -/
def rsB (n : Network) (s : Int) : Bool := netOk n && isSt n s
def rsL (n : Network) (s : Int) : List Int := if rsB n s then reL (ridB n.lines n.stops.length s.toNat) else []
def rsL' (n : Network) (s : Int) : List Int := if rsB n s then reL (ridS n.lines n.stops.length s.toNat) else []
theorem rsL_same (n : Network) (s : Int) : rsL' n s = rsL n s := by
  unfold rsL rsL'
  cases h : rsB n s with
  | false => rfl
  | true =>
    rw [if_pos rfl, if_pos rfl]
    unfold rsB at h
    rw [Bool.and_eq_true] at h
    obtain ⟨⟨h1, h2⟩, _, h3⟩ := netOk_facts h.1
    obtain ⟨k, rfl, hk⟩ := isSt_nat h.2
    rw [Int.toNat_natCast]
    have a := ridB_ok (ls := n.lines) (f := k) (N := n.stops.length) (fun l hl => (h3 l hl).1) (by omega) hk
    have b := ridS_ok (ls := n.lines) (f := k) (N := n.stops.length) (fun l hl => (h3 l hl).1) (by omega) hk
    unfold reL
    rw [a.len, b.1]
    exact reU_same (fun y => (b.2 y).trans (a.rch y).symm) _

theorem c6 (n : Network) (hf : n.fit) (s : Int) : CallOk Try.prog 6 [.imm (.agg n.enc), .imm (.int .i64 s)] { res := [.imm (.list ((rsL n s).map intRow)), .imm (.bool (rsB n s))], sep := false } := by
  refine callOk_of tyOk Try.func6 rfl rfl (le_of_ble rfl) (le_of_ble rfl) (mutOk_imm rfl _) ?_
  have hV := c13 n hf
  have hS := c14 n s
  have hSe : inR s 0 ((n.stops.length : Int) - 1) = isSt n s := rfl
  rw [hSe] at hS
  unfold rsL
  have hBe : rsB n s = (netOk n && isSt n s) := rfl
  by_cases hok : rsB n s = true
  · rw [hok]
    rw [hBe, Bool.and_eq_true] at hok
    obtain ⟨⟨h1, h2⟩, _, h3⟩ := netOk_facts hok.1
    rw [hok.1] at hV
    rw [hok.2] at hS
    obtain ⟨k, rfl, hk⟩ := isSt_nat hok.2
    rw [if_pos rfl, Int.toNat_natCast]
    have hR := c15 n k hf (fun l hl => (h3 l hl).1) (by omega) hk
    have a := ridB_ok (ls := n.lines) (f := k) (N := n.stops.length) (fun l hl => (h3 l hl).1) (by omega) hk
    have hol := a.len
    generalize ridB n.lines n.stops.length k = o at *
    unfold reL
    have el : (o.map intRow).length = o.length := List.length_map _
    repeat' first | refine go_seq ?_ | refine go_region ?_ | refine go_miss rfl rfl rfl ?_ | refine go_undef rfl rfl rfl ?_ | ((first | refine go_op rfl ?_ | refine go_nil ?_ | refine go_hit rfl rfl rfl ?_ | refine go_splitT rfl rfl rfl (fun h => ?_) (fun h => ?_) | refine go_splitF rfl rfl rfl (fun h => ?_) (fun h => ?_) | refine go_pickT rfl ?_ | refine go_pickF rfl ?_ | refine go_pick rfl (fun h => ?_) (fun h => ?_) | refine go_call [] (hV) rfl rfl rfl rfl ?_ | refine go_call [] (hS) rfl rfl rfl rfl ?_ | refine go_call [] (hR) rfl rfl rfl rfl ?_) <;> conv => whnf) | ((first | refine go_loadB ?_ | refine ⟨by kernel_rfl, ?_⟩ | refine go_ret ?_) <;> conv => whnf) | refine go_block ?_ | ((first | refine go_skip ?_ | refine go_exit ?_) <;> conv => whnf) | refine go_true rfl ?_ | refine go_false rfl ?_ | refine go_cond rfl (fun h => ?_) (fun h => ?_) | refine ⟨rfl, ?_⟩ | ((first | refine ⟨trivial, ?_⟩ | refine ⟨le_of_ble rfl, ?_⟩) <;> conv => whnf) | fail
    all_goals first
      | (exfalso; simp at h; done)
      | skip
    refine go_loop (α := Nat) (fun i => i ≤ o.length) (fun i => o.length - i)
      (fun i => st Try.f6.ntmps [(6, .own 1000 0 ((reU o i).map intRow).length), (20, .imm (.list (o.map intRow))), (21, .imm (.int .i64 (o.map intRow).length)), (22, .imm (.int .i64 (i : Nat)))]
        [(1000, .arr 3 1 ((reU o i).map intRow))] []) 0 (Nat.zero_le _) ?_ ?_
    · exact ref_st (fun _ => nid 3 6) rfl ⟨⟨rfl, rfl⟩, rfl, rfl, rfl, trivial⟩ ⟨rfl, trivial⟩ (by simp [nid]) rfl (by simp)
    intro i hi
    cases hx : o[i]? with
    | none =>
      have hge := le_of_at hx
      have hie : i = o.length := by omega
      subst hie
      repeat' first | refine go_seq ?_ | refine go_region ?_ | refine go_miss rfl rfl rfl ?_ | refine go_undef rfl rfl rfl ?_ | ((first | refine go_op rfl ?_ | refine go_nil ?_ | refine go_hit rfl rfl rfl ?_ | refine go_splitT rfl rfl rfl (fun h => ?_) (fun h => ?_) | refine go_splitF rfl rfl rfl (fun h => ?_) (fun h => ?_) | refine go_pickT rfl ?_ | refine go_pickF rfl ?_ | refine go_pick rfl (fun h => ?_) (fun h => ?_)) <;> conv => whnf) | ((first | refine go_loadB ?_ | refine ⟨by kernel_rfl, ?_⟩ | refine go_ret ?_) <;> conv => whnf) | refine go_block ?_ | ((first | refine go_skip ?_ | refine go_exit ?_) <;> conv => whnf) | refine go_true rfl ?_ | refine go_false rfl ?_ | refine go_cond rfl (fun h => ?_) (fun h => ?_) | refine ⟨rfl, ?_⟩ | ((first | refine ⟨trivial, ?_⟩ | refine ⟨le_of_ble rfl, ?_⟩) <;> conv => whnf) | fail
      all_goals first
        | (exfalso; simp only [decide_eq_true_eq, List.length_map] at *; omega)
        | exact ret_own2 rfl rfl rfl rfl rfl (by first | rfl | rw [List.drop_zero, List.take_length]) (int_gr _) rfl rfl rfl
        | trace_state
    | some d =>
      have hlt := lt_of_at hx
      have hd : oN o i = d := by have := oN_at hlt; rw [hx] at this; injection this with this; exact this.symm
      have hr := row_at intRow hx
      have hbd : ((reU o i).map intRow).length + 1 ≤ 1073741824 := by rw [List.length_map]; have := reU_len o i; omega
      by_cases hp : 0 ≤ d
      · have e : (reU o (i + 1)).map intRow = (reU o i).map intRow ++ [intRow (i : Nat)] := by rw [reU, if_pos (by omega), List.map_append]; rfl
        repeat' first | refine go_seq ?_ | refine go_region ?_ | refine go_miss rfl rfl rfl ?_ | refine go_undef rfl rfl rfl ?_ | ((first | refine go_op rfl ?_ | refine go_nil ?_ | refine go_hit rfl rfl rfl ?_ | refine go_splitT rfl rfl rfl (fun h => ?_) (fun h => ?_) | refine go_splitF rfl rfl rfl (fun h => ?_) (fun h => ?_) | refine go_pickT rfl ?_ | refine go_pickF rfl ?_ | refine go_pick rfl (fun h => ?_) (fun h => ?_) | refine go_idx rfl rfl rfl rfl (by omega) hr rfl ?_ | refine go_append (rows2 := [intRow (i : Nat)]) rfl rfl rfl rfl rfl rfl rfl rfl rfl rfl rfl rfl rfl rfl rfl rfl hbd ?_) <;> conv => whnf) | ((first | refine go_loadB ?_ | refine ⟨by kernel_rfl, ?_⟩ | refine go_ret ?_) <;> conv => whnf) | refine go_block ?_ | ((first | refine go_skip ?_ | refine go_exit ?_) <;> conv => whnf) | refine go_true rfl ?_ | refine go_false rfl ?_ | refine go_cond rfl (fun h => ?_) (fun h => ?_) | refine ⟨rfl, ?_⟩ | ((first | refine ⟨trivial, ?_⟩ | refine ⟨le_of_ble rfl, ?_⟩) <;> conv => whnf) | fail
        all_goals first
          | (exfalso; simp only [decide_eq_true_eq, decide_eq_false_iff_not, List.length_map] at *; omega)
          | skip
        refine go_next (i + 1) (by show i + 1 ≤ _; omega) (by show _ - (i + 1) < _ - i; omega) (ref_st (fun y => if y = 1000 then nid 5 32 else y) rfl ⟨⟨?_, rfl⟩, rfl, rfl, next_i (by omega), trivial⟩ ⟨?_, trivial⟩ (by simp [nid]) rfl (by simp [lookM]))
        · show AV.own _ _ _ = AV.own _ _ ((reU o (i + 1)).map intRow).length
          rw [e, List.length_append]; rfl
        · show some _ = some (O.arr _ _ ((reU o (i + 1)).map intRow))
          rw [e]; rfl
      · have e : reU o (i + 1) = reU o i := by rw [reU, if_neg (by omega)]
        repeat' first | refine go_seq ?_ | refine go_region ?_ | refine go_miss rfl rfl rfl ?_ | refine go_undef rfl rfl rfl ?_ | ((first | refine go_op rfl ?_ | refine go_nil ?_ | refine go_hit rfl rfl rfl ?_ | refine go_splitT rfl rfl rfl (fun h => ?_) (fun h => ?_) | refine go_splitF rfl rfl rfl (fun h => ?_) (fun h => ?_) | refine go_pickT rfl ?_ | refine go_pickF rfl ?_ | refine go_pick rfl (fun h => ?_) (fun h => ?_) | refine go_idx rfl rfl rfl rfl (by omega) hr rfl ?_) <;> conv => whnf) | ((first | refine go_loadB ?_ | refine ⟨by kernel_rfl, ?_⟩ | refine go_ret ?_) <;> conv => whnf) | refine go_block ?_ | ((first | refine go_skip ?_ | refine go_exit ?_) <;> conv => whnf) | refine go_true rfl ?_ | refine go_false rfl ?_ | refine go_cond rfl (fun h => ?_) (fun h => ?_) | refine ⟨rfl, ?_⟩ | ((first | refine ⟨trivial, ?_⟩ | refine ⟨le_of_ble rfl, ?_⟩) <;> conv => whnf) | fail
        all_goals first
          | (exfalso; simp only [decide_eq_true_eq, decide_eq_false_iff_not, List.length_map] at *; omega)
          | skip
        refine go_next (i + 1) (by show i + 1 ≤ _; omega) (by show _ - (i + 1) < _ - i; omega) (ref_st id rfl ⟨⟨?_, rfl⟩, rfl, rfl, next_i (by omega), trivial⟩ ⟨?_, trivial⟩ (by simp) rfl (by simp))
        · show AV.own _ _ _ = AV.own _ _ ((reU o (i + 1)).map intRow).length
          rw [e]; rfl
        · show some _ = some (O.arr _ _ ((reU o (i + 1)).map intRow))
          rw [e]
  · have hok : rsB n s = false := by simpa using hok
    rw [hok]
    rw [hBe] at hok
    cases hv : netOk n with
    | false =>
      rw [hv] at hV
      repeat' first | refine go_seq ?_ | refine go_region ?_ | refine go_miss rfl rfl rfl ?_ | refine go_undef rfl rfl rfl ?_ | ((first | refine go_op rfl ?_ | refine go_nil ?_ | refine go_hit rfl rfl rfl ?_ | refine go_splitT rfl rfl rfl (fun h => ?_) (fun h => ?_) | refine go_splitF rfl rfl rfl (fun h => ?_) (fun h => ?_) | refine go_pickT rfl ?_ | refine go_pickF rfl ?_ | refine go_pick rfl (fun h => ?_) (fun h => ?_) | refine go_call [] (hV) rfl rfl rfl rfl ?_ | refine go_call [] (hS) rfl rfl rfl rfl ?_) <;> conv => whnf) | ((first | refine go_loadB ?_ | refine ⟨by kernel_rfl, ?_⟩ | refine go_ret ?_) <;> conv => whnf) | refine go_block ?_ | ((first | refine go_skip ?_ | refine go_exit ?_) <;> conv => whnf) | refine go_true rfl ?_ | refine go_false rfl ?_ | refine go_cond rfl (fun h => ?_) (fun h => ?_) | refine ⟨rfl, ?_⟩ | ((first | refine ⟨trivial, ?_⟩ | refine ⟨le_of_ble rfl, ?_⟩) <;> conv => whnf) | fail
      all_goals first
        | exact ret_own2 rfl rfl rfl rfl rfl rfl (by intro x hx; cases hx) rfl rfl rfl
        | (exfalso; simp at h; done)
        | trace_state
    | true =>
      rw [hv] at hV
      rw [hv, Bool.true_and] at hok
      rw [hok] at hS
      repeat' first | refine go_seq ?_ | refine go_region ?_ | refine go_miss rfl rfl rfl ?_ | refine go_undef rfl rfl rfl ?_ | ((first | refine go_op rfl ?_ | refine go_nil ?_ | refine go_hit rfl rfl rfl ?_ | refine go_splitT rfl rfl rfl (fun h => ?_) (fun h => ?_) | refine go_splitF rfl rfl rfl (fun h => ?_) (fun h => ?_) | refine go_pickT rfl ?_ | refine go_pickF rfl ?_ | refine go_pick rfl (fun h => ?_) (fun h => ?_) | refine go_call [] (hV) rfl rfl rfl rfl ?_ | refine go_call [] (hS) rfl rfl rfl rfl ?_) <;> conv => whnf) | ((first | refine go_loadB ?_ | refine ⟨by kernel_rfl, ?_⟩ | refine go_ret ?_) <;> conv => whnf) | refine go_block ?_ | ((first | refine go_skip ?_ | refine go_exit ?_) <;> conv => whnf) | refine go_true rfl ?_ | refine go_false rfl ?_ | refine go_cond rfl (fun h => ?_) (fun h => ?_) | refine ⟨rfl, ?_⟩ | ((first | refine ⟨trivial, ?_⟩ | refine ⟨le_of_ble rfl, ?_⟩) <;> conv => whnf) | fail
      all_goals first
        | exact ret_own2 rfl rfl rfl rfl rfl rfl (by intro x hx; cases hx) rfl rfl rfl
        | (exfalso; simp at h; done)
        | trace_state
end Go.Proofs.Yteoiohkdhdpkoaa

