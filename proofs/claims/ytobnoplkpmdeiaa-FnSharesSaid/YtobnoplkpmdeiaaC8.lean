/- The law of FnShares. -/
import Derived.Test.YtobnoplkpmdeiaaC7
import Derived.Test.YtobnoplkpmdeiaaAmC
namespace Go.Proofs.Ytobnoplkpmdeiaa
open Go Go.Am
set_option maxRecDepth 100000
set_option maxHeartbeats 8000000
attribute [local irreducible] amOps amC opCall opIndexAddr opPick retQ opMake opStore amDraw opAppend opLoad opNilCmp opIndex opSlice

def lG : List Int := [0, 1, 2, 600, -1]
def lH : List Int := [0, 2, 3, 5, 600, -1, 601]
theorem in_lG {x : Int} (h : x ∈ lG) : -1 ≤ x ∧ x ≤ 600 := by
  simp only [lG, List.mem_cons, List.not_mem_nil, or_false] at h
  omega
theorem in_lH {x : Int} {n : Nat} (h : x ∈ lH.take n) : -1 ≤ x ∧ x ≤ 601 := by
  have h := List.mem_of_mem_take h
  simp only [lH, List.mem_cons, List.not_mem_nil, or_false] at h
  omega

theorem one_okC {xs : List Int} (hx : areB xs) {c : Cu} (hk : c.k ≤ 999000) (n : Int) : ∃ (b : Bool) (c' : Cu), (c.k ≤ c'.k ∧ c'.k ≤ c.k + 2) ∧
    CallOk Try.prog 28 [.box 46 (cu xs c), .imm (.int .i64 n)] { res := [.imm (.bool b)], muts := [.box 46 ((cu xs c').map .imm)], sep := false } := by
  obtain ⟨b, k', s', h1, h2⟩ := one_ok xs hx c.k hk c.s n
  exact ⟨b, ⟨k', s'⟩, h1, h2⟩

theorem limits_ok (xs : List Int) (hx : areB xs) (c : Cu) (hk : c.k ≤ 10000) : ∃ (e l : Int) (c' : Cu), (-1 ≤ e ∧ e ≤ 600) ∧ (-1 ≤ l ∧ l ≤ 601) ∧
    CallOk Try.prog 32 [.box 46 (cu xs c)] { res := [.imm (.int .i64 e), .imm (.int .i64 l)], muts := [.box 46 ((cu xs c').map .imm)], sep := false } := by
  obtain ⟨a1, a2, ha⟩ := am_ok hx (c := c) (l := lG) (by omega) (by decide) (by decide)
  have za := in_lG a1
  obtain ⟨b, c1, b2, hb⟩ := one_okC hx (c := (am xs c lG).2) (by omega) 8
  -- the reader behind the first limit
  have tail : ∀ (cc : Cu), cc.k ≤ 20000 → ∃ (m : Nat) (l : Int) (c' : Cu), (5 + m ≤ 7) ∧ (-1 ≤ l ∧ l ≤ 601) ∧ (pk xs cc 24).1 / 11 = (m : Int) ∧ AmongP xs (pk xs cc 24).2 (lH.take (5 + m)) (l, c') := by
    intro cc hcc
    obtain ⟨p1, p2, _⟩ := pk_ok hx (c := cc) (by omega) 24
    have p3 := p1.2 (by omega)
    obtain ⟨m, hm⟩ := Int.eq_ofNat_of_zero_le (show 0 ≤ (pk xs cc 24).1 / 11 by omega)
    have hl7 : (lH.take (5 + m)).length = 5 + m := by rw [List.length_take]; show min (5 + m) 7 = _; omega
    have hA := am_ok hx (c := (pk xs cc 24).2) (l := lH.take (5 + m)) (by omega) (by omega) (by omega)
    exact ⟨m, _, _, by omega, in_lH hA.1, hm, hA⟩
  have hw : ∀ (v : Int) (m : Nat), 0 ≤ v → v < 24 → v / 11 = (m : Int) → IntKind.i64.wrap (5 + IntKind.i64.wrap (v.tdiv 11)) = ((5 + m : Nat) : Int) := by
    intro v m h0 h1 h2
    rw [Int.tdiv_eq_ediv_of_nonneg h0, wrap_small (n := v / 11) (by omega) (by omega), wrap_small (by omega) (by omega)]
    omega
  have h11 : (11 : Int) ≠ 0 := by omega
  by_cases hneg : (am xs c lG).1 < 0
  · have hd0 : decide ((am xs c lG).1 < 0) = true := decide_eq_true hneg
    obtain ⟨m, l, c', hm, hl, hdiv, _, _, hA⟩ := tail c1 (by omega)
    obtain ⟨p1, p2, hp⟩ := pk_ok hx (c := c1) (by omega) 24
    have p3 := p1.2 (by omega)
    have hv := hw _ m p1.1 p3 hdiv
    have hA' : CallOk Try.prog 49 [.box 46 (cu xs (pk xs c1 24).2), .imm (.list (((lH.map intRow).drop 0).take (5 + m)))] { res := [.imm (.int .i64 l)], muts := [.box 46 ((cu xs c').map .imm)], sep := false } := by
      rw [List.drop_zero, ← List.map_take]; exact hA
    have hm7 : 5 + m ≤ 7 := hm
    cases b with
    | true =>
      refine ⟨(am xs c lG).1, l, c', za, hl, ?_⟩
      refine callOk_of tyOk Try.func32 rfl rfl (le_of_ble rfl) (le_of_ble rfl) (mutOk_box0 rfl) ?_
      repeat' first | refine go_seq ?_ | refine go_region ?_ | refine go_miss rfl rfl rfl ?_ | refine go_undef rfl rfl rfl ?_ | ((first | refine go_op rfl ?_ | refine go_nil ?_ | refine go_hit rfl rfl rfl ?_ | refine go_splitT rfl rfl rfl (fun h => ?_) (fun h => ?_) | refine go_splitF rfl rfl rfl (fun h => ?_) (fun h => ?_) | refine go_pickT rfl ?_ | refine go_pickF rfl ?_ | refine go_pick rfl (fun h => ?_) (fun h => ?_) | refine go_call [2, 1] (ha) rfl rfl rfl rfl ?_ | refine go_call [2] (hb) rfl rfl rfl rfl ?_ | refine go_call [2] (hp) rfl rfl rfl rfl ?_ | refine go_call [2, 1] (hA') rfl rfl rfl rfl ?_ | refine ⟨h11, ?_⟩ | refine go_sliceTo (k := 5 + m) rfl rfl rfl rfl rfl (congrArg (fun z => AV.imm (.int .i64 z)) hv) hm7 ?_) <;> conv => whnf) | ((first | refine ⟨by kernel_rfl, ?_⟩ | refine go_ret ?_) <;> conv => whnf) | ((first | refine go_skip ?_) <;> conv => whnf) | refine go_true rfl ?_ | refine go_false rfl ?_ | refine go_cond rfl (fun h => ?_) (fun h => ?_) | refine ⟨rfl, ?_⟩ | ((first | refine ⟨trivial, ?_⟩ | refine ⟨le_of_ble rfl, ?_⟩) <;> conv => whnf) | fail
      all_goals first
        | exact ret_box1two rfl rfl rfl rfl rfl rfl rfl rfl
        | (exfalso; exact Bool.noConfusion (hd0.symm.trans (by assumption : decide ((am xs c lG).1 < 0) = false)))
        | trace_state
    | false =>
      refine ⟨1, l, c', by omega, hl, ?_⟩
      refine callOk_of tyOk Try.func32 rfl rfl (le_of_ble rfl) (le_of_ble rfl) (mutOk_box0 rfl) ?_
      repeat' first | refine go_seq ?_ | refine go_region ?_ | refine go_miss rfl rfl rfl ?_ | refine go_undef rfl rfl rfl ?_ | ((first | refine go_op rfl ?_ | refine go_nil ?_ | refine go_hit rfl rfl rfl ?_ | refine go_splitT rfl rfl rfl (fun h => ?_) (fun h => ?_) | refine go_splitF rfl rfl rfl (fun h => ?_) (fun h => ?_) | refine go_pickT rfl ?_ | refine go_pickF rfl ?_ | refine go_pick rfl (fun h => ?_) (fun h => ?_) | refine go_call [2, 1] (ha) rfl rfl rfl rfl ?_ | refine go_call [2] (hb) rfl rfl rfl rfl ?_ | refine go_call [2] (hp) rfl rfl rfl rfl ?_ | refine go_call [2, 1] (hA') rfl rfl rfl rfl ?_ | refine ⟨h11, ?_⟩ | refine go_sliceTo (k := 5 + m) rfl rfl rfl rfl rfl (congrArg (fun z => AV.imm (.int .i64 z)) hv) hm7 ?_) <;> conv => whnf) | ((first | refine ⟨by kernel_rfl, ?_⟩ | refine go_ret ?_) <;> conv => whnf) | ((first | refine go_skip ?_) <;> conv => whnf) | refine go_true rfl ?_ | refine go_false rfl ?_ | refine go_cond rfl (fun h => ?_) (fun h => ?_) | refine ⟨rfl, ?_⟩ | ((first | refine ⟨trivial, ?_⟩ | refine ⟨le_of_ble rfl, ?_⟩) <;> conv => whnf) | fail
      all_goals first
        | exact ret_box1two rfl rfl rfl rfl rfl rfl rfl rfl
        | (exfalso; exact Bool.noConfusion (hd0.symm.trans (by assumption : decide ((am xs c lG).1 < 0) = false)))
        | trace_state
  · have hd0 : decide ((am xs c lG).1 < 0) = false := decide_eq_false hneg
    obtain ⟨m, l, c', hm, hl, hdiv, _, _, hA⟩ := tail (am xs c lG).2 (by omega)
    obtain ⟨p1, p2, hp⟩ := pk_ok hx (c := (am xs c lG).2) (by omega) 24
    have p3 := p1.2 (by omega)
    have hv := hw _ m p1.1 p3 hdiv
    have hA' : CallOk Try.prog 49 [.box 46 (cu xs (pk xs (am xs c lG).2 24).2), .imm (.list (((lH.map intRow).drop 0).take (5 + m)))] { res := [.imm (.int .i64 l)], muts := [.box 46 ((cu xs c').map .imm)], sep := false } := by
      rw [List.drop_zero, ← List.map_take]; exact hA
    have hm7 : 5 + m ≤ 7 := hm
    refine ⟨(am xs c lG).1, l, c', za, hl, ?_⟩
    refine callOk_of tyOk Try.func32 rfl rfl (le_of_ble rfl) (le_of_ble rfl) (mutOk_box0 rfl) ?_
    repeat' first | refine go_seq ?_ | refine go_region ?_ | refine go_miss rfl rfl rfl ?_ | refine go_undef rfl rfl rfl ?_ | ((first | refine go_op rfl ?_ | refine go_nil ?_ | refine go_hit rfl rfl rfl ?_ | refine go_splitT rfl rfl rfl (fun h => ?_) (fun h => ?_) | refine go_splitF rfl rfl rfl (fun h => ?_) (fun h => ?_) | refine go_pickT rfl ?_ | refine go_pickF rfl ?_ | refine go_pick rfl (fun h => ?_) (fun h => ?_) | refine go_call [2, 1] (ha) rfl rfl rfl rfl ?_ | refine go_call [2] (hp) rfl rfl rfl rfl ?_ | refine go_call [2, 1] (hA') rfl rfl rfl rfl ?_ | refine ⟨h11, ?_⟩ | refine go_sliceTo (k := 5 + m) rfl rfl rfl rfl rfl (congrArg (fun z => AV.imm (.int .i64 z)) hv) hm7 ?_) <;> conv => whnf) | ((first | refine ⟨by kernel_rfl, ?_⟩ | refine go_ret ?_) <;> conv => whnf) | ((first | refine go_skip ?_) <;> conv => whnf) | refine go_true rfl ?_ | refine go_false rfl ?_ | refine go_cond rfl (fun h => ?_) (fun h => ?_) | refine ⟨rfl, ?_⟩ | ((first | refine ⟨trivial, ?_⟩ | refine ⟨le_of_ble rfl, ?_⟩) <;> conv => whnf) | fail
    all_goals first
      | exact ret_box1two rfl rfl rfl rfl rfl rfl rfl rfl
      | (exfalso; exact Bool.noConfusion (hd0.symm.trans (by assumption : decide ((am xs c lG).1 < 0) = true)))
      | trace_state

theorem drawPunctualShare (xs : List Int) (hx : areB xs) : ∃ (l : List Visit) (e la : Int), (∀ v ∈ l, v.ok) ∧ l.length ≤ 40 ∧ (-1 ≤ e ∧ e ≤ 600) ∧ (-1 ≤ la ∧ la ≤ 601) ∧
    CallOk Try.prog 15 [.imm (.list (xs.map byteRow))] { res := [.imm (.list (l.map Visit.enc)), .imm (.int .i64 e), .imm (.int .i64 la)], sep := false } := by
  have h1 := visits_walk xs hx ⟨0, 0⟩ (by simp)
  have hgo : vGo 2000 0 (v1 xs ⟨0, 0⟩) := by
    obtain ⟨t1, t2, _⟩ := am_ok hx (c := ⟨0, 0⟩) (l := lT) (by simp) (by decide) (by decide)
    obtain ⟨n1, n2, _⟩ := pk_ok hx (c := (am xs ⟨0, 0⟩ lT).2) (by simp only at t2; omega) 9
    have zt := in_lT t1
    simp only at t2
    refine ⟨rfl, (by intro v hv; cases hv), ?_, ?_⟩
    · simp only [v1]; omega
    · simp only [v1, vN]; omega
  have hN : (vN xs ⟨0, 0⟩).1.toNat ≤ 9 := by
    obtain ⟨t1, t2, _⟩ := am_ok hx (c := ⟨0, 0⟩) (l := lT) (by simp) (by decide) (by decide)
    simp only at t2
    obtain ⟨n1, n2, _⟩ : PickP xs (am xs ⟨0, 0⟩ lT).2 9 (vN xs ⟨0, 0⟩) := pk_ok hx (c := (am xs ⟨0, 0⟩ lT).2) (by omega) 9
    have := n1.2 (by omega)
    omega
  obtain ⟨f1, f2, f3⟩ := vFin_ok hx (k0 := 2000) (by omega) (by omega) (vAt_go hx (by omega) hgo (vN xs ⟨0, 0⟩).1.toNat (by omega))
  change ∀ v ∈ (vFin xs (vEnd xs ⟨0, 0⟩)).1, vSm v at f1
  change (vFin xs (vEnd xs ⟨0, 0⟩)).1.length ≤ 40 at f2
  change (vFin xs (vEnd xs ⟨0, 0⟩)).2.k ≤ 2000 + 400 at f3
  generalize vFin xs (vEnd xs ⟨0, 0⟩) = F at *
  obtain ⟨e, la, c', he, hla, h2⟩ := limits_ok xs hx F.2 (by omega)
  refine ⟨F.1, e, la, fun v hv => vSm_ok (f1 v hv), f2, he, hla, ?_⟩
  refine callOk_of tyOk Try.func15 rfl rfl (le_of_ble rfl) (le_of_ble rfl) (mutOk_imm rfl _) ?_
  repeat' first | refine go_seq ?_ | refine go_region ?_ | ((first | refine go_op rfl ?_ | refine go_nil ?_ | refine go_call [2] (h1) rfl rfl rfl rfl ?_ | refine go_call [2] (h2) rfl rfl rfl rfl ?_) <;> conv => whnf) | ((first | refine ⟨by kernel_rfl, ?_⟩ | refine go_ret ?_) <;> conv => whnf) | ((first | refine go_skip ?_) <;> conv => whnf) | refine ⟨rfl, ?_⟩ | ((first | refine ⟨trivial, ?_⟩ | refine ⟨le_of_ble rfl, ?_⟩) <;> conv => whnf) | fail
  all_goals first
    | exact ret_all (avs := [.imm (.list (F.1.map Visit.enc)), .imm (.int .i64 e), .imm (.int .i64 la)]) rfl ⟨⟨rfl, fun h => by cases h⟩, ⟨rfl, fun h => by cases h⟩, ⟨rfl, fun h => by cases h⟩, trivial⟩ (by simp [ownIds]) List.nodup_nil trivial
    | trace_state

theorem c14 (xs : List Int) : CallOk Try.prog 14 [.imm (.list (xs.map byteRow))] { res := [.imm (.bool (decide (65536 < ((xs.map byteRow).length : Int))))] } := by
  refine callOk_of tyOk Try.func14 rfl rfl (le_of_ble rfl) (le_of_ble rfl) (mutOk_imm rfl _) ?_
  repeat' first | refine go_seq ?_ | refine go_region ?_ | ((first | refine go_op rfl ?_ | refine go_nil ?_) <;> conv => whnf) | ((first | refine ⟨by kernel_rfl, ?_⟩ | refine go_ret ?_) <;> conv => whnf) | ((first | refine go_skip ?_) <;> conv => whnf) | refine ⟨rfl, ?_⟩ | ((first | refine ⟨trivial, ?_⟩ | refine ⟨le_of_ble rfl, ?_⟩) <;> conv => whnf) | fail
  all_goals exact ret_imm rfl rfl rfl rfl rfl rfl
end Go.Proofs.Ytobnoplkpmdeiaa

