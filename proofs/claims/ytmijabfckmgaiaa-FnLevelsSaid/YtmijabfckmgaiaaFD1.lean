/- The draws of FnLevels: legs, batteries. -/
import Derived.Test.YtmijabfckmgaiaaFL0
import Derived.Test.YtmijabfckmgaiaaCU
namespace Go.Proofs.Ytmijabfckmgaiaa
open Go Go.Am
set_option maxRecDepth 100000
set_option maxHeartbeats 8000000
attribute [local irreducible] amOps amC opCall opIndexAddr opPick retQ opMake opStore amDraw opAppend opLoad opNilCmp opIndex opSlice

def kT : List Int := [300, 420, 0, 1500]
def kA : List Int := [10, 30, 45, 60]
def kB : List Int := [0, 10, 50, 100, 150]
def kC : List Int := [0, 1, 5, 10, 20, 30]
def kM : List Int := [0, 1799, 1790]
def kN : List Int := [5, 1800, 1799]
def kO : List Int := [-1, 10000, 10001]
theorem in_kT {x : Int} (h : x ∈ kT) : 0 ≤ x ∧ x ≤ 1500 := by
  simp only [kT, List.mem_cons, List.not_mem_nil, or_false] at h
  omega
theorem in_kA {x : Int} (h : x ∈ kA) : 10 ≤ x ∧ x ≤ 60 := by
  simp only [kA, List.mem_cons, List.not_mem_nil, or_false] at h
  omega
theorem in_kC {x : Int} (h : x ∈ kC) : 0 ≤ x ∧ x ≤ 30 := by
  simp only [kC, List.mem_cons, List.not_mem_nil, or_false] at h
  omega
structure Es where
  l : List Leg
  t : Int
  c : Cu
noncomputable def eA (xs : List Int) (a : Es) : Int × Cu := am xs a.c kA
noncomputable def eB (xs : List Int) (a : Es) : Int × Cu := am xs (eA xs a).2 kB
noncomputable def eC (xs : List Int) (a : Es) : Int × Cu := am xs (eB xs a).2 kC
noncomputable def eLeg (xs : List Int) (a : Es) : Leg := ⟨a.t, IntKind.i64.wrap (a.t + (eA xs a).1), (eB xs a).1⟩
noncomputable def eStep (xs : List Int) (a : Es) : Es := ⟨if (eLeg xs a).to ≤ 1799 then a.l ++ [eLeg xs a] else a.l, IntKind.i64.wrap ((eLeg xs a).to + (eC xs a).1), (eC xs a).2⟩
noncomputable def eAt (xs : List Int) (a : Es) : Nat → Es
  | 0 => a
  | i + 1 => eStep xs (eAt xs a i)
def eGo (i : Nat) (a : Es) : Prop := (a.l.length ≤ i ∧ (1 ≤ i → 1 ≤ a.l.length)) ∧ (0 ≤ a.t ∧ a.t ≤ 1500 + 90 * (i : Int)) ∧ a.c.k ≤ 100 + 6 * i
theorem eStep_go {xs : List Int} (hx : areB xs) {i : Nat} (hi : i ≤ 10) {a : Es} (h : eGo i a) : eGo (i + 1) (eStep xs a) := by
  obtain ⟨⟨h1, h2⟩, h3, h4⟩ := h
  obtain ⟨a1, a2, _⟩ : AmongP xs a.c kA (eA xs a) := am_ok hx (c := a.c) (by omega) (by decide) (by decide)
  obtain ⟨b1, b2, _⟩ : AmongP xs (eA xs a).2 kB (eB xs a) := am_ok hx (c := (eA xs a).2) (by omega) (by decide) (by decide)
  obtain ⟨c1, c2, _⟩ : AmongP xs (eB xs a).2 kC (eC xs a) := am_ok hx (c := (eB xs a).2) (by omega) (by decide) (by decide)
  have za := in_kA a1
  have zc := in_kC c1
  have e1 : (eLeg xs a).to = a.t + (eA xs a).1 := wrap_small (by omega) (by omega)
  have e2 : IntKind.i64.wrap ((eLeg xs a).to + (eC xs a).1) = a.t + (eA xs a).1 + (eC xs a).1 := by rw [e1]; exact wrap_small (by omega) (by omega)
  refine ⟨⟨?_, fun _ => ?_⟩, ?_, ?_⟩
  · simp only [eStep]
    split
    · simp; omega
    · omega
  · simp only [eStep]
    split
    · simp
    · rename_i hn
      rw [e1] at hn
      by_cases h0 : i = 0
      · subst h0; omega
      · exact h2 (by omega)
  · simp only [eStep]
    rw [e2]
    omega
  · simp only [eStep]
    omega
theorem eAt_go {xs : List Int} (hx : areB xs) {a : Es} (h : eGo 0 a) : ∀ i : Nat, i ≤ 10 → eGo i (eAt xs a i)
  | 0, _ => h
  | i + 1, hi => eStep_go hx (by omega) (eAt_go hx h i (by omega))
/-- The legs at the end, and the reader. -/
noncomputable def eFin (xs : List Int) (a : Es) : List Leg × Cu :=
  if (pk xs a.c 40).1 = 0 then (a.l ++ [⟨(am xs (pk xs a.c 40).2 kM).1, (am xs (am xs (pk xs a.c 40).2 kM).2 kN).1, 1⟩], (am xs (am xs (pk xs a.c 40).2 kM).2 kN).2)
  else if (pk xs a.c 40).1 = 1 then (a.l.set 0 ⟨(legAt a.l 0).fro, (legAt a.l 0).to, (am xs (pk xs a.c 40).2 kO).1⟩, (am xs (pk xs a.c 40).2 kO).2)
  else if (pk xs a.c 40).1 = 2 then ([], (pk xs a.c 40).2) else (a.l, (pk xs a.c 40).2)

theorem legs_walk (xs : List Int) (hx : areB xs) (c : Cu) (hk : c.k ≤ 90) (a0 : Es) (h0 : a0 = ⟨[], (am xs c kT).1, (pk xs (am xs c kT).2 6).2⟩) (N : Nat) (hN : ((N : Nat) : Int) = 1 + (pk xs (am xs c kT).2 6).1) :
    CallOk Try.prog 18 [.box 47 (cu xs c)] { res := [.imm (.list ((eFin xs (eAt xs a0 N)).1.map Leg.enc))], muts := [.box 47 ((cu xs (eFin xs (eAt xs a0 N)).2).map .imm)], sep := false } := by
  refine callOk_of tyOk Try.func18 rfl rfl (le_of_ble rfl) (le_of_ble rfl) (mutOk_box0 rfl) ?_
  obtain ⟨t1, t2, hT⟩ := am_ok hx (c := c) (l := kT) (by omega) (by decide) (by decide)
  obtain ⟨n1, n2, hP⟩ := pk_ok hx (c := (am xs c kT).2) (by omega) 6
  have n3 := n1.2 (by omega)
  have zt := in_kT t1
  have hNw : AV.imm (.int .i64 (IntKind.i64.wrap (1 + (pk xs (am xs c kT).2 6).1))) = .imm (.int .i64 ((N : Nat) : Int)) := by rw [wrap_small (by omega) (by omega), hN]
  have hgo : eGo 0 a0 := by rw [h0]; exact ⟨⟨Nat.le_refl _, fun h => by omega⟩, by simp only; omega, by simp only; omega⟩
  have hN6 : N ≤ 6 := by omega
  have ea : a0.l = [] := by rw [h0]
  have eb : a0.t = (am xs c kT).1 := by rw [h0]
  have ec : a0.c = (pk xs (am xs c kT).2 6).2 := by rw [h0]
  rw [← eb] at hT
  rw [← ec] at hP
  repeat' first | refine go_seq ?_ | refine go_region ?_ | refine go_draw drawsOk ?_ | ((first | refine go_op rfl ?_ | refine go_nil ?_ | refine go_storeBox rfl rfl rfl rfl rfl rfl ?_ | refine go_dop rfl ?_ | refine go_dend (by kernel_rfl) ?_ | refine go_call [2, 1] (hT) rfl rfl rfl rfl ?_ | refine go_call [2] (hP) rfl rfl rfl rfl ?_) <;> conv => whnf) | ((first | refine Or.inl ?_ | refine go_loadB ?_ | refine ⟨by kernel_rfl, ?_⟩ | refine go_ret ?_) <;> conv => whnf) | refine go_block ?_ | ((first | refine go_skip ?_ | refine go_exit ?_) <;> conv => whnf) | refine go_true rfl ?_ | refine go_false rfl ?_ | refine go_cond rfl (fun h => ?_) (fun h => ?_) | refine ⟨rfl, ?_⟩ | ((first | refine ⟨trivial, ?_⟩ | refine ⟨le_of_ble rfl, ?_⟩) <;> conv => whnf) | fail
  clear hT hP
  refine go_loop (α := Nat) (fun i => i ≤ N) (fun i => N - i)
    (fun i => st Try.f18.ntmps [(0, .box 1001 0), (3, .own 1000 0 ((eAt xs a0 i).l.map Leg.enc).length), (4, .imm (.int .i64 (eAt xs a0 i).t)), (5, .imm (.int .i64 ((N - i : Nat) : Int)))]
      [(1000, .arr 54 3 ((eAt xs a0 i).l.map Leg.enc)), (1001, .box 47 ((cu xs (eAt xs a0 i).c).map .imm))] [1001]) 0 (Nat.zero_le _) ?_ ?_
  · refine ref_st (fun x => if x = 1000 then nid 2 8 else 0) rfl ⟨⟨rfl, rfl⟩, ⟨?_, rfl⟩, rfl, ?_, trivial⟩ ⟨?_, ⟨rfl, wavs_imm _⟩, trivial⟩ (by simp [nid]) rfl (by simp [lookM])
    · show AV.own _ _ _ = AV.own _ _ (a0.l.map Leg.enc).length
      rw [ea]; rfl
    · rw [Nat.sub_zero]; exact hNw
    · show some _ = some (O.arr _ 3 (a0.l.map Leg.enc))
      rw [ea]; rfl
  intro i hi
  have hg := eAt_go hx hgo i (by omega)
  obtain ⟨⟨g1, g2⟩, g3, g4⟩ := hg
  by_cases hiN : i < N
  · have hnx : eAt xs a0 (i + 1) = eStep xs (eAt xs a0 i) := rfl
    generalize eAt xs a0 i = V at *
    obtain ⟨a1, a2, hA⟩ : AmongP xs V.c kA (eA xs V) := am_ok hx (c := V.c) (by omega) (by decide) (by decide)
    obtain ⟨b1, b2, hB⟩ : AmongP xs (eA xs V).2 kB (eB xs V) := am_ok hx (c := (eA xs V).2) (by omega) (by decide) (by decide)
    obtain ⟨c1, c2, hC⟩ : AmongP xs (eB xs V).2 kC (eC xs V) := am_ok hx (c := (eB xs V).2) (by omega) (by decide) (by decide)
    have hdec : AV.imm (.int .i64 (IntKind.i64.wrap (((N - i : Nat) : Int) - 1))) = .imm (.int .i64 ((N - (i + 1) : Nat) : Int)) := by rw [wrap_small (by omega) (by omega)]; congr 2; omega
    have hone : ([eLeg xs V].map Leg.enc).all (fun r => r.all D.one) = true := rfl
    have hbd : (V.l.map Leg.enc).length + 1 ≤ 1073741824 := by rw [List.length_map]; omega
    have hE : (eLeg xs V).to = IntKind.i64.wrap (V.t + (eA xs V).1) := rfl
    by_cases hto : (eLeg xs V).to ≤ 1799
    · have hS : eStep xs V = ⟨V.l ++ [eLeg xs V], IntKind.i64.wrap ((eLeg xs V).to + (eC xs V).1), (eC xs V).2⟩ := by unfold eStep; rw [if_pos hto]
      repeat' first | refine go_seq ?_ | refine go_region ?_ | refine go_draw drawsOk ?_ | ((first | refine go_op rfl ?_ | refine go_nil ?_ | refine go_storeBox rfl rfl rfl rfl rfl rfl ?_ | refine go_dop rfl ?_ | refine go_dend (by kernel_rfl) ?_ | refine go_call [2, 1] (hA) rfl rfl rfl rfl ?_ | refine go_call [2, 1] (hB) rfl rfl rfl rfl ?_ | refine go_call [2, 1] (hC) rfl rfl rfl rfl ?_ | refine go_append (rows2 := [eLeg xs V].map Leg.enc) rfl rfl rfl rfl rfl rfl rfl rfl rfl rfl rfl rfl hone rfl rfl rfl hbd ?_) <;> conv => whnf) | ((first | refine Or.inl ?_ | refine go_loadB ?_ | refine ⟨by kernel_rfl, ?_⟩ | refine go_ret ?_) <;> conv => whnf) | refine go_block ?_ | ((first | refine go_skip ?_ | refine go_exit ?_) <;> conv => whnf) | refine go_true rfl ?_ | refine go_false rfl ?_ | refine go_cond rfl (fun h => ?_) (fun h => ?_) | refine ⟨rfl, ?_⟩ | ((first | refine ⟨trivial, ?_⟩ | refine ⟨le_of_ble rfl, ?_⟩) <;> conv => whnf) | fail
      all_goals first
        | (exfalso; simp only [decide_eq_true_eq, decide_eq_false_iff_not, hE] at *; omega)
        | (refine go_next (i + 1) (by omega) (by omega) (ref_st (fun x => if x = 1000 then nid 6 41 else x) rfl ⟨⟨rfl, rfl⟩, ⟨?_, rfl⟩, ?_, hdec, trivial⟩ ⟨?_, ⟨rfl, ?_⟩, trivial⟩ (by simp [nid]) rfl (by simp [lookM]))
           · show AV.own _ _ _ = AV.own _ _ _
             rw [hnx, hS, List.map_append, List.length_append]; try rfl
           · show AV.imm _ = AV.imm _
             rw [hnx, hS]; try rfl
           · show some _ = some _
             rw [hnx, hS, List.map_append]; try rfl
           · rw [hnx, hS]; exact wavs_imm _)
        | trace_state
    · have hS : eStep xs V = ⟨V.l, IntKind.i64.wrap ((eLeg xs V).to + (eC xs V).1), (eC xs V).2⟩ := by unfold eStep; rw [if_neg hto]
      repeat' first | refine go_seq ?_ | refine go_region ?_ | refine go_draw drawsOk ?_ | ((first | refine go_op rfl ?_ | refine go_nil ?_ | refine go_storeBox rfl rfl rfl rfl rfl rfl ?_ | refine go_dop rfl ?_ | refine go_dend (by kernel_rfl) ?_ | refine go_call [2, 1] (hA) rfl rfl rfl rfl ?_ | refine go_call [2, 1] (hB) rfl rfl rfl rfl ?_ | refine go_call [2, 1] (hC) rfl rfl rfl rfl ?_) <;> conv => whnf) | ((first | refine Or.inl ?_ | refine go_loadB ?_ | refine ⟨by kernel_rfl, ?_⟩ | refine go_ret ?_) <;> conv => whnf) | refine go_block ?_ | ((first | refine go_skip ?_ | refine go_exit ?_) <;> conv => whnf) | refine go_true rfl ?_ | refine go_false rfl ?_ | refine go_cond rfl (fun h => ?_) (fun h => ?_) | refine ⟨rfl, ?_⟩ | ((first | refine ⟨trivial, ?_⟩ | refine ⟨le_of_ble rfl, ?_⟩) <;> conv => whnf) | fail
      all_goals first
        | (exfalso; simp only [decide_eq_true_eq, decide_eq_false_iff_not, hE] at *; omega)
        | (refine go_next (i + 1) (by omega) (by omega) (ref_st id rfl ⟨⟨rfl, rfl⟩, ⟨?_, rfl⟩, ?_, hdec, trivial⟩ ⟨?_, ⟨rfl, ?_⟩, trivial⟩ (by simp) rfl (by simp [lookM]))
           · show AV.own _ _ _ = AV.own _ _ _
             rw [hnx, hS]; try rfl
           · show AV.imm _ = AV.imm _
             rw [hnx, hS]; try rfl
           · show some _ = some _
             rw [hnx, hS]; try rfl
           · rw [hnx, hS]; exact wavs_imm _)
        | trace_state
  · have hiN' : i = N := by omega
    subst hiN'
    have hN1 : 1 ≤ i := by omega
    have g5 := g2 hN1
    generalize eAt xs a0 i = V at *
    obtain ⟨p1, p2, hp⟩ := pk_ok hx (c := V.c) (by omega) 40
    have hb0 : decide ((0 : Int) < ((i - i : Nat) : Int)) = false := decide_eq_false (by omega)
    have hz : ((i - i : Nat) : Int) = 0 := by omega
    have hx0 : V.l[0]? = some V.l[0] := List.getElem?_eq_getElem (by omega)
    have hle := legAt_of hx0
    have hr0 := row_at Leg.enc hx0
    have hl0 : 0 < (V.l.map Leg.enc).length := by rw [List.length_map]; omega
    unfold eFin
    rw [hle]
    generalize V.l[0] = l0 at *
    by_cases c0 : (pk xs V.c 40).1 = 0
    · rw [if_pos c0]
      obtain ⟨_, d2, hd⟩ := am_ok hx (c := (pk xs V.c 40).2) (l := kM) (by omega) (by decide) (by decide)
      obtain ⟨_, f2, hf⟩ := am_ok hx (c := (am xs (pk xs V.c 40).2 kM).2) (l := kN) (by omega) (by decide) (by decide)
      generalize am xs (am xs (pk xs V.c 40).2 kM).2 kN = B at *
      generalize am xs (pk xs V.c 40).2 kM = A at *
      have hone : ([(⟨A.1, B.1, 1⟩ : Leg)].map Leg.enc).all (fun r => r.all D.one) = true := rfl
      have hbd : (V.l.map Leg.enc).length + 1 ≤ 1073741824 := by rw [List.length_map]; omega
      repeat' first | refine go_seq ?_ | refine go_region ?_ | refine go_draw drawsOk ?_ | ((first | refine go_op rfl ?_ | refine go_nil ?_ | refine go_storeBox rfl rfl rfl rfl rfl rfl ?_ | refine go_dop rfl ?_ | refine go_dend (by kernel_rfl) ?_ | refine go_call [2] (hp) rfl rfl rfl rfl ?_ | refine go_call [2, 1] (hd) rfl rfl rfl rfl ?_ | refine go_call [2, 1] (hf) rfl rfl rfl rfl ?_ | refine go_append (rows2 := [(⟨A.1, B.1, 1⟩ : Leg)].map Leg.enc) rfl rfl rfl rfl rfl rfl rfl rfl rfl rfl rfl rfl hone rfl rfl rfl hbd ?_) <;> conv => whnf) | ((first | refine Or.inl ?_ | refine go_loadB ?_ | refine ⟨by kernel_rfl, ?_⟩ | refine go_ret ?_) <;> conv => whnf) | refine go_block ?_ | ((first | refine go_skip ?_ | refine go_exit ?_) <;> conv => whnf) | refine go_true rfl ?_ | refine go_false rfl ?_ | refine go_cond rfl (fun h => ?_) (fun h => ?_) | refine ⟨rfl, ?_⟩ | ((first | refine ⟨trivial, ?_⟩ | refine ⟨le_of_ble rfl, ?_⟩) <;> conv => whnf) | fail
      all_goals first
        | (refine ret_box1own rfl rfl rfl rfl rfl ?_ (by simp [nid]) rfl
           rw [List.drop_zero, ← List.map_append, List.take_of_length_le (by simp)]
           done)
        | (exfalso; simp only [decide_eq_true_eq, decide_eq_false_iff_not] at *; omega)
        | trace_state
    by_cases c1 : (pk xs V.c 40).1 = 1
    · rw [if_neg c0, if_pos c1]
      obtain ⟨_, d2, hd⟩ := am_ok hx (c := (pk xs V.c 40).2) (l := kO) (by omega) (by decide) (by decide)
      generalize am xs (pk xs V.c 40).2 kO = A at *
      have hs : (V.l.map Leg.enc).set 0 [D.int .i64 l0.fro, D.int .i64 l0.to, D.int .i64 A.1] = (V.l.set 0 ⟨l0.fro, l0.to, A.1⟩).map Leg.enc := by rw [List.map_set]; rfl
      repeat' first | refine go_seq ?_ | refine go_region ?_ | refine go_draw drawsOk ?_ | ((first | refine go_op rfl ?_ | refine go_nil ?_ | refine go_storeBox rfl rfl rfl rfl rfl rfl ?_ | refine go_dop rfl ?_ | refine go_dend (by kernel_rfl) ?_ | refine go_call [2] (hp) rfl rfl rfl rfl ?_ | refine go_call [2, 1] (hd) rfl rfl rfl rfl ?_ | refine go_idxOwnI (j := 0) rfl rfl rfl rfl rfl rfl rfl hl0 ?_ | refine go_loadEl (i := 0) rfl rfl rfl hr0 ?_ | refine go_storeRow rfl rfl rfl rfl hr0 rfl rfl hs ?_) <;> conv => whnf) | ((first | refine Or.inl ?_ | refine go_loadB ?_ | refine ⟨by kernel_rfl, ?_⟩ | refine go_ret ?_) <;> conv => whnf) | refine go_block ?_ | ((first | refine go_skip ?_ | refine go_exit ?_) <;> conv => whnf) | refine go_true rfl ?_ | refine go_false rfl ?_ | refine go_cond rfl (fun h => ?_) (fun h => ?_) | refine ⟨rfl, ?_⟩ | ((first | refine ⟨trivial, ?_⟩ | refine ⟨le_of_ble rfl, ?_⟩) <;> conv => whnf) | fail
      all_goals first
        | (refine ret_box1own rfl rfl rfl rfl rfl ?_ (by simp [nid]) rfl
           rw [List.drop_zero, List.take_of_length_le (by simp)]
           done)
        | (exfalso; simp only [decide_eq_true_eq, decide_eq_false_iff_not] at *; omega)
        | trace_state
    by_cases c2 : (pk xs V.c 40).1 = 2
    · rw [if_neg c0, if_neg c1, if_pos c2]
      repeat' first | refine go_seq ?_ | refine go_region ?_ | refine go_draw drawsOk ?_ | ((first | refine go_op rfl ?_ | refine go_nil ?_ | refine go_storeBox rfl rfl rfl rfl rfl rfl ?_ | refine go_dop rfl ?_ | refine go_dend (by kernel_rfl) ?_ | refine go_call [2] (hp) rfl rfl rfl rfl ?_ | refine go_sliceTo (k := 0) rfl rfl rfl rfl rfl rfl (Nat.zero_le _) ?_) <;> conv => whnf) | ((first | refine Or.inl ?_ | refine go_loadB ?_ | refine ⟨by kernel_rfl, ?_⟩ | refine go_ret ?_) <;> conv => whnf) | refine go_block ?_ | ((first | refine go_skip ?_ | refine go_exit ?_) <;> conv => whnf) | refine go_true rfl ?_ | refine go_false rfl ?_ | refine go_cond rfl (fun h => ?_) (fun h => ?_) | refine ⟨rfl, ?_⟩ | ((first | refine ⟨trivial, ?_⟩ | refine ⟨le_of_ble rfl, ?_⟩) <;> conv => whnf) | fail
      all_goals first
        | (refine ret_box1own rfl rfl rfl rfl rfl ?_ (by simp [nid]) rfl
           rfl
           done)
        | (exfalso; simp only [decide_eq_true_eq, decide_eq_false_iff_not] at *; omega)
        | trace_state
    rw [if_neg c0, if_neg c1, if_neg c2]
    repeat' first | refine go_seq ?_ | refine go_region ?_ | refine go_draw drawsOk ?_ | ((first | refine go_op rfl ?_ | refine go_nil ?_ | refine go_storeBox rfl rfl rfl rfl rfl rfl ?_ | refine go_dop rfl ?_ | refine go_dend (by kernel_rfl) ?_ | refine go_call [2] (hp) rfl rfl rfl rfl ?_) <;> conv => whnf) | ((first | refine Or.inl ?_ | refine go_loadB ?_ | refine ⟨by kernel_rfl, ?_⟩ | refine go_ret ?_) <;> conv => whnf) | refine go_block ?_ | ((first | refine go_skip ?_ | refine go_exit ?_) <;> conv => whnf) | refine go_true rfl ?_ | refine go_false rfl ?_ | refine go_cond rfl (fun h => ?_) (fun h => ?_) | refine ⟨rfl, ?_⟩ | ((first | refine ⟨trivial, ?_⟩ | refine ⟨le_of_ble rfl, ?_⟩) <;> conv => whnf) | fail
    all_goals first
      | (refine ret_box1own rfl rfl rfl rfl rfl ?_ (by simp [nid]) rfl
         rw [List.drop_zero, List.take_length]
         done)
      | (exfalso; simp only [decide_eq_true_eq, decide_eq_false_iff_not] at *; omega)
      | trace_state
theorem legs_ok (xs : List Int) (hx : areB xs) : ∃ (l : List Leg) (c : Cu), l.length ≤ 8 ∧ c.k ≤ 400 ∧
    CallOk Try.prog 18 [.box 47 (cu xs ⟨0, 0⟩)] { res := [.imm (.list (l.map Leg.enc))], muts := [.box 47 ((cu xs c).map .imm)], sep := false } := by
  obtain ⟨c0, hc0⟩ : ∃ c0 : Cu, c0 = ⟨0, 0⟩ := ⟨_, rfl⟩
  have hk0 : c0.k = 0 := by rw [hc0]
  rw [← hc0]
  obtain ⟨t1, t2, _⟩ := am_ok hx (c := c0) (l := kT) (by omega) (by decide) (by decide)
  obtain ⟨n1, n2, _⟩ := pk_ok hx (c := (am xs c0 kT).2) (by omega) 6
  have n3 := n1.2 (by omega)
  have zt := in_kT t1
  obtain ⟨N, hN⟩ := Int.eq_ofNat_of_zero_le (show 0 ≤ 1 + (pk xs (am xs c0 kT).2 6).1 by omega)
  obtain ⟨a0, h0⟩ : ∃ a0 : Es, a0 = ⟨[], (am xs c0 kT).1, (pk xs (am xs c0 kT).2 6).2⟩ := ⟨_, rfl⟩
  have hw := legs_walk xs hx c0 (by omega) a0 h0 N hN.symm
  have hgo : eGo 0 a0 := by rw [h0]; exact ⟨⟨Nat.le_refl _, fun h => by omega⟩, by simp only; omega, by simp only; omega⟩
  obtain ⟨⟨g1, g2⟩, g3, g4⟩ := eAt_go hx hgo N (by omega)
  generalize eAt xs a0 N = V at *
  obtain ⟨p1, p2, hp⟩ := pk_ok hx (c := V.c) (by omega) 40
  obtain ⟨_, d2, _⟩ := am_ok hx (c := (pk xs V.c 40).2) (l := kM) (by omega) (by decide) (by decide)
  obtain ⟨_, f2, _⟩ := am_ok hx (c := (am xs (pk xs V.c 40).2 kM).2) (l := kN) (by omega) (by decide) (by decide)
  obtain ⟨_, o2, _⟩ := am_ok hx (c := (pk xs V.c 40).2) (l := kO) (by omega) (by decide) (by decide)
  refine ⟨(eFin xs V).1, (eFin xs V).2, ?_, ?_, hw⟩
  · unfold eFin
    (repeat' split) <;> simp only [List.length_append, List.length_cons, List.length_nil, List.length_set] <;> omega
  · unfold eFin
    (repeat' split) <;> simp only <;> omega

def kCap : List Int := [200, 300, 100, 1000]
def kRes : List Int := [0, 10, 20, 50]
def kRate : List Int := [1, 2, 3, 5, 10, 0]
def kR2 : List Int := [-1, 1001, 1000]
theorem two_ne' : (2 : Int) ≠ 0 := by omega
theorem bat_ok (xs : List Int) (hx : areB xs) (c : Cu) (hk : c.k ≤ 10000) : ∃ (b : Bat) (lv : Int) (c' : Cu), c'.k ≤ c.k + 100 ∧
    CallOk Try.prog 19 [.box 47 (cu xs c)] { res := [.imm (.agg (batE b)), .imm (.int .i64 lv)], muts := [.box 47 ((cu xs c').map .imm)], sep := false } := by
  obtain ⟨_, a2, hA⟩ := am_ok hx (c := c) (l := kCap) (by omega) (by decide) (by decide)
  obtain ⟨_, b2, hB⟩ := am_ok hx (c := (am xs c kCap).2) (l := kRes) (by omega) (by decide) (by decide)
  obtain ⟨_, c2, hC⟩ := am_ok hx (c := (am xs (am xs c kCap).2 kRes).2) (l := kRate) (by omega) (by decide) (by decide)
  generalize am xs (am xs (am xs c kCap).2 kRes).2 kRate = C at *
  generalize am xs (am xs c kCap).2 kRes = B at *
  generalize am xs c kCap = A at *
  obtain ⟨_, l2, hL⟩ := am_ok hx (c := C.2) (l := [A.1, IntKind.i64.wrap (A.1.tdiv 2), B.1, IntKind.i64.wrap (A.1 - 7)]) (by omega) (by simp) (by simp)
  generalize am xs C.2 [A.1, IntKind.i64.wrap (A.1.tdiv 2), B.1, IntKind.i64.wrap (A.1 - 7)] = L at *
  obtain ⟨p1, p2, hp⟩ := pk_ok hx (c := L.2) (by omega) 40
  generalize pk xs L.2 40 = P at *
  by_cases c0 : P.1 = 0
  · obtain ⟨_, d2, hd⟩ := am_ok hx (c := P.2) (l := [-1, IntKind.i64.wrap (A.1 + 1), A.1]) (by omega) (by simp) (by simp)
    generalize am xs P.2 [-1, IntKind.i64.wrap (A.1 + 1), A.1] = E at *
    refine ⟨⟨A.1, E.1, C.1⟩, L.1, E.2, by omega, ?_⟩
    refine callOk_of tyOk Try.func19 rfl rfl (le_of_ble rfl) (le_of_ble rfl) (mutOk_box0 rfl) ?_
    repeat' first | refine go_seq ?_ | refine go_region ?_ | ((first | refine go_op rfl ?_ | refine go_nil ?_ | refine go_storeBox rfl rfl rfl rfl rfl rfl ?_ | refine go_call [2, 1] (hA) rfl rfl rfl rfl ?_ | refine go_call [2, 1] (hB) rfl rfl rfl rfl ?_ | refine go_call [2, 1] (hC) rfl rfl rfl rfl ?_ | refine go_call [2, 1] (hL) rfl rfl rfl rfl ?_ | refine go_call [2] (hp) rfl rfl rfl rfl ?_ | refine go_call [2, 1] (hd) rfl rfl rfl rfl ?_ | refine ⟨two_ne', ?_⟩) <;> conv => whnf) | ((first | refine Or.inl ?_ | refine go_loadB ?_ | refine ⟨by kernel_rfl, ?_⟩ | refine go_ret ?_) <;> conv => whnf) | refine go_block ?_ | ((first | refine go_skip ?_ | refine go_exit ?_) <;> conv => whnf) | refine go_true rfl ?_ | refine go_false rfl ?_ | refine go_cond rfl (fun h => ?_) (fun h => ?_) | refine ⟨rfl, ?_⟩ | ((first | refine ⟨trivial, ?_⟩ | refine ⟨le_of_ble rfl, ?_⟩) <;> conv => whnf) | fail
    all_goals first
      | (exfalso; simp only [decide_eq_true_eq, decide_eq_false_iff_not] at *; omega)
      | exact ret_box1two rfl rfl rfl rfl rfl rfl rfl rfl
      | trace_state
  by_cases c1 : P.1 = 1
  · obtain ⟨_, d2, hd⟩ := am_ok hx (c := P.2) (l := [-1, IntKind.i64.wrap (A.1 + 1), 0]) (by omega) (by simp) (by simp)
    generalize am xs P.2 [-1, IntKind.i64.wrap (A.1 + 1), 0] = E at *
    refine ⟨⟨A.1, B.1, C.1⟩, E.1, E.2, by omega, ?_⟩
    refine callOk_of tyOk Try.func19 rfl rfl (le_of_ble rfl) (le_of_ble rfl) (mutOk_box0 rfl) ?_
    repeat' first | refine go_seq ?_ | refine go_region ?_ | ((first | refine go_op rfl ?_ | refine go_nil ?_ | refine go_storeBox rfl rfl rfl rfl rfl rfl ?_ | refine go_call [2, 1] (hA) rfl rfl rfl rfl ?_ | refine go_call [2, 1] (hB) rfl rfl rfl rfl ?_ | refine go_call [2, 1] (hC) rfl rfl rfl rfl ?_ | refine go_call [2, 1] (hL) rfl rfl rfl rfl ?_ | refine go_call [2] (hp) rfl rfl rfl rfl ?_ | refine go_call [2, 1] (hd) rfl rfl rfl rfl ?_ | refine ⟨two_ne', ?_⟩) <;> conv => whnf) | ((first | refine Or.inl ?_ | refine go_loadB ?_ | refine ⟨by kernel_rfl, ?_⟩ | refine go_ret ?_) <;> conv => whnf) | refine go_block ?_ | ((first | refine go_skip ?_ | refine go_exit ?_) <;> conv => whnf) | refine go_true rfl ?_ | refine go_false rfl ?_ | refine go_cond rfl (fun h => ?_) (fun h => ?_) | refine ⟨rfl, ?_⟩ | ((first | refine ⟨trivial, ?_⟩ | refine ⟨le_of_ble rfl, ?_⟩) <;> conv => whnf) | fail
    all_goals first
      | (exfalso; simp only [decide_eq_true_eq, decide_eq_false_iff_not] at *; omega)
      | exact ret_box1two rfl rfl rfl rfl rfl rfl rfl rfl
      | trace_state
  by_cases c3 : P.1 = 2
  · obtain ⟨_, d2, hd⟩ := am_ok hx (c := P.2) (l := kR2) (by omega) (by decide) (by decide)
    generalize am xs P.2 kR2 = E at *
    refine ⟨⟨A.1, B.1, E.1⟩, L.1, E.2, by omega, ?_⟩
    refine callOk_of tyOk Try.func19 rfl rfl (le_of_ble rfl) (le_of_ble rfl) (mutOk_box0 rfl) ?_
    repeat' first | refine go_seq ?_ | refine go_region ?_ | ((first | refine go_op rfl ?_ | refine go_nil ?_ | refine go_storeBox rfl rfl rfl rfl rfl rfl ?_ | refine go_call [2, 1] (hA) rfl rfl rfl rfl ?_ | refine go_call [2, 1] (hB) rfl rfl rfl rfl ?_ | refine go_call [2, 1] (hC) rfl rfl rfl rfl ?_ | refine go_call [2, 1] (hL) rfl rfl rfl rfl ?_ | refine go_call [2] (hp) rfl rfl rfl rfl ?_ | refine go_call [2, 1] (hd) rfl rfl rfl rfl ?_ | refine ⟨two_ne', ?_⟩) <;> conv => whnf) | ((first | refine Or.inl ?_ | refine go_loadB ?_ | refine ⟨by kernel_rfl, ?_⟩ | refine go_ret ?_) <;> conv => whnf) | refine go_block ?_ | ((first | refine go_skip ?_ | refine go_exit ?_) <;> conv => whnf) | refine go_true rfl ?_ | refine go_false rfl ?_ | refine go_cond rfl (fun h => ?_) (fun h => ?_) | refine ⟨rfl, ?_⟩ | ((first | refine ⟨trivial, ?_⟩ | refine ⟨le_of_ble rfl, ?_⟩) <;> conv => whnf) | fail
    all_goals first
      | (exfalso; simp only [decide_eq_true_eq, decide_eq_false_iff_not] at *; omega)
      | exact ret_box1two rfl rfl rfl rfl rfl rfl rfl rfl
      | trace_state
  refine ⟨⟨A.1, B.1, C.1⟩, L.1, P.2, by omega, ?_⟩
  refine callOk_of tyOk Try.func19 rfl rfl (le_of_ble rfl) (le_of_ble rfl) (mutOk_box0 rfl) ?_
  repeat' first | refine go_seq ?_ | refine go_region ?_ | ((first | refine go_op rfl ?_ | refine go_nil ?_ | refine go_storeBox rfl rfl rfl rfl rfl rfl ?_ | refine go_call [2, 1] (hA) rfl rfl rfl rfl ?_ | refine go_call [2, 1] (hB) rfl rfl rfl rfl ?_ | refine go_call [2, 1] (hC) rfl rfl rfl rfl ?_ | refine go_call [2, 1] (hL) rfl rfl rfl rfl ?_ | refine go_call [2] (hp) rfl rfl rfl rfl ?_ | refine ⟨two_ne', ?_⟩) <;> conv => whnf) | ((first | refine Or.inl ?_ | refine go_loadB ?_ | refine ⟨by kernel_rfl, ?_⟩ | refine go_ret ?_) <;> conv => whnf) | refine go_block ?_ | ((first | refine go_skip ?_ | refine go_exit ?_) <;> conv => whnf) | refine go_true rfl ?_ | refine go_false rfl ?_ | refine go_cond rfl (fun h => ?_) (fun h => ?_) | refine ⟨rfl, ?_⟩ | ((first | refine ⟨trivial, ?_⟩ | refine ⟨le_of_ble rfl, ?_⟩) <;> conv => whnf) | fail
  all_goals first
    | (exfalso; simp only [decide_eq_true_eq, decide_eq_false_iff_not] at *; omega)
    | exact ret_box1two rfl rfl rfl rfl rfl rfl rfl rfl
    | trace_state
end Go.Proofs.Ytmijabfckmgaiaa

