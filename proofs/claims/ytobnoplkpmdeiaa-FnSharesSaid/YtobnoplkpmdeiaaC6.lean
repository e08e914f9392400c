/- The draws of FnShares: lists of visits. -/
import Derived.Test.YtobnoplkpmdeiaaC3
import Derived.Test.YtobnoplkpmdeiaaS10
namespace Go.Proofs.Ytobnoplkpmdeiaa
open Go Go.Am
set_option maxRecDepth 100000
set_option maxHeartbeats 4000000
attribute [local irreducible] amOps amC opCall opIndexAddr opPick retQ opMake opStore amDraw opAppend opLoad opNilCmp opIndex opSlice

/-- Where a reader stands. -/
structure Cu where
  k : Nat
  s : Int
def cu (xs : List Int) (c : Cu) : List D := curD xs c.k c.s
def PickP (xs : List Int) (c : Cu) (n : Int) (x : Int × Cu) : Prop := (0 ≤ x.1 ∧ (1 ≤ n → x.1 < n)) ∧ (c.k ≤ x.2.k ∧ x.2.k ≤ c.k + 2) ∧
  CallOk Try.prog 27 [.box 46 (cu xs c), .imm (.int .i64 n)] { res := [.imm (.int .i64 x.1)], muts := [.box 46 ((cu xs x.2).map .imm)], sep := false }
def AmongP (xs : List Int) (c : Cu) (l : List Int) (x : Int × Cu) : Prop := x.1 ∈ l ∧ (c.k ≤ x.2.k ∧ x.2.k ≤ c.k + 2) ∧
  CallOk Try.prog 49 [.box 46 (cu xs c), .imm (.list (l.map intRow))] { res := [.imm (.int .i64 x.1)], muts := [.box 46 ((cu xs x.2).map .imm)], sep := false }
open Classical in
noncomputable def pk (xs : List Int) (c : Cu) (n : Int) : Int × Cu := if h : ∃ x, PickP xs c n x then Classical.choose h else (0, c)
open Classical in
noncomputable def am (xs : List Int) (c : Cu) (l : List Int) : Int × Cu := if h : ∃ x, AmongP xs c l x then Classical.choose h else (0, c)
theorem pk_ok {xs : List Int} (hx : areB xs) {c : Cu} (hk : c.k ≤ 999000) (n : Int) : PickP xs c n (pk xs c n) := by
  have h : ∃ x, PickP xs c n x := by
    obtain ⟨v, k', s', h1, h2, h3⟩ := pick_ok xs hx c.k hk c.s n
    exact ⟨(v, ⟨k', s'⟩), h1, h2, h3⟩
  unfold pk
  rw [dif_pos h]
  exact Classical.choose_spec h
theorem am_ok {xs : List Int} (hx : areB xs) {c : Cu} (hk : c.k ≤ 999000) {l : List Int} (hl : 1 ≤ l.length) (hl2 : l.length ≤ 1000) : AmongP xs c l (am xs c l) := by
  have h : ∃ x, AmongP xs c l x := by
    obtain ⟨v, k', s', h1, h2, h3⟩ := among_ok xs hx c.k hk c.s l hl hl2
    exact ⟨(v, ⟨k', s'⟩), h1, h2, h3⟩
  unfold am
  rw [dif_pos h]
  exact Classical.choose_spec h

theorem c50 (a b : Int) : CallOk Try.prog 50 [.imm (.int .i64 a), .imm (.int .i64 b)] { res := [.imm (.int .i64 (if a < b then a else b))] } := by
  refine callOk_of tyOk Try.func50 rfl rfl (le_of_ble rfl) (le_of_ble rfl) (mutOk_imm rfl _) ?_
  by_cases h1 : a < b
  · rw [if_pos h1]
    repeat' first | refine go_seq ?_ | refine go_region ?_ | ((first | refine go_op rfl ?_ | refine go_nil ?_) <;> conv => whnf) | ((first | refine ⟨by kernel_rfl, ?_⟩ | refine go_ret ?_) <;> conv => whnf) | ((first | refine go_skip ?_) <;> conv => whnf) | refine go_true rfl ?_ | refine go_false rfl ?_ | refine go_cond rfl (fun h => ?_) (fun h => ?_) | refine ⟨rfl, ?_⟩ | ((first | refine ⟨trivial, ?_⟩ | refine ⟨le_of_ble rfl, ?_⟩) <;> conv => whnf) | fail
    all_goals first
      | exact ret_imm rfl rfl rfl rfl rfl rfl
      | (exfalso; simp at h; omega)
  · rw [if_neg h1]
    repeat' first | refine go_seq ?_ | refine go_region ?_ | ((first | refine go_op rfl ?_ | refine go_nil ?_) <;> conv => whnf) | ((first | refine ⟨by kernel_rfl, ?_⟩ | refine go_ret ?_) <;> conv => whnf) | ((first | refine go_skip ?_) <;> conv => whnf) | refine go_true rfl ?_ | refine go_false rfl ?_ | refine go_cond rfl (fun h => ?_) (fun h => ?_) | refine ⟨rfl, ?_⟩ | ((first | refine ⟨trivial, ?_⟩ | refine ⟨le_of_ble rfl, ?_⟩) <;> conv => whnf) | fail
    all_goals first
      | exact ret_imm rfl rfl rfl rfl rfl rfl
      | (exfalso; simp at h; omega)

/-- Small numbers in a visit. -/
def vSm (v : Visit) : Prop := (-10 ≤ v.stop ∧ v.stop ≤ 10) ∧ (0 ≤ v.planned ∧ v.planned ≤ 1799) ∧ (-100 ≤ v.actual ∧ v.actual ≤ 5000) ∧ (-10 ≤ v.persons ∧ v.persons ≤ 2000)
theorem vSm_ok {v : Visit} (h : vSm v) : v.ok := by
  unfold vSm at h
  unfold Visit.ok i64
  omega

structure Vs where
  l : List Visit
  t : Int
  c : Cu
def lA : List Int := [0, 1, 10, 40]
def lB : List Int := [0, 0, 1, 2, 3, 5, 12, -1, -3]
def lC : List Int := [0, 5, 10, 10, 15]
def least (t : Int) : Int := if t < 1799 then t else 1799
def lD : List Int := [-60, -61, 600, 601]
def lE : List Int := [-1, 7, 8]
def lF : List Int := [-1, 1000, 1001]
def lT : List Int := [300, 420, 0, 1700]
theorem in_lA {x : Int} (h : x ∈ lA) : 0 ≤ x ∧ x ≤ 40 := by
  simp only [lA, List.mem_cons, List.not_mem_nil, or_false] at h
  omega
theorem in_lB {x : Int} (h : x ∈ lB) : -3 ≤ x ∧ x ≤ 12 := by
  simp only [lB, List.mem_cons, List.not_mem_nil, or_false] at h
  omega
theorem in_lC {x : Int} (h : x ∈ lC) : 0 ≤ x ∧ x ≤ 15 := by
  simp only [lC, List.mem_cons, List.not_mem_nil, or_false] at h
  omega
theorem in_lD {x : Int} (h : x ∈ lD) : -61 ≤ x ∧ x ≤ 601 := by
  simp only [lD, List.mem_cons, List.not_mem_nil, or_false] at h
  omega
theorem in_lE {x : Int} (h : x ∈ lE) : -1 ≤ x ∧ x ≤ 8 := by
  simp only [lE, List.mem_cons, List.not_mem_nil, or_false] at h
  omega
theorem in_lF {x : Int} (h : x ∈ lF) : -1 ≤ x ∧ x ≤ 1001 := by
  simp only [lF, List.mem_cons, List.not_mem_nil, or_false] at h
  omega
theorem in_lT {x : Int} (h : x ∈ lT) : 0 ≤ x ∧ x ≤ 1700 := by
  simp only [lT, List.mem_cons, List.not_mem_nil, or_false] at h
  omega
noncomputable def vNew (xs : List Int) (a : Vs) : Visit :=
  ⟨(pk xs a.c 3).1, least a.t, IntKind.i64.wrap (least a.t + (am xs (am xs (pk xs a.c 3).2 lA).2 lB).1), (am xs (pk xs a.c 3).2 lA).1⟩
noncomputable def vCu (xs : List Int) (a : Vs) : Cu := (am xs (am xs (pk xs a.c 3).2 lA).2 lB).2
noncomputable def vStep (xs : List Int) (a : Vs) : Vs := ⟨a.l ++ [vNew xs a], IntKind.i64.wrap (a.t + (am xs (vCu xs a) lC).1), (am xs (vCu xs a) lC).2⟩
noncomputable def vAt (xs : List Int) (a : Vs) : Nat → Vs
  | 0 => a
  | i + 1 => vStep xs (vAt xs a i)
def vGo (k0 : Nat) (i : Nat) (a : Vs) : Prop := a.l.length = i ∧ (∀ v ∈ a.l, vSm v) ∧ (0 ≤ a.t ∧ a.t ≤ 1700 + 15 * (i : Int)) ∧ a.c.k ≤ k0 + 10 * i

theorem vStep_go {xs : List Int} (hx : areB xs) {k0 i : Nat} (hk : k0 ≤ 10000) (hi : i ≤ 100) {a : Vs} (h : vGo k0 i a) : vGo k0 (i + 1) (vStep xs a) := by
  obtain ⟨h1, h2, h3, h4⟩ := h
  obtain ⟨p1, p2, _⟩ := pk_ok hx (c := a.c) (by omega) 3
  obtain ⟨a1, a2, _⟩ := am_ok hx (c := (pk xs a.c 3).2) (l := lA) (by omega) (by decide) (by decide)
  obtain ⟨b1, b2, _⟩ := am_ok hx (c := (am xs (pk xs a.c 3).2 lA).2) (l := lB) (by omega) (by decide) (by decide)
  obtain ⟨c1, c2, _⟩ := am_ok hx (c := vCu xs a) (l := lC) (by unfold vCu; omega) (by decide) (by decide)
  have hst := p1.2 (by omega)
  have za1 := in_lA a1
  have zb1 := in_lB b1
  have zc1 := in_lC c1
  have hle : 0 ≤ least a.t ∧ least a.t ≤ 1799 := by unfold least; split <;> omega
  have e1 : IntKind.i64.wrap (least a.t + (am xs (am xs (pk xs a.c 3).2 lA).2 lB).1) = least a.t + (am xs (am xs (pk xs a.c 3).2 lA).2 lB).1 := wrap_small (by omega) (by omega)
  have e2 : IntKind.i64.wrap (a.t + (am xs (vCu xs a) lC).1) = a.t + (am xs (vCu xs a) lC).1 := wrap_small (by omega) (by omega)
  refine ⟨by simp [vStep, h1], ?_, ?_, ?_⟩
  · intro v hv
    simp only [vStep, List.mem_append, List.mem_singleton] at hv
    rcases hv with hv | rfl
    · exact h2 v hv
    · unfold vSm vNew
      simp only
      rw [e1]
      omega
  · simp only [vStep]
    rw [e2]
    omega
  · simp only [vStep]
    have : (vCu xs a).k ≤ a.c.k + 6 := by unfold vCu; omega
    omega
theorem vAt_go {xs : List Int} (hx : areB xs) {k0 : Nat} (hk : k0 ≤ 10000) {a : Vs} (h : vGo k0 0 a) : ∀ i : Nat, i ≤ 100 → vGo k0 i (vAt xs a i)
  | 0, _ => h
  | i + 1, hi => vStep_go hx hk (by omega) (vAt_go hx hk h i (by omega))

/-- How many more visits are put in behind, and where the reader stands then. -/
noncomputable def more (xs : List Int) : Nat → Nat → Cu → Nat × Cu
  | 0, _, c => (0, c)
  | f + 1, n, c => if (n : Int) < 30 + (pk xs c 2).1 then ((more xs f (n + 1) (pk xs c 2).2).1 + 1, (more xs f (n + 1) (pk xs c 2).2).2) else (0, (pk xs c 2).2)
theorem more_le {xs : List Int} (hx : areB xs) : ∀ (f n : Nat) (c : Cu), n ≤ 31 → c.k + 2 * f ≤ 999000 → (more xs f n c).1 + n ≤ 31 ∧ (more xs f n c).2.k ≤ c.k + 2 * f
  | 0, n, c, hn, _ => by simp only [more]; omega
  | f + 1, n, c, hn, hk => by
    obtain ⟨p1, p2, _⟩ := pk_ok hx (c := c) (by omega) 2
    have := p1.2 (by omega)
    simp only [more]
    split
    · have := more_le hx f (n + 1) (pk xs c 2).2 (by omega) (by omega)
      simp only
      omega
    · simp only
      omega

end Go.Proofs.Ytobnoplkpmdeiaa

