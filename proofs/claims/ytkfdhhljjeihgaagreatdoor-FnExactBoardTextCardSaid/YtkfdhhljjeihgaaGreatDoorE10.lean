/- Sorting of departures. -/
import Derived.Test.YtkfdhhljjeihgaaGreatDoorEA
import Derived.Test.YtkfdhhljjeihgaaGreatDoorAmS
namespace Go.Proofs.YtkfdhhljjeihgaaGreatDoor
open Go Go.Am Go.Proofs
set_option maxRecDepth 100000
set_option maxHeartbeats 4000000
attribute [local irreducible] amOps amC opCall opIndexAddr opPick retQ opMake opStore amDraw opAppend opLoad opNilCmp opIndex opSlice

instance : Inhabited Dep := ⟨⟨⟨0, 0, 0⟩, 0, 0⟩⟩
def kw (d : Dep) : Int := IntKind.i64.wrap (d.time + d.delay)
def depC (x y : Dep) : Int := orF [cmpI (kw x) (kw y), cmpI x.time y.time]
def depLt (x y : Dep) : Bool := decide (kw x < kw y) || (decide (kw x = kw y) && decide (x.time < y.time))
theorem depLt_eq : Go.Proofs.ltOf depC = depLt := by
  funext x y
  unfold Go.Proofs.ltOf depC depLt
  generalize kw x = a
  generalize kw y = b
  generalize x.time = c
  generalize y.time = e
  by_cases h1 : a < b
  · have h : orF [cmpI a b, cmpI c e] = -1 := by simp [orF, cmpI, h1]
    rw [h, decide_eq_true h1]
    rfl
  · by_cases h2 : b < a
    · have h : orF [cmpI a b, cmpI c e] = 1 := by simp [orF, cmpI, h1, h2]
      have h3 : ¬ a = b := by omega
      rw [h, decide_eq_false h1, decide_eq_false h3]
      rfl
    · have h3 : a = b := by omega
      subst h3
      rw [decide_eq_false h1, decide_eq_true rfl]
      by_cases h4 : c < e
      · have h : orF [cmpI a a, cmpI c e] = -1 := by simp [orF, cmpI, h4]
        rw [h, decide_eq_true h4]
        rfl
      · rw [decide_eq_false h4]
        by_cases h5 : e < c
        · have h : orF [cmpI a a, cmpI c e] = 1 := by simp [orF, cmpI, h4, h5]
          rw [h]
          rfl
        · have h : orF [cmpI a a, cmpI c e] = 0 := by simp [orF, cmpI, h4, h5]
          rw [h]
          rfl
theorem depLt_iff (x y : Dep) : depLt x y = true ↔ kw x < kw y ∨ (kw x = kw y ∧ x.time < y.time) := by
  unfold depLt
  simp only [decide_eq_true_eq, Bool.or_eq_true, Bool.and_eq_true]
theorem depLt_not (x y : Dep) : depLt x y = false ↔ ¬ (kw x < kw y ∨ (kw x = kw y ∧ x.time < y.time)) := by
  rw [← depLt_iff, Bool.not_eq_true]
theorem depWeak : Weak depLt := by
  refine ⟨fun x y h => ?_, fun x y z h1 h2 => ?_⟩
  · rw [depLt_iff] at h
    rw [depLt_not]
    omega
  · rw [depLt_not] at h1 h2 ⊢
    omega

theorem c60 (x y : Dep) : CallOk Tryz.prog 60 [.imm (.agg x.enc), .imm (.agg y.enc)] { res := [.imm (.int .i64 (depC x y))] } := by
  refine callOk_of tyOk Tryz.func60 rfl rfl (le_of_ble rfl) (le_of_ble rfl) (mutOk_imm rfl _) ?_
  have h1 := c62 (kw x) (kw y)
  have h2 := c62 x.time y.time
  have h3 := c61 [cmpI (kw x) (kw y), cmpI x.time y.time] (by simp)
  unfold kw at h1 h3
  repeat' first | refine go_seq ?_ | refine go_region ?_ | refine go_draw drawsOk ?_ | ((first | refine go_op rfl ?_ | refine go_nil ?_ | refine go_dop rfl ?_ | refine go_dend (by kernel_rfl) ?_ | refine go_call [] (h1) rfl rfl rfl rfl ?_ | refine go_call [] (h2) rfl rfl rfl rfl ?_ | refine go_call [] (h3) rfl rfl rfl rfl ?_) <;> conv => whnf) | ((first | refine go_loadB ?_ | refine ⟨by kernel_rfl, ?_⟩ | refine go_ret ?_) <;> conv => whnf) | ((first | refine go_skip ?_) <;> conv => whnf) | refine ⟨rfl, ?_⟩ | ((first | refine ⟨trivial, ?_⟩ | refine ⟨le_of_ble rfl, ?_⟩) <;> conv => whnf) | fail
  all_goals exact ret_imm rfl rfl rfl rfl rfl rfl

def insRen : Go.Shelf.Ren := ⟨fun | 20 => 99 | n => n, fun | 22 => 106 | 24 => 110 | 25 => 112 | 0 => 0 | 3 => 3 | 4 => 4 | n => n, fun n => n⟩
theorem insLays : SlLaysF0.n20 Tryz.prog insRen := {
  mixed := by kernel_rfl
  f20 := ⟨Tryz.f99.name, by kernel_rfl, Tryz.func99.trans (congrArg some (by kernel_rfl))⟩
  t0 := Tryz.underlying0
  a0 := Tryz.isAgg0
  z0 := Tryz.sizeOf0
  v0 := Tryz.zeroValue0
  t3 := Tryz.underlying3
  a3 := Tryz.isAgg3
  z3 := Tryz.sizeOf3
  v3 := Tryz.zeroValue3
  t4 := Tryz.underlying4
  a4 := Tryz.isAgg4
  z4 := Tryz.sizeOf4
  v4 := Tryz.zeroValue4
  t22 := Tryz.underlying106
  a22 := Tryz.isAgg106
  z22 := Tryz.sizeOf106
  v22 := Tryz.zeroValue106
  t25 := Tryz.underlying112
  a25 := Tryz.isAgg112
  z25 := Tryz.sizeOf112
  v25 := Tryz.zeroValue112 }

theorem dep_pl (x : Dep) : ∀ d ∈ x.enc, d.pl = true := by
  intro d hd
  simp only [Dep.enc, List.mem_cons, List.not_mem_nil, or_false] at hd
  rcases hd with rfl | rfl | rfl | rfl | rfl <;> rfl

theorem c99 (ds : List Dep) (hl : ds.length ≤ 1048576) : CallOk Tryz.prog 99 [.arr 110 5 (ds.map Dep.enc), .imm (.int .i64 0), .imm (.int .i64 ds.length), .imm (.fn 60 [])]
    { res := [], muts := [.arr 110 5 ((sortL depLt ds).map Dep.enc)] } := by
  cases hd : ds with
  | cons d r =>
    have h := callOk_insFn insLays ⟨_, Tryz.func99, rfl, rfl⟩ (k := 5) Tryz.isAgg110 Tryz.sizeOf110 (enc := Dep.enc) (fun _ => rfl) dep_pl (cf := depC) (g := 60) (caps := []) c60 110 ds (by rw [hd]; simp) (by omega)
    rw [depLt_eq, insertionSort_list depWeak, hd] at h
    exact h
  | nil =>
    refine callOk_of tyOk Tryz.func99 rfl rfl (le_of_ble rfl) (le_of_ble rfl) (mutOk_arr0 rfl (Nat.le_refl _)) ?_
    repeat' first | refine go_seq ?_ | refine go_region ?_ | refine go_miss rfl rfl rfl ?_ | refine go_undef rfl rfl rfl ?_ | refine go_draw drawsOk ?_ | ((first | refine go_op rfl ?_ | refine go_nil ?_ | refine go_hit rfl rfl rfl ?_ | refine go_splitT rfl rfl rfl (fun h => ?_) (fun h => ?_) | refine go_splitF rfl rfl rfl (fun h => ?_) (fun h => ?_) | refine go_storeBox rfl rfl rfl rfl rfl rfl ?_ | refine go_dop rfl ?_ | refine go_dhit rfl rfl ?_ | refine go_dmiss rfl rfl ?_ | refine go_dundef rfl rfl ?_ | refine go_dend (by kernel_rfl) ?_ | refine go_pickT rfl ?_ | refine go_pickF rfl ?_ | refine go_pick rfl (fun h => ?_) (fun h => ?_)) <;> conv => whnf) | ((first | refine go_dsplit2 rfl (fun h => ?_) (fun h => ?_) | refine go_loadB ?_ | refine ⟨by kernel_rfl, ?_⟩ | refine go_ret ?_) <;> conv => whnf) | refine go_block ?_ | ((first | refine go_skip ?_ | refine go_exit ?_) <;> conv => whnf) | refine go_true rfl ?_ | refine go_false rfl ?_ | refine go_cond rfl (fun h => ?_) (fun h => ?_) | refine ⟨rfl, ?_⟩ | ((first | refine ⟨trivial, ?_⟩ | refine ⟨le_of_ble rfl, ?_⟩) <;> conv => whnf) | fail
    refine go_loop (α := Unit) (fun _ => True) (fun _ => 0) (fun _ => st Tryz.f99.ntmps [(0, .own 1000 0 0), (1, .imm (.int .i64 0)), (2, .imm (.int .i64 0)), (3, .imm (.fn 60 [])), (8, .imm (.int .i64 1))] [(1000, .arr 110 5 [])] [1000]) () trivial ?_ ?_
    · exact ref_st (fun _ => 0) rfl ⟨⟨rfl, rfl⟩, rfl, rfl, rfl, rfl, trivial⟩ ⟨rfl, trivial⟩ (by simp) rfl (by simp [lookM])
    intro _ _
    repeat' first | refine go_seq ?_ | refine go_region ?_ | refine go_miss rfl rfl rfl ?_ | refine go_undef rfl rfl rfl ?_ | refine go_draw drawsOk ?_ | ((first | refine go_op rfl ?_ | refine go_nil ?_ | refine go_hit rfl rfl rfl ?_ | refine go_splitT rfl rfl rfl (fun h => ?_) (fun h => ?_) | refine go_splitF rfl rfl rfl (fun h => ?_) (fun h => ?_) | refine go_storeBox rfl rfl rfl rfl rfl rfl ?_ | refine go_dop rfl ?_ | refine go_dhit rfl rfl ?_ | refine go_dmiss rfl rfl ?_ | refine go_dundef rfl rfl ?_ | refine go_dend (by kernel_rfl) ?_ | refine go_pickT rfl ?_ | refine go_pickF rfl ?_ | refine go_pick rfl (fun h => ?_) (fun h => ?_)) <;> conv => whnf) | ((first | refine go_dsplit2 rfl (fun h => ?_) (fun h => ?_) | refine go_loadB ?_ | refine ⟨by kernel_rfl, ?_⟩ | refine go_ret ?_) <;> conv => whnf) | refine go_block ?_ | ((first | refine go_skip ?_ | refine go_exit ?_) <;> conv => whnf) | refine go_true rfl ?_ | refine go_false rfl ?_ | refine go_cond rfl (fun h => ?_) (fun h => ?_) | refine ⟨rfl, ?_⟩ | ((first | refine ⟨trivial, ?_⟩ | refine ⟨le_of_ble rfl, ?_⟩) <;> conv => whnf) | fail
    all_goals first
      | exact ret_mutU rfl rfl rfl rfl (by intro x hx; cases hx)
      | (exfalso; simp at h; done)
      | trace_state

theorem c82 (ds : List Dep) (hl : ds.length ≤ 12) : CallOk Tryz.prog 82 [.arr 110 5 (ds.map Dep.enc), .imm (.int .i64 ds.length), .imm (.fn 60 [])]
    { res := [], muts := [.arr 110 5 ((sortL depLt ds).map Dep.enc)] } := by
  refine callOk_of tyOk Tryz.func82 rfl rfl (le_of_ble rfl) (le_of_ble rfl) (mutOk_arr0 rfl (by simp [sortL_len depWeak])) ?_
  have hc := c99 ds (by omega)
  have hsl : ((sortL depLt ds).map Dep.enc).length = (ds.map Dep.enc).length := by simp [sortL_len depWeak]
  repeat' first | refine go_seq ?_ | refine go_region ?_ | ((first | refine go_op rfl ?_ | refine go_nil ?_) <;> conv => whnf) | ((first | refine ⟨by kernel_rfl, ?_⟩ | refine go_ret ?_) <;> conv => whnf) | refine go_block ?_ | ((first | refine go_skip ?_ | refine go_exit ?_) <;> conv => whnf) | refine go_true rfl ?_ | refine go_false rfl ?_ | refine go_cond rfl (fun h => ?_) (fun h => ?_) | refine ⟨rfl, ?_⟩ | ((first | refine ⟨trivial, ?_⟩ | refine ⟨le_of_ble rfl, ?_⟩) <;> conv => whnf) | fail
  refine go_loop (α := Unit) (fun _ => True) (fun _ => 0) (fun _ => st Tryz.f82.ntmps [(0, .own 1000 0 (ds.map Dep.enc).length), (1, .imm (.int .i64 ds.length)), (2, .imm (.fn 60 [])), (6, .imm (.int .i64 20)), (7, .imm (.int .i64 0)), (8, .imm (.int .i64 20))] [(1000, .arr 110 5 (ds.map Dep.enc))] [1000]) () trivial ?_ ?_
  · exact ref_st (fun _ => 0) rfl ⟨⟨rfl, rfl⟩, rfl, rfl, rfl, rfl, rfl, trivial⟩ ⟨rfl, trivial⟩ (by simp) rfl (by simp [lookM])
  intro _ _
  repeat' first | refine go_seq ?_ | refine go_region ?_ | ((first | refine go_op rfl ?_ | refine go_nil ?_ | refine go_call [2, 0, 0, 0] hc (argsIn_lent rfl rfl rfl) rfl rfl rfl ?_) <;> conv => whnf) | ((first | refine ⟨by kernel_rfl, ?_⟩ | refine go_ret ?_) <;> conv => whnf) | refine go_block ?_ | ((first | refine go_skip ?_ | refine go_exit ?_) <;> conv => whnf) | refine go_true rfl ?_ | refine go_false rfl ?_ | refine go_cond rfl (fun h => ?_) (fun h => ?_) | refine ⟨rfl, ?_⟩ | ((first | refine ⟨trivial, ?_⟩ | refine ⟨le_of_ble rfl, ?_⟩) <;> conv => whnf) | fail
  all_goals try first
    | (exfalso; have h' := of_decide_eq_true h; omega)
  refine go_loop (α := Unit) (fun _ => True) (fun _ => 0) (fun _ => st Tryz.f82.ntmps [(0, .own 1000 0 (ds.map Dep.enc).length), (1, .imm (.int .i64 ds.length)), (2, .imm (.fn 60 [])), (6, .imm (.int .i64 20))] [(1000, .arr 110 5 ((sortL depLt ds).map Dep.enc))] [1000]) () trivial ?_ ?_
  · exact ref_st id rfl ⟨⟨rfl, rfl⟩, rfl, rfl, rfl, trivial⟩ ⟨rfl, trivial⟩ (by simp) rfl (by simp [lookM])
  intro _ _
  repeat' first | refine go_seq ?_ | refine go_region ?_ | ((first | refine go_op rfl ?_ | refine go_nil ?_) <;> conv => whnf) | ((first | refine ⟨by kernel_rfl, ?_⟩ | refine go_ret ?_) <;> conv => whnf) | refine go_block ?_ | ((first | refine go_skip ?_ | refine go_exit ?_) <;> conv => whnf) | refine go_true rfl ?_ | refine go_false rfl ?_ | refine go_cond rfl (fun h => ?_) (fun h => ?_) | refine ⟨rfl, ?_⟩ | ((first | refine ⟨trivial, ?_⟩ | refine ⟨le_of_ble rfl, ?_⟩) <;> conv => whnf) | fail
  all_goals first
    | exact ret_mutU rfl rfl rfl rfl (dep_gr _)
    | (exfalso; have h' := of_decide_eq_true h; omega)
    | trace_state

theorem c59 (ds : List Dep) (hl : ds.length ≤ 12) : CallOk Tryz.prog 59 [.arr 110 5 (ds.map Dep.enc), .imm (.fn 60 [])]
    { res := [], muts := [.arr 110 5 ((sortL depLt ds).map Dep.enc)] } := by
  refine callOk_of tyOk Tryz.func59 rfl rfl (le_of_ble rfl) (le_of_ble rfl) (mutOk_arr0 rfl (by simp [sortL_len depWeak])) ?_
  have hc := c82 ds hl
  have hml : (ds.map Dep.enc).length = ds.length := List.length_map _
  rw [← hml] at hc
  repeat' first | refine go_seq ?_ | refine go_region ?_ | ((first | refine go_op rfl ?_ | refine go_nil ?_ | refine go_call [2, 0, 0] hc (argsIn_lent rfl rfl rfl) rfl rfl rfl ?_) <;> conv => whnf) | ((first | refine ⟨by kernel_rfl, ?_⟩ | refine go_ret ?_) <;> conv => whnf) | ((first | refine go_skip ?_) <;> conv => whnf) | refine ⟨rfl, ?_⟩ | ((first | refine ⟨trivial, ?_⟩ | refine ⟨le_of_ble rfl, ?_⟩) <;> conv => whnf) | fail
  all_goals exact ret_mutU rfl rfl rfl rfl (dep_gr _)
end Go.Proofs.YtkfdhhljjeihgaaGreatDoor

