/- The matches of a report: the program, the reference. MADE BY PROGRAM (q2.py). -/
import Derived.Test.YtmbaalkeogckbaaGreatQ1
import Derived.Test.YtmbaalkeogckbaaGreatAmS
namespace Go.Proofs.YtmbaalkeogckbaaGreat
open Go Go.Am Go.Proofs
set_option maxRecDepth 100000
set_option maxHeartbeats 4000000
attribute [local irreducible] amOps amC opCall opIndexAddr opPick retQ opMake opStore amDraw opAppend opLoad opNilCmp opIndex opSlice

instance : Inhabited Match := ⟨⟨0, 0, 0⟩⟩
def absI (n : Int) : Int := if IntKind.i64.wrap (0 - n) > n then IntKind.i64.wrap (0 - n) else n
theorem c90 (n : Int) : CallOk Tryz.prog 90 [.imm (.int .i64 n)] { res := [.imm (.int .i64 (absI n))] } := by
  refine callOk_of tyOk Tryz.func90 rfl rfl (le_of_ble rfl) (le_of_ble rfl) (mutOk_imm rfl _) ?_
  repeat' first | refine go_seq ?_ | refine go_region ?_ | ((first | refine go_op rfl ?_ | refine go_nil ?_) <;> conv => whnf) | ((first | refine ⟨by kernel_rfl, ?_⟩ | refine go_ret ?_) <;> conv => whnf) | ((first | refine go_skip ?_) <;> conv => whnf) | refine ⟨rfl, ?_⟩ | ((first | refine ⟨trivial, ?_⟩ | refine ⟨le_of_ble rfl, ?_⟩) <;> conv => whnf) | fail
  all_goals exact ret_imm rfl rfl rfl rfl rfl rfl
theorem c120 (a b : Int) : CallOk Tryz.prog 120 [.imm (.int .i64 a), .imm (.int .i64 b)] { res := [.imm (.int .i64 (if a > b then a else b))] } := by
  refine callOk_of tyOk Tryz.func120 rfl rfl (le_of_ble rfl) (le_of_ble rfl) (mutOk_imm rfl _) ?_
  repeat' first | refine go_seq ?_ | refine go_region ?_ | ((first | refine go_op rfl ?_ | refine go_nil ?_) <;> conv => whnf) | ((first | refine ⟨by kernel_rfl, ?_⟩ | refine go_ret ?_) <;> conv => whnf) | ((first | refine go_skip ?_) <;> conv => whnf) | refine go_true rfl ?_ | refine go_false rfl ?_ | refine go_cond rfl (fun h => ?_) (fun h => ?_) | refine ⟨rfl, ?_⟩ | ((first | refine ⟨trivial, ?_⟩ | refine ⟨le_of_ble rfl, ?_⟩) <;> conv => whnf) | fail
  all_goals first
    | (refine ret_imm rfl rfl rfl rfl ?_ rfl; rw [if_pos (by simpa using h)]; done)
    | (refine ret_imm rfl rfl rfl rfl ?_ rfl; rw [if_neg (by simpa using h)]; done)
theorem c85 (n : Int) : CallOk Tryz.prog 85 [.imm (.int .i64 n)] { res := [.imm (.int .i64 (absI n))] } := by
  refine callOk_of tyOk Tryz.func85 rfl rfl (le_of_ble rfl) (le_of_ble rfl) (mutOk_imm rfl _) ?_
  have h1 := c120 n (IntKind.i64.wrap (0 - n))
  have e : (if n > IntKind.i64.wrap (0 - n) then n else IntKind.i64.wrap (0 - n)) = absI n := by unfold absI; split <;> split <;> omega
  rw [e] at h1
  repeat' first | refine go_seq ?_ | refine go_region ?_ | ((first | refine go_op rfl ?_ | refine go_nil ?_ | refine go_call [] (h1) rfl rfl rfl rfl ?_) <;> conv => whnf) | ((first | refine ⟨by kernel_rfl, ?_⟩ | refine go_ret ?_) <;> conv => whnf) | ((first | refine go_skip ?_) <;> conv => whnf) | refine ⟨rfl, ?_⟩ | ((first | refine ⟨trivial, ?_⟩ | refine ⟨le_of_ble rfl, ?_⟩) <;> conv => whnf) | fail
  all_goals exact ret_imm rfl rfl rfl rfl rfl rfl

def fitC (x y : Match) : Int := orF [cmpI (absI x.delay) (absI y.delay), cmpI x.delay y.delay]
def fitLt (x y : Match) : Bool := decide (absI x.delay < absI y.delay) || (decide (absI x.delay = absI y.delay) && decide (x.delay < y.delay))
theorem lex2 (a b c e : Int) : decide (orF [cmpI a b, cmpI c e] < 0) = (decide (a < b) || (decide (a = b) && decide (c < e))) := by
  by_cases h1 : a < b
  · have h : orF [cmpI a b, cmpI c e] = -1 := by simp [orF, cmpI, h1]
    rw [h, decide_eq_true h1]
    rfl
  · by_cases h2 : b < a
    · have h : orF [cmpI a b, cmpI c e] = 1 := by simp [orF, cmpI, h1, h2]
      have h3 : ¬ a = b := by omega
      rw [h, decide_eq_false h1, decide_eq_false h3]
      rfl
    · have h3 : a = b := by omega
      subst h3
      rw [decide_eq_false h1, decide_eq_true rfl]
      by_cases h4 : c < e
      · have h : orF [cmpI a a, cmpI c e] = -1 := by simp [orF, cmpI, h4]
        rw [h, decide_eq_true h4]
        rfl
      · rw [decide_eq_false h4]
        by_cases h5 : e < c
        · have h : orF [cmpI a a, cmpI c e] = 1 := by simp [orF, cmpI, h4, h5]
          rw [h]
          rfl
        · have h : orF [cmpI a a, cmpI c e] = 0 := by simp [orF, cmpI, h4, h5]
          rw [h]
          rfl
theorem fitLt_eq : Go.Proofs.ltOf fitC = fitLt := by
  funext x y
  unfold Go.Proofs.ltOf fitC fitLt
  exact lex2 _ _ _ _
theorem fitLt_iff (x y : Match) : fitLt x y = true ↔ absI x.delay < absI y.delay ∨ (absI x.delay = absI y.delay ∧ x.delay < y.delay) := by
  unfold fitLt
  simp only [decide_eq_true_eq, Bool.or_eq_true, Bool.and_eq_true]
theorem fitLt_not (x y : Match) : fitLt x y = false ↔ ¬ (absI x.delay < absI y.delay ∨ (absI x.delay = absI y.delay ∧ x.delay < y.delay)) := by
  rw [← fitLt_iff, Bool.not_eq_true]
theorem fitWeak : Weak fitLt := by
  refine ⟨fun x y h => ?_, fun x y z h1 h2 => ?_⟩
  · rw [fitLt_iff] at h
    rw [fitLt_not]
    omega
  · rw [fitLt_not] at h1 h2 ⊢
    omega

theorem c123 (x y : Match) : CallOk Tryz.prog 123 [.imm (.agg x.enc), .imm (.agg y.enc)] { res := [.imm (.int .i64 (fitC x y))] } := by
  refine callOk_of tyOk Tryz.func123 rfl rfl (le_of_ble rfl) (le_of_ble rfl) (mutOk_imm rfl _) ?_
  have h0 := c90 x.delay
  have h00 := c90 y.delay
  have h1 := c94 (absI x.delay) (absI y.delay)
  have h2 := c94 x.delay y.delay
  have h3 := c93 [cmpI (absI x.delay) (absI y.delay), cmpI x.delay y.delay] (by simp)
  repeat' first | refine go_seq ?_ | refine go_region ?_ | refine go_draw drawsOk ?_ | ((first | refine go_op rfl ?_ | refine go_nil ?_ | refine go_dop rfl ?_ | refine go_dend (by kernel_rfl) ?_ | refine go_call [] (h0) rfl rfl rfl rfl ?_ | refine go_call [] (h00) rfl rfl rfl rfl ?_ | refine go_call [] (h1) rfl rfl rfl rfl ?_ | refine go_call [] (h2) rfl rfl rfl rfl ?_ | refine go_call [] (h3) rfl rfl rfl rfl ?_) <;> conv => whnf) | ((first | refine go_loadB ?_ | refine ⟨by kernel_rfl, ?_⟩ | refine go_ret ?_) <;> conv => whnf) | ((first | refine go_skip ?_) <;> conv => whnf) | refine ⟨rfl, ?_⟩ | ((first | refine ⟨trivial, ?_⟩ | refine ⟨le_of_ble rfl, ?_⟩) <;> conv => whnf) | fail
  all_goals exact ret_imm rfl rfl rfl rfl rfl rfl

def insRen : Go.Shelf.Ren := ⟨fun | 20 => 149 | n => n, fun | 22 => 53 | 24 => 93 | 25 => 123 | 0 => 0 | 3 => 3 | 4 => 4 | n => n, fun n => n⟩
theorem insLays : SlLaysF0.n20 Tryz.prog insRen := {
  mixed := by kernel_rfl
  f20 := ⟨Tryz.f149.name, by kernel_rfl, Tryz.func149.trans (congrArg some (by kernel_rfl))⟩
  t0 := Tryz.underlying0
  a0 := Tryz.isAgg0
  z0 := Tryz.sizeOf0
  v0 := Tryz.zeroValue0
  t3 := Tryz.underlying3
  a3 := Tryz.isAgg3
  z3 := Tryz.sizeOf3
  v3 := Tryz.zeroValue3
  t4 := Tryz.underlying4
  a4 := Tryz.isAgg4
  z4 := Tryz.sizeOf4
  v4 := Tryz.zeroValue4
  t22 := Tryz.underlying53
  a22 := Tryz.isAgg53
  z22 := Tryz.sizeOf53
  v22 := Tryz.zeroValue53
  t25 := Tryz.underlying123
  a25 := Tryz.isAgg123
  z25 := Tryz.sizeOf123
  v25 := Tryz.zeroValue123 }

theorem match_pl (x : Match) : ∀ d ∈ x.enc, d.pl = true := by
  intro d hd
  simp only [Match.enc, List.mem_cons, List.not_mem_nil, or_false] at hd
  rcases hd with rfl | rfl | rfl <;> rfl

theorem c149 (ds : List Match) (hl : ds.length ≤ 1048576) : CallOk Tryz.prog 149 [.arr 93 3 (ds.map Match.enc), .imm (.int .i64 0), .imm (.int .i64 ds.length), .imm (.fn 123 [])]
    { res := [], muts := [.arr 93 3 ((sortL fitLt ds).map Match.enc)] } := by
  cases hd : ds with
  | cons d r =>
    have h := callOk_insFn insLays ⟨_, Tryz.func149, rfl, rfl⟩ (k := 3) Tryz.isAgg93 Tryz.sizeOf93 (enc := Match.enc) (fun _ => rfl) match_pl (cf := fitC) (g := 123) (caps := []) c123 rfl 93 ds (by rw [hd]; simp) (by omega)
    rw [fitLt_eq, insertionSort_list fitWeak, hd] at h
    exact h
  | nil =>
    refine callOk_of tyOk Tryz.func149 rfl rfl (le_of_ble rfl) (le_of_ble rfl) (mutOk_arr0 rfl (Nat.le_refl _)) ?_
    repeat' first | refine go_seq ?_ | refine go_region ?_ | refine go_miss rfl rfl rfl ?_ | refine go_undef rfl rfl rfl ?_ | refine go_draw drawsOk ?_ | ((first | refine go_op rfl ?_ | refine go_nil ?_ | refine go_hit rfl rfl rfl ?_ | refine go_splitT rfl rfl rfl (fun h => ?_) (fun h => ?_) | refine go_splitF rfl rfl rfl (fun h => ?_) (fun h => ?_) | refine go_storeBox rfl rfl rfl rfl rfl rfl ?_ | refine go_dop rfl ?_ | refine go_dhit rfl rfl ?_ | refine go_dmiss rfl rfl ?_ | refine go_dundef rfl rfl ?_ | refine go_dend (by kernel_rfl) ?_ | refine go_pickT rfl ?_ | refine go_pickF rfl ?_ | refine go_pick rfl (fun h => ?_) (fun h => ?_)) <;> conv => whnf) | ((first | refine go_dsplit2 rfl (fun h => ?_) (fun h => ?_) | refine go_loadB ?_ | refine ⟨by kernel_rfl, ?_⟩ | refine go_ret ?_) <;> conv => whnf) | refine go_block ?_ | ((first | refine go_skip ?_ | refine go_exit ?_) <;> conv => whnf) | refine go_true rfl ?_ | refine go_false rfl ?_ | refine go_cond rfl (fun h => ?_) (fun h => ?_) | refine ⟨rfl, ?_⟩ | ((first | refine ⟨trivial, ?_⟩ | refine ⟨le_of_ble rfl, ?_⟩) <;> conv => whnf) | fail
    refine go_loop (α := Unit) (fun _ => True) (fun _ => 0) (fun _ => st Tryz.f149.ntmps [(0, .own 1000 0 0), (1, .imm (.int .i64 0)), (2, .imm (.int .i64 0)), (3, .imm (.fn 123 [])), (8, .imm (.int .i64 1))] [(1000, .arr 93 3 [])] [1000]) () trivial ?_ ?_
    · exact ref_st (fun _ => 0) rfl ⟨⟨rfl, rfl⟩, rfl, rfl, rfl, rfl, trivial⟩ ⟨rfl, trivial⟩ (by simp) rfl (by simp [lookM])
    intro _ _
    repeat' first | refine go_seq ?_ | refine go_region ?_ | refine go_miss rfl rfl rfl ?_ | refine go_undef rfl rfl rfl ?_ | refine go_draw drawsOk ?_ | ((first | refine go_op rfl ?_ | refine go_nil ?_ | refine go_hit rfl rfl rfl ?_ | refine go_splitT rfl rfl rfl (fun h => ?_) (fun h => ?_) | refine go_splitF rfl rfl rfl (fun h => ?_) (fun h => ?_) | refine go_storeBox rfl rfl rfl rfl rfl rfl ?_ | refine go_dop rfl ?_ | refine go_dhit rfl rfl ?_ | refine go_dmiss rfl rfl ?_ | refine go_dundef rfl rfl ?_ | refine go_dend (by kernel_rfl) ?_ | refine go_pickT rfl ?_ | refine go_pickF rfl ?_ | refine go_pick rfl (fun h => ?_) (fun h => ?_)) <;> conv => whnf) | ((first | refine go_dsplit2 rfl (fun h => ?_) (fun h => ?_) | refine go_loadB ?_ | refine ⟨by kernel_rfl, ?_⟩ | refine go_ret ?_) <;> conv => whnf) | refine go_block ?_ | ((first | refine go_skip ?_ | refine go_exit ?_) <;> conv => whnf) | refine go_true rfl ?_ | refine go_false rfl ?_ | refine go_cond rfl (fun h => ?_) (fun h => ?_) | refine ⟨rfl, ?_⟩ | ((first | refine ⟨trivial, ?_⟩ | refine ⟨le_of_ble rfl, ?_⟩) <;> conv => whnf) | fail
    all_goals first
      | exact ret_mutU rfl rfl rfl rfl (by intro x hx; cases hx)
      | (exfalso; simp at h; done)
      | trace_state

theorem c148 (ds : List Match) (hl : ds.length ≤ 12) : CallOk Tryz.prog 148 [.arr 93 3 (ds.map Match.enc), .imm (.int .i64 ds.length), .imm (.fn 123 [])]
    { res := [], muts := [.arr 93 3 ((sortL fitLt ds).map Match.enc)] } := by
  refine callOk_of tyOk Tryz.func148 rfl rfl (le_of_ble rfl) (le_of_ble rfl) (mutOk_arr0 rfl (by simp [sortL_len fitWeak])) ?_
  have hc := c149 ds (by omega)
  have hsl : ((sortL fitLt ds).map Match.enc).length = (ds.map Match.enc).length := by simp [sortL_len fitWeak]
  repeat' first | refine go_seq ?_ | refine go_region ?_ | ((first | refine go_op rfl ?_ | refine go_nil ?_) <;> conv => whnf) | ((first | refine ⟨by kernel_rfl, ?_⟩ | refine go_ret ?_) <;> conv => whnf) | refine go_block ?_ | ((first | refine go_skip ?_ | refine go_exit ?_) <;> conv => whnf) | refine go_true rfl ?_ | refine go_false rfl ?_ | refine go_cond rfl (fun h => ?_) (fun h => ?_) | refine ⟨rfl, ?_⟩ | ((first | refine ⟨trivial, ?_⟩ | refine ⟨le_of_ble rfl, ?_⟩) <;> conv => whnf) | fail
  refine go_loop (α := Unit) (fun _ => True) (fun _ => 0) (fun _ => st Tryz.f148.ntmps [(0, .own 1000 0 (ds.map Match.enc).length), (1, .imm (.int .i64 ds.length)), (2, .imm (.fn 123 [])), (6, .imm (.int .i64 20)), (7, .imm (.int .i64 0)), (8, .imm (.int .i64 20))] [(1000, .arr 93 3 (ds.map Match.enc))] [1000]) () trivial ?_ ?_
  · exact ref_st (fun _ => 0) rfl ⟨⟨rfl, rfl⟩, rfl, rfl, rfl, rfl, rfl, trivial⟩ ⟨rfl, trivial⟩ (by simp) rfl (by simp [lookM])
  intro _ _
  repeat' first | refine go_seq ?_ | refine go_region ?_ | ((first | refine go_op rfl ?_ | refine go_nil ?_ | refine go_call [2, 0, 0, 0] hc (argsIn_lent rfl rfl rfl) rfl rfl rfl ?_) <;> conv => whnf) | ((first | refine ⟨by kernel_rfl, ?_⟩ | refine go_ret ?_) <;> conv => whnf) | refine go_block ?_ | ((first | refine go_skip ?_ | refine go_exit ?_) <;> conv => whnf) | refine go_true rfl ?_ | refine go_false rfl ?_ | refine go_cond rfl (fun h => ?_) (fun h => ?_) | refine ⟨rfl, ?_⟩ | ((first | refine ⟨trivial, ?_⟩ | refine ⟨le_of_ble rfl, ?_⟩) <;> conv => whnf) | fail
  all_goals try first
    | (exfalso; have h' := of_decide_eq_true h; omega)
  refine go_loop (α := Unit) (fun _ => True) (fun _ => 0) (fun _ => st Tryz.f148.ntmps [(0, .own 1000 0 (ds.map Match.enc).length), (1, .imm (.int .i64 ds.length)), (2, .imm (.fn 123 [])), (6, .imm (.int .i64 20))] [(1000, .arr 93 3 ((sortL fitLt ds).map Match.enc))] [1000]) () trivial ?_ ?_
  · exact ref_st id rfl ⟨⟨rfl, rfl⟩, rfl, rfl, rfl, trivial⟩ ⟨rfl, trivial⟩ (by simp) rfl (by simp [lookM])
  intro _ _
  repeat' first | refine go_seq ?_ | refine go_region ?_ | ((first | refine go_op rfl ?_ | refine go_nil ?_) <;> conv => whnf) | ((first | refine ⟨by kernel_rfl, ?_⟩ | refine go_ret ?_) <;> conv => whnf) | refine go_block ?_ | ((first | refine go_skip ?_ | refine go_exit ?_) <;> conv => whnf) | refine go_true rfl ?_ | refine go_false rfl ?_ | refine go_cond rfl (fun h => ?_) (fun h => ?_) | refine ⟨rfl, ?_⟩ | ((first | refine ⟨trivial, ?_⟩ | refine ⟨le_of_ble rfl, ?_⟩) <;> conv => whnf) | fail
  all_goals first
    | exact ret_mutU rfl rfl rfl rfl (match_gr _)
    | (exfalso; have h' := of_decide_eq_true h; omega)
    | trace_state

theorem c122 (ds : List Match) (hl : ds.length ≤ 12) : CallOk Tryz.prog 122 [.arr 93 3 (ds.map Match.enc), .imm (.fn 123 [])]
    { res := [], muts := [.arr 93 3 ((sortL fitLt ds).map Match.enc)] } := by
  refine callOk_of tyOk Tryz.func122 rfl rfl (le_of_ble rfl) (le_of_ble rfl) (mutOk_arr0 rfl (by simp [sortL_len fitWeak])) ?_
  have hc := c148 ds hl
  have hml : (ds.map Match.enc).length = ds.length := List.length_map _
  rw [← hml] at hc
  repeat' first | refine go_seq ?_ | refine go_region ?_ | ((first | refine go_op rfl ?_ | refine go_nil ?_ | refine go_call [2, 0, 0] hc (argsIn_lent rfl rfl rfl) rfl rfl rfl ?_) <;> conv => whnf) | ((first | refine ⟨by kernel_rfl, ?_⟩ | refine go_ret ?_) <;> conv => whnf) | ((first | refine go_skip ?_) <;> conv => whnf) | refine ⟨rfl, ?_⟩ | ((first | refine ⟨trivial, ?_⟩ | refine ⟨le_of_ble rfl, ?_⟩) <;> conv => whnf) | fail
  all_goals exact ret_mutU rfl rfl rfl rfl (match_gr _)


def mOf (r : Report) (x : Trip) : Match := ⟨r.vehicle, x.id, IntKind.i64.wrap (IntKind.i64.wrap (r.time - x.start) - r.done)⟩
def onR (r : Report) (x : Trip) : Bool := decide (x.line = r.line)
def fitsN (t : Timetable) (r : Report) (i : Nat) : List Match := ((t.trips.take i).filter (onR r)).map (mOf r)
def fits0 (t : Timetable) (r : Report) : List Match := (t.trips.filter (onR r)).map (mOf r)
def fits (t : Timetable) (r : Report) : List Match := sortL fitLt (fits0 t r)
theorem fitsN_next {t : Timetable} {r : Report} {i : Nat} {x : Trip} (h : t.trips[i]? = some x) : fitsN t r (i + 1) = fitsN t r i ++ (if onR r x then [mOf r x] else []) := by
  unfold fitsN
  rw [List.take_add_one, h]
  simp only [Option.toList_some, List.filter_append, List.map_append]
  congr 1
  cases hd : onR r x <;> simp [hd]
theorem fitsN_len (t : Timetable) (r : Report) (i : Nat) : (fitsN t r i).length ≤ i := by
  unfold fitsN
  rw [List.length_map]
  exact Nat.le_trans (List.length_filter_le _ _) (by rw [List.length_take]; omega)
theorem fitsN_all {t : Timetable} {i : Nat} (r : Report) (h : t.trips.length ≤ i) : fitsN t r i = fits0 t r := by
  unfold fitsN fits0
  rw [List.take_of_length_le h]
theorem fits0_len (t : Timetable) (r : Report) : (fits0 t r).length ≤ t.trips.length := by
  unfold fits0
  rw [List.length_map]
  exact List.length_filter_le _ _
theorem fits_len (t : Timetable) (r : Report) : (fits t r).length ≤ t.trips.length := by
  unfold fits
  rw [sortL_len fitWeak]
  exact fits0_len t r
theorem tt_12 {t : Timetable} (h : ttOk t = true) : t.trips.length ≤ 12 := by
  unfold ttOk tripsOk at h
  simp only [Bool.and_eq_true, decide_eq_true_eq] at h
  exact h.2.1
def fS (t : Timetable) (r : Report) (i : Nat) : List Match := sortL fitLt (fitsN t r i)
theorem fS_srt (t : Timetable) (r : Report) (i : Nat) : Srt fitLt (fS t r i) := sortL_srt fitWeak _
theorem fS_none {t : Timetable} {r : Report} {i : Nat} {x : Trip} (h : t.trips[i]? = some x) (hd : onR r x = false) : fS t r (i + 1) = fS t r i := by
  unfold fS
  rw [fitsN_next h, hd]
  simp
theorem fS_some {t : Timetable} {r : Report} {i : Nat} {x : Trip} (h : t.trips[i]? = some x) (hd : onR r x = true) : fS t r (i + 1) = insL fitLt (fS t r i) (mOf r x) := by
  unfold fS
  rw [fitsN_next h, hd, if_pos rfl, sortL_next]
theorem fS_len (t : Timetable) (r : Report) (i : Nat) : (fS t r i).length ≤ i := by
  unfold fS
  rw [sortL_len fitWeak]
  exact fitsN_len t r i
theorem fS_all {t : Timetable} {i : Nat} (r : Report) (h : t.trips.length ≤ i) : fS t r i = fits t r := by
  unfold fS fits
  rw [fitsN_all r h]

theorem match_oneR (l : List Match) : ∀ r ∈ l.map Match.enc, r.all D.one = true := by
  intro r hr
  obtain ⟨d, _, rfl⟩ := List.mem_map.1 hr
  rfl

theorem c89 (t : Timetable) (h12 : t.trips.length ≤ 12) (r : Report) : CallOk Tryz.prog 89 [.imm (.agg t.enc), .imm (.agg r.enc)] { res := [.imm (.list ((fits t r).map Match.enc))] } := by
  refine callOk_of tyOk Tryz.func89 rfl rfl (le_of_ble rfl) (le_of_ble rfl) (mutOk_imm rfl _) ?_
  have htl : (t.trips.map Trip.enc).length = t.trips.length := List.length_map _
  repeat' first | refine go_seq ?_ | refine go_region ?_ | ((first | refine go_op rfl ?_ | refine go_nil ?_ | refine go_storeBox rfl rfl rfl rfl rfl rfl ?_) <;> conv => whnf) | ((first | refine go_loadB ?_ | refine ⟨by kernel_rfl, ?_⟩ | refine go_ret ?_) <;> conv => whnf) | refine go_block ?_ | ((first | refine go_skip ?_ | refine go_exit ?_) <;> conv => whnf) | refine go_true rfl ?_ | refine go_false rfl ?_ | refine go_cond rfl (fun h => ?_) (fun h => ?_) | refine ⟨rfl, ?_⟩ | ((first | refine ⟨trivial, ?_⟩ | refine ⟨le_of_ble rfl, ?_⟩) <;> conv => whnf) | fail
  refine go_loop (α := Nat) (fun i => i ≤ t.trips.length) (fun i => t.trips.length - i)
    (fun i => st Tryz.f89.ntmps [(3, .box 1000 0), (5, .own 1001 0 ((fitsN t r i).map Match.enc).length), (9, .imm (.list (t.trips.map Trip.enc))), (10, .imm (.int .i64 (t.trips.map Trip.enc).length)), (11, .imm (.int .i64 (i : Nat)))]
      [(1000, .box 88 (r.enc.map .imm)), (1001, .arr 93 3 ((fitsN t r i).map Match.enc))] []) 0 (Nat.zero_le _) ?_ ?_
  · exact ref_st (fun y => if y = 1000 then nid 1 3 else nid 2 5) rfl ⟨⟨rfl, rfl⟩, ⟨rfl, rfl⟩, rfl, rfl, rfl, trivial⟩ ⟨⟨rfl, wavs_imm _⟩, rfl, trivial⟩ (by simp [nid]) rfl (by simp)
  intro i hi
  cases hx : t.trips[i]? with
  | none =>
    have hge := le_of_at hx
    rw [fitsN_all r hge]
    have hfl := fits0_len t r
    have hml : ((fits0 t r).map Match.enc).length = (fits0 t r).length := List.length_map _
    have hsl : (sortL fitLt (fits0 t r)).length = (fits0 t r).length := sortL_len fitWeak _
    have hsl2 : ((sortL fitLt (fits0 t r)).map Match.enc).length = ((fits0 t r).map Match.enc).length := by rw [List.length_map, hsl, hml]
    have hc := c122 (fits0 t r) (by omega)
    unfold fits
    repeat' first | refine go_seq ?_ | refine go_region ?_ | ((first | refine go_op rfl ?_ | refine go_nil ?_ | refine go_storeBox rfl rfl rfl rfl rfl rfl ?_ | refine go_call [2, 0] hc (argsIn_lent rfl rfl rfl) rfl rfl rfl ?_) <;> conv => whnf) | ((first | refine go_loadB ?_ | refine ⟨by kernel_rfl, ?_⟩ | refine go_ret ?_) <;> conv => whnf) | refine go_block ?_ | ((first | refine go_skip ?_ | refine go_exit ?_) <;> conv => whnf) | refine go_true rfl ?_ | refine go_false rfl ?_ | refine go_cond rfl (fun h => ?_) (fun h => ?_) | refine ⟨rfl, ?_⟩ | ((first | refine ⟨trivial, ?_⟩ | refine ⟨le_of_ble rfl, ?_⟩) <;> conv => whnf) | fail
    all_goals first
      | exact ret_own rfl rfl rfl rfl rfl (by rw [List.drop_zero, ← hsl2, List.take_length]) (match_gr _)
      | (exfalso; have h' := of_decide_eq_false h; omega)
      | (exfalso; have h' := of_decide_eq_true h; omega)
      | (exfalso; rename_i hq; have h' := of_decide_eq_true hq; omega)
      | (exfalso; rename_i hq; have h' := of_decide_eq_false hq; omega)
      | (exfalso; rename_i hq _; have h' := of_decide_eq_true hq; omega)
      | (exfalso; rename_i hq _; have h' := of_decide_eq_false hq; omega)
      | trace_state
  | some x =>
    have hlt := lt_of_at hx
    have hr := row_at Trip.enc hx
    have hol := fitsN_len t r i
    have hb : ((fitsN t r i).map Match.enc).length + 1 ≤ 1073741824 := by rw [List.length_map]; omega
    have hnx := fitsN_next (r := r) hx
    have hone := match_one [mOf r x]
    cases hd : onR r x with
    | true =>
      rw [hd, if_pos rfl] at hnx
      unfold onR at hd
      repeat' first | refine go_seq ?_ | refine go_region ?_ | ((first | refine go_op rfl ?_ | refine go_nil ?_ | refine go_storeBox rfl rfl rfl rfl rfl rfl ?_ | refine go_idx rfl rfl rfl rfl (by omega) hr rfl ?_ | refine go_append (rows2 := [mOf r x].map Match.enc) rfl rfl rfl rfl rfl rfl rfl rfl rfl rfl rfl rfl hone rfl rfl rfl hb ?_) <;> conv => whnf) | ((first | refine go_loadB ?_ | refine ⟨by kernel_rfl, ?_⟩ | refine go_ret ?_) <;> conv => whnf) | refine go_block ?_ | ((first | refine go_skip ?_ | refine go_exit ?_) <;> conv => whnf) | refine go_true rfl ?_ | refine go_false rfl ?_ | refine go_cond rfl (fun h => ?_) (fun h => ?_) | refine ⟨rfl, ?_⟩ | ((first | refine ⟨trivial, ?_⟩ | refine ⟨le_of_ble rfl, ?_⟩) <;> conv => whnf) | fail
      all_goals first
        | (refine go_next (i + 1) (by omega) (by omega) (ref_st (fun y => if y = 1001 then nid 5 35 else y) rfl ⟨⟨rfl, rfl⟩, ⟨?_, rfl⟩, rfl, rfl, next_i (by omega), trivial⟩ ⟨⟨rfl, wavs_imm _⟩, ?_, trivial⟩ (by simp [nid]) rfl (by simp))
           · show AV.own _ _ _ = AV.own _ _ _
             rw [hnx, List.map_append, List.length_append]; try rfl
           · show some _ = some _
             rw [hnx, List.map_append]; try rfl
           done)
        | (exfalso; have h' := of_decide_eq_false h; omega)
        | (exfalso; have h' := of_decide_eq_true h; omega)
        | (exfalso; rename_i hq; have h' := of_decide_eq_true hq; omega)
        | (exfalso; rename_i hq; have h' := of_decide_eq_false hq; omega)
        | (exfalso; rename_i hq _; have h' := of_decide_eq_true hq; omega)
        | (exfalso; rename_i hq _; have h' := of_decide_eq_false hq; omega)
        | (exfalso; rw [hd] at h; cases h; done)
        | trace_state
    | false =>
      rw [hd, if_neg (by simp), List.append_nil] at hnx
      unfold onR at hd
      repeat' first | refine go_seq ?_ | refine go_region ?_ | ((first | refine go_op rfl ?_ | refine go_nil ?_ | refine go_storeBox rfl rfl rfl rfl rfl rfl ?_ | refine go_idx rfl rfl rfl rfl (by omega) hr rfl ?_) <;> conv => whnf) | ((first | refine go_loadB ?_ | refine ⟨by kernel_rfl, ?_⟩ | refine go_ret ?_) <;> conv => whnf) | refine go_block ?_ | ((first | refine go_skip ?_ | refine go_exit ?_) <;> conv => whnf) | refine go_true rfl ?_ | refine go_false rfl ?_ | refine go_cond rfl (fun h => ?_) (fun h => ?_) | refine ⟨rfl, ?_⟩ | ((first | refine ⟨trivial, ?_⟩ | refine ⟨le_of_ble rfl, ?_⟩) <;> conv => whnf) | fail
      all_goals first
        | (refine go_next (i + 1) (by omega) (by omega) (ref_st id rfl ⟨⟨rfl, rfl⟩, ⟨?_, rfl⟩, rfl, rfl, next_i (by omega), trivial⟩ ⟨⟨rfl, wavs_imm _⟩, ?_, trivial⟩ (by simp) rfl (by simp))
           · show AV.own _ _ _ = AV.own _ _ _
             rw [hnx]; try rfl
           · show some _ = some _
             rw [hnx]; try rfl
           done)
        | (exfalso; have h' := of_decide_eq_false h; omega)
        | (exfalso; have h' := of_decide_eq_true h; omega)
        | (exfalso; rename_i hq; have h' := of_decide_eq_true hq; omega)
        | (exfalso; rename_i hq; have h' := of_decide_eq_false hq; omega)
        | (exfalso; rename_i hq _; have h' := of_decide_eq_true hq; omega)
        | (exfalso; rename_i hq _; have h' := of_decide_eq_false hq; omega)
        | (exfalso; rw [hd] at h; cases h; done)
        | trace_state

theorem c89a (t : Timetable) (h12 : t.trips.length ≤ 12) (r : Report) : CallOk Tryz.prog 89 [.imm (.agg t.enc), .imm (.agg r.enc)] { res := [.arr 93 3 ((fits t r).map Match.enc)] } := by
  refine callOk_of tyOk Tryz.func89 rfl rfl (le_of_ble rfl) (le_of_ble rfl) (mutOk_imm rfl _) ?_
  have htl : (t.trips.map Trip.enc).length = t.trips.length := List.length_map _
  repeat' first | refine go_seq ?_ | refine go_region ?_ | ((first | refine go_op rfl ?_ | refine go_nil ?_ | refine go_storeBox rfl rfl rfl rfl rfl rfl ?_) <;> conv => whnf) | ((first | refine go_loadB ?_ | refine ⟨by kernel_rfl, ?_⟩ | refine go_ret ?_) <;> conv => whnf) | refine go_block ?_ | ((first | refine go_skip ?_ | refine go_exit ?_) <;> conv => whnf) | refine go_true rfl ?_ | refine go_false rfl ?_ | refine go_cond rfl (fun h => ?_) (fun h => ?_) | refine ⟨rfl, ?_⟩ | ((first | refine ⟨trivial, ?_⟩ | refine ⟨le_of_ble rfl, ?_⟩) <;> conv => whnf) | fail
  refine go_loop (α := Nat) (fun i => i ≤ t.trips.length) (fun i => t.trips.length - i)
    (fun i => st Tryz.f89.ntmps [(3, .box 1000 0), (5, .own 1001 0 ((fitsN t r i).map Match.enc).length), (9, .imm (.list (t.trips.map Trip.enc))), (10, .imm (.int .i64 (t.trips.map Trip.enc).length)), (11, .imm (.int .i64 (i : Nat)))]
      [(1000, .box 88 (r.enc.map .imm)), (1001, .arr 93 3 ((fitsN t r i).map Match.enc))] []) 0 (Nat.zero_le _) ?_ ?_
  · exact ref_st (fun y => if y = 1000 then nid 1 3 else nid 2 5) rfl ⟨⟨rfl, rfl⟩, ⟨rfl, rfl⟩, rfl, rfl, rfl, trivial⟩ ⟨⟨rfl, wavs_imm _⟩, rfl, trivial⟩ (by simp [nid]) rfl (by simp)
  intro i hi
  cases hx : t.trips[i]? with
  | none =>
    have hge := le_of_at hx
    rw [fitsN_all r hge]
    have hfl := fits0_len t r
    have hml : ((fits0 t r).map Match.enc).length = (fits0 t r).length := List.length_map _
    have hsl : (sortL fitLt (fits0 t r)).length = (fits0 t r).length := sortL_len fitWeak _
    have hsl2 : ((sortL fitLt (fits0 t r)).map Match.enc).length = ((fits0 t r).map Match.enc).length := by rw [List.length_map, hsl, hml]
    have hc := c122 (fits0 t r) (by omega)
    unfold fits
    repeat' first | refine go_seq ?_ | refine go_region ?_ | ((first | refine go_op rfl ?_ | refine go_nil ?_ | refine go_storeBox rfl rfl rfl rfl rfl rfl ?_ | refine go_call [2, 0] hc (argsIn_lent rfl rfl rfl) rfl rfl rfl ?_) <;> conv => whnf) | ((first | refine go_loadB ?_ | refine ⟨by kernel_rfl, ?_⟩ | refine go_ret ?_) <;> conv => whnf) | refine go_block ?_ | ((first | refine go_skip ?_ | refine go_exit ?_) <;> conv => whnf) | refine go_true rfl ?_ | refine go_false rfl ?_ | refine go_cond rfl (fun h => ?_) (fun h => ?_) | refine ⟨rfl, ?_⟩ | ((first | refine ⟨trivial, ?_⟩ | refine ⟨le_of_ble rfl, ?_⟩) <;> conv => whnf) | fail
    all_goals first
      | exact ret_arr rfl rfl rfl rfl rfl (by rw [List.drop_zero, ← hsl2, List.take_length]) (match_gr _)
      | (exfalso; have h' := of_decide_eq_false h; omega)
      | (exfalso; have h' := of_decide_eq_true h; omega)
      | (exfalso; rename_i hq; have h' := of_decide_eq_true hq; omega)
      | (exfalso; rename_i hq; have h' := of_decide_eq_false hq; omega)
      | (exfalso; rename_i hq _; have h' := of_decide_eq_true hq; omega)
      | (exfalso; rename_i hq _; have h' := of_decide_eq_false hq; omega)
      | trace_state
  | some x =>
    have hlt := lt_of_at hx
    have hr := row_at Trip.enc hx
    have hol := fitsN_len t r i
    have hb : ((fitsN t r i).map Match.enc).length + 1 ≤ 1073741824 := by rw [List.length_map]; omega
    have hnx := fitsN_next (r := r) hx
    have hone := match_one [mOf r x]
    cases hd : onR r x with
    | true =>
      rw [hd, if_pos rfl] at hnx
      unfold onR at hd
      repeat' first | refine go_seq ?_ | refine go_region ?_ | ((first | refine go_op rfl ?_ | refine go_nil ?_ | refine go_storeBox rfl rfl rfl rfl rfl rfl ?_ | refine go_idx rfl rfl rfl rfl (by omega) hr rfl ?_ | refine go_append (rows2 := [mOf r x].map Match.enc) rfl rfl rfl rfl rfl rfl rfl rfl rfl rfl rfl rfl hone rfl rfl rfl hb ?_) <;> conv => whnf) | ((first | refine go_loadB ?_ | refine ⟨by kernel_rfl, ?_⟩ | refine go_ret ?_) <;> conv => whnf) | refine go_block ?_ | ((first | refine go_skip ?_ | refine go_exit ?_) <;> conv => whnf) | refine go_true rfl ?_ | refine go_false rfl ?_ | refine go_cond rfl (fun h => ?_) (fun h => ?_) | refine ⟨rfl, ?_⟩ | ((first | refine ⟨trivial, ?_⟩ | refine ⟨le_of_ble rfl, ?_⟩) <;> conv => whnf) | fail
      all_goals first
        | (refine go_next (i + 1) (by omega) (by omega) (ref_st (fun y => if y = 1001 then nid 5 35 else y) rfl ⟨⟨rfl, rfl⟩, ⟨?_, rfl⟩, rfl, rfl, next_i (by omega), trivial⟩ ⟨⟨rfl, wavs_imm _⟩, ?_, trivial⟩ (by simp [nid]) rfl (by simp))
           · show AV.own _ _ _ = AV.own _ _ _
             rw [hnx, List.map_append, List.length_append]; try rfl
           · show some _ = some _
             rw [hnx, List.map_append]; try rfl
           done)
        | (exfalso; have h' := of_decide_eq_false h; omega)
        | (exfalso; have h' := of_decide_eq_true h; omega)
        | (exfalso; rename_i hq; have h' := of_decide_eq_true hq; omega)
        | (exfalso; rename_i hq; have h' := of_decide_eq_false hq; omega)
        | (exfalso; rename_i hq _; have h' := of_decide_eq_true hq; omega)
        | (exfalso; rename_i hq _; have h' := of_decide_eq_false hq; omega)
        | (exfalso; rw [hd] at h; cases h; done)
        | trace_state
    | false =>
      rw [hd, if_neg (by simp), List.append_nil] at hnx
      unfold onR at hd
      repeat' first | refine go_seq ?_ | refine go_region ?_ | ((first | refine go_op rfl ?_ | refine go_nil ?_ | refine go_storeBox rfl rfl rfl rfl rfl rfl ?_ | refine go_idx rfl rfl rfl rfl (by omega) hr rfl ?_) <;> conv => whnf) | ((first | refine go_loadB ?_ | refine ⟨by kernel_rfl, ?_⟩ | refine go_ret ?_) <;> conv => whnf) | refine go_block ?_ | ((first | refine go_skip ?_ | refine go_exit ?_) <;> conv => whnf) | refine go_true rfl ?_ | refine go_false rfl ?_ | refine go_cond rfl (fun h => ?_) (fun h => ?_) | refine ⟨rfl, ?_⟩ | ((first | refine ⟨trivial, ?_⟩ | refine ⟨le_of_ble rfl, ?_⟩) <;> conv => whnf) | fail
      all_goals first
        | (refine go_next (i + 1) (by omega) (by omega) (ref_st id rfl ⟨⟨rfl, rfl⟩, ⟨?_, rfl⟩, rfl, rfl, next_i (by omega), trivial⟩ ⟨⟨rfl, wavs_imm _⟩, ?_, trivial⟩ (by simp) rfl (by simp))
           · show AV.own _ _ _ = AV.own _ _ _
             rw [hnx]; try rfl
           · show some _ = some _
             rw [hnx]; try rfl
           done)
        | (exfalso; have h' := of_decide_eq_false h; omega)
        | (exfalso; have h' := of_decide_eq_true h; omega)
        | (exfalso; rename_i hq; have h' := of_decide_eq_true hq; omega)
        | (exfalso; rename_i hq; have h' := of_decide_eq_false hq; omega)
        | (exfalso; rename_i hq _; have h' := of_decide_eq_true hq; omega)
        | (exfalso; rename_i hq _; have h' := of_decide_eq_false hq; omega)
        | (exfalso; rw [hd] at h; cases h; done)
        | trace_state

theorem c84 (t : Timetable) (h12 : t.trips.length ≤ 12) (r : Report) : CallOk Tryz.prog 84 [.imm (.agg t.enc), .imm (.agg r.enc)] { res := [.imm (.list ((fits t r).map Match.enc))] } := by
  refine callOk_of tyOk Tryz.func84 rfl rfl (le_of_ble rfl) (le_of_ble rfl) (mutOk_imm rfl _) ?_
  have htl : (t.trips.map Trip.enc).length = t.trips.length := List.length_map _
  repeat' first | refine go_seq ?_ | refine go_region ?_ | refine go_miss rfl rfl rfl ?_ | refine go_undef rfl rfl rfl ?_ | refine go_draw drawsOk ?_ | ((first | refine go_op rfl ?_ | refine go_nil ?_ | refine go_hit rfl rfl rfl ?_ | refine go_splitT rfl rfl rfl (fun h => ?_) (fun h => ?_) | refine go_splitF rfl rfl rfl (fun h => ?_) (fun h => ?_) | refine go_storeBox rfl rfl rfl rfl rfl rfl ?_ | refine go_dop rfl ?_ | refine go_dhit rfl rfl ?_ | refine go_dmiss rfl rfl ?_ | refine go_dundef rfl rfl ?_ | refine go_dend (by kernel_rfl) ?_ | refine go_pickT rfl ?_ | refine go_pickF rfl ?_ | refine go_pick rfl (fun h => ?_) (fun h => ?_)) <;> conv => whnf) | ((first | refine go_dsplit2 rfl (fun h => ?_) (fun h => ?_) | refine go_loadB ?_ | refine ⟨by kernel_rfl, ?_⟩ | refine go_ret ?_) <;> conv => whnf) | refine go_block ?_ | ((first | refine go_skip ?_ | refine go_exit ?_) <;> conv => whnf) | refine go_true rfl ?_ | refine go_false rfl ?_ | refine go_cond rfl (fun h => ?_) (fun h => ?_) | refine ⟨rfl, ?_⟩ | ((first | refine ⟨trivial, ?_⟩ | refine ⟨le_of_ble rfl, ?_⟩) <;> conv => whnf) | fail
  refine go_loop (α := Nat) (fun i => i ≤ t.trips.length) (fun i => t.trips.length - i)
    (fun i => st Tryz.f84.ntmps [(2, .box 1000 0), (3, .box 1001 0), (5, .own 1002 0 (fS t r i).length), (6, .imm (.int .i64 (i : Nat)))]
      [(1000, .box 40 (t.enc.map .imm)), (1001, .box 88 (r.enc.map .imm)), (1002, .arr 93 3 ((fS t r i).map Match.enc))] []) 0 (Nat.zero_le _) ?_ ?_
  · exact ref_st (fun y => if y = 1000 then nid 1 2 else if y = 1001 then nid 1 3 else nid 2 9) rfl ⟨⟨rfl, rfl⟩, ⟨rfl, rfl⟩, ⟨rfl, rfl⟩, rfl, trivial⟩ ⟨⟨rfl, wavs_imm _⟩, ⟨rfl, wavs_imm _⟩, rfl, trivial⟩ (by simp [nid]) rfl (by simp)
  intro i hi
  cases hx : t.trips[i]? with
  | none =>
    have hge := le_of_at hx
    rw [fS_all r hge]
    generalize fits t r = s at *
    have hsl : (s.map Match.enc).length = s.length := List.length_map _
    repeat' first | refine go_seq ?_ | refine go_region ?_ | refine go_miss rfl rfl rfl ?_ | refine go_undef rfl rfl rfl ?_ | refine go_draw drawsOk ?_ | ((first | refine go_op rfl ?_ | refine go_nil ?_ | refine go_hit rfl rfl rfl ?_ | refine go_splitT rfl rfl rfl (fun h => ?_) (fun h => ?_) | refine go_splitF rfl rfl rfl (fun h => ?_) (fun h => ?_) | refine go_storeBox rfl rfl rfl rfl rfl rfl ?_ | refine go_dop rfl ?_ | refine go_dhit rfl rfl ?_ | refine go_dmiss rfl rfl ?_ | refine go_dundef rfl rfl ?_ | refine go_dend (by kernel_rfl) ?_ | refine go_pickT rfl ?_ | refine go_pickF rfl ?_ | refine go_pick rfl (fun h => ?_) (fun h => ?_)) <;> conv => whnf) | ((first | refine go_dsplit2 rfl (fun h => ?_) (fun h => ?_) | refine go_loadB ?_ | refine ⟨by kernel_rfl, ?_⟩ | refine go_ret ?_) <;> conv => whnf) | refine go_block ?_ | ((first | refine go_skip ?_ | refine go_exit ?_) <;> conv => whnf) | refine go_true rfl ?_ | refine go_false rfl ?_ | refine go_cond rfl (fun h => ?_) (fun h => ?_) | refine ⟨rfl, ?_⟩ | ((first | refine ⟨trivial, ?_⟩ | refine ⟨le_of_ble rfl, ?_⟩) <;> conv => whnf) | fail
    all_goals first
      | exact ret_own rfl rfl rfl rfl rfl (by rw [List.drop_zero, ← hsl, List.take_length]) (match_gr _)
      | (exfalso; have h' := of_decide_eq_false h; omega)
      | (exfalso; have h' := of_decide_eq_true h; omega)
      | (exfalso; rename_i hq; have h' := of_decide_eq_true hq; omega)
      | (exfalso; rename_i hq; have h' := of_decide_eq_false hq; omega)
      | (exfalso; rename_i hq _; have h' := of_decide_eq_true hq; omega)
      | (exfalso; rename_i hq _; have h' := of_decide_eq_false hq; omega)
      | trace_state
  | some x =>
    have hlt := lt_of_at hx
    have hr := row_at Trip.enc hx
    have hsn := fS_len t r i
    cases hd : onR r x with
    | false =>
      have hnx := fS_none hx hd
      unfold onR at hd
      repeat' first | refine go_seq ?_ | refine go_region ?_ | refine go_miss rfl rfl rfl ?_ | refine go_undef rfl rfl rfl ?_ | refine go_draw drawsOk ?_ | ((first | refine go_op rfl ?_ | refine go_nil ?_ | refine go_hit rfl rfl rfl ?_ | refine go_splitT rfl rfl rfl (fun h => ?_) (fun h => ?_) | refine go_splitF rfl rfl rfl (fun h => ?_) (fun h => ?_) | refine go_storeBox rfl rfl rfl rfl rfl rfl ?_ | refine go_dop rfl ?_ | refine go_dhit rfl rfl ?_ | refine go_dmiss rfl rfl ?_ | refine go_dundef rfl rfl ?_ | refine go_dend (by kernel_rfl) ?_ | refine go_pickT rfl ?_ | refine go_pickF rfl ?_ | refine go_pick rfl (fun h => ?_) (fun h => ?_) | refine go_idx rfl rfl rfl rfl (by omega) hr rfl ?_) <;> conv => whnf) | ((first | refine go_dsplit2 rfl (fun h => ?_) (fun h => ?_) | refine go_loadB ?_ | refine ⟨by kernel_rfl, ?_⟩ | refine go_ret ?_) <;> conv => whnf) | refine go_block ?_ | ((first | refine go_skip ?_ | refine go_exit ?_) <;> conv => whnf) | refine go_true rfl ?_ | refine go_false rfl ?_ | refine go_cond rfl (fun h => ?_) (fun h => ?_) | refine ⟨rfl, ?_⟩ | ((first | refine ⟨trivial, ?_⟩ | refine ⟨le_of_ble rfl, ?_⟩) <;> conv => whnf) | fail
      all_goals first
        | (refine go_next (i + 1) (by omega) (by omega) (ref_st id rfl ⟨⟨rfl, rfl⟩, ⟨rfl, rfl⟩, ⟨?_, rfl⟩, next_i (by omega), trivial⟩ ⟨⟨rfl, wavs_imm _⟩, ⟨rfl, wavs_imm _⟩, ?_, trivial⟩ (by simp) rfl (by simp))
           · show AV.own _ _ _ = AV.own _ _ _
             rw [hnx]; try rfl
           · show some _ = some _
             rw [hnx]; try rfl
           done)
        | (exfalso; have h' := of_decide_eq_false h; omega)
        | (exfalso; have h' := of_decide_eq_true h; omega)
        | (exfalso; rename_i hq; have h' := of_decide_eq_true hq; omega)
        | (exfalso; rename_i hq; have h' := of_decide_eq_false hq; omega)
        | (exfalso; rename_i hq _; have h' := of_decide_eq_true hq; omega)
        | (exfalso; rename_i hq _; have h' := of_decide_eq_false hq; omega)
        | (exfalso; rw [hd] at h; cases h; done)
        | trace_state
    | true =>
      have hnx := fS_some hx hd
      have hsr := fS_srt t r i
      unfold onR at hd
      generalize hsd : fS t r i = s at *
      have hsm : (s.map Match.enc).length = s.length := List.length_map _
      repeat' first | refine go_seq ?_ | refine go_region ?_ | refine go_miss rfl rfl rfl ?_ | refine go_undef rfl rfl rfl ?_ | refine go_draw drawsOk ?_ | ((first | refine go_op rfl ?_ | refine go_nil ?_ | refine go_hit rfl rfl rfl ?_ | refine go_splitT rfl rfl rfl (fun h => ?_) (fun h => ?_) | refine go_splitF rfl rfl rfl (fun h => ?_) (fun h => ?_) | refine go_storeBox rfl rfl rfl rfl rfl rfl ?_ | refine go_dop rfl ?_ | refine go_dhit rfl rfl ?_ | refine go_dmiss rfl rfl ?_ | refine go_dundef rfl rfl ?_ | refine go_dend (by kernel_rfl) ?_ | refine go_pickT rfl ?_ | refine go_pickF rfl ?_ | refine go_pick rfl (fun h => ?_) (fun h => ?_) | refine go_idx rfl rfl rfl rfl (by omega) hr rfl ?_) <;> conv => whnf) | ((first | refine go_dsplit2 rfl (fun h => ?_) (fun h => ?_) | refine go_loadB ?_ | refine ⟨by kernel_rfl, ?_⟩ | refine go_ret ?_) <;> conv => whnf) | refine go_block ?_ | ((first | refine go_skip ?_ | refine go_exit ?_) <;> conv => whnf) | refine go_true rfl ?_ | refine go_false rfl ?_ | refine go_cond rfl (fun h => ?_) (fun h => ?_) | refine ⟨rfl, ?_⟩ | ((first | refine ⟨trivial, ?_⟩ | refine ⟨le_of_ble rfl, ?_⟩) <;> conv => whnf) | fail
      all_goals try first
        | (exfalso; have h' := of_decide_eq_false h; omega)
        | (exfalso; have h' := of_decide_eq_true h; omega)
        | (exfalso; rename_i hq; have h' := of_decide_eq_true hq; omega)
        | (exfalso; rename_i hq; have h' := of_decide_eq_false hq; omega)
        | (exfalso; rename_i hq _; have h' := of_decide_eq_true hq; omega)
        | (exfalso; rename_i hq _; have h' := of_decide_eq_false hq; omega)
        | (exfalso; rw [hd] at h; cases h; done)
      refine go_loop (α := Nat) (fun k => k ≤ s.length ∧ ∀ y ∈ s.drop k, fitLt (mOf r x) y = true) (fun k => k)
        (fun k => st Tryz.f84.ntmps [(2, .box 1000 0), (3, .box 1001 0), (5, .own 1002 0 s.length), (6, .imm (.int .i64 (i : Nat))), (7, .box 1003 0), (8, .imm (.int .i64 (k : Nat)))]
          [(1000, .box 40 (t.enc.map .imm)), (1001, .box 88 (r.enc.map .imm)), (1002, .arr 93 3 (s.map Match.enc)), (1003, .box 93 ((mOf r x).enc.map .imm))] []) s.length ⟨Nat.le_refl _, by simp⟩ ?_ ?_
      · exact ref_st (fun y => if y = 1003 then nid 4 7 else y) rfl ⟨⟨rfl, rfl⟩, ⟨rfl, rfl⟩, ⟨rfl, rfl⟩, rfl, ⟨rfl, rfl⟩, rfl, trivial⟩ ⟨⟨rfl, wavs_imm _⟩, ⟨rfl, wavs_imm _⟩, rfl, ⟨rfl, wavs_imm _⟩, trivial⟩ (by simp [nid]) rfl (by simp)
      rintro k ⟨hk, hdr⟩
      have hgo : (k = 0 ∨ ∃ y, s[k - 1]? = some y ∧ fitLt (mOf r x) y = false) → s.take k ++ [mOf r x] ++ s.drop k = fS t r (i + 1) := fun h => by rw [hnx]; exact insL_at fitWeak hsr hdr h
      have hlen' : (s.take k ++ [mOf r x] ++ s.drop k).length = s.length + 1 := by simp; omega
      have q1 : ((s.map Match.enc).drop 0).take k = (s.take k).map Match.enc := by rw [List.drop_zero, List.map_take]
      have q2 : ((s.map Match.enc).drop k).take (s.length - k) = (s.drop k).map Match.enc := by rw [← List.map_drop, List.take_of_length_le (by simp)]
      have o1 := match_oneR (s.take k)
      have o2 := match_oneR (s.drop k)
      have o5 := match_one [mOf r x]
      have hF1 : 0 + k ≤ (s.map Match.enc).length := by omega
      have hF2 : k + (s.length - k) ≤ (s.map Match.enc).length := by omega
      have hB1 : 0 + k ≤ 1073741824 := by omega
      have hB2 : 0 + k + 1 ≤ 1073741824 := by omega
      have hB3 : 0 + k + 1 + (s.length - k) ≤ 1073741824 := by omega
      have hL1 : 0 + k = (List.replicate 0 ty93.zero ++ (s.take k).map Match.enc).length := by simp; omega
      have hL2 : 0 + k + 1 = (List.replicate 0 ty93.zero ++ (s.take k).map Match.enc ++ [mOf r x].map Match.enc).length := by simp; omega
      by_cases hk0 : k = 0
      · subst hk0
        repeat' first | refine go_seq ?_ | refine go_region ?_ | refine go_miss rfl rfl rfl ?_ | refine go_undef rfl rfl rfl ?_ | refine go_draw drawsOk ?_ | ((first | refine go_op rfl ?_ | refine go_nil ?_ | refine go_hit rfl rfl rfl ?_ | refine go_splitT rfl rfl rfl (fun h => ?_) (fun h => ?_) | refine go_splitF rfl rfl rfl (fun h => ?_) (fun h => ?_) | refine go_storeBox rfl rfl rfl rfl rfl rfl ?_ | refine go_dop rfl ?_ | refine go_dhit rfl rfl ?_ | refine go_dmiss rfl rfl ?_ | refine go_dundef rfl rfl ?_ | refine go_dend (by kernel_rfl) ?_ | refine go_pickT rfl ?_ | refine go_pickF rfl ?_ | refine go_pick rfl (fun h => ?_) (fun h => ?_) | refine go_idx rfl rfl rfl rfl (by omega) hr rfl ?_ | refine go_sliceTo (k := 0) (id := 1002) rfl rfl rfl rfl rfl rfl hk ?_ | refine go_sliceFrom (k := 0) (id := 1002) rfl rfl rfl rfl rfl rfl hk ?_ | refine go_appSl (off2 := 0) (rr := (s.take (0)).map Match.enc) rfl rfl rfl rfl rfl rfl rfl rfl rfl rfl rfl rfl hF1 q1 o1 rfl rfl hB1 ?_ | refine go_append (rows2 := [mOf r x].map Match.enc) rfl rfl rfl rfl rfl rfl rfl rfl rfl rfl rfl rfl o5 rfl hL1 rfl hB2 ?_ | refine go_appSl (off2 := 0) (rr := (s.drop (0)).map Match.enc) rfl rfl rfl rfl rfl rfl rfl rfl rfl rfl rfl rfl hF2 q2 o2 rfl hL2 hB3 ?_) <;> conv => whnf) | ((first | refine go_dsplit2 rfl (fun h => ?_) (fun h => ?_) | refine go_loadB ?_ | refine ⟨by kernel_rfl, ?_⟩ | refine go_ret ?_) <;> conv => whnf) | refine go_block ?_ | ((first | refine go_skip ?_ | refine go_exit ?_) <;> conv => whnf) | refine go_true rfl ?_ | refine go_false rfl ?_ | refine go_cond rfl (fun h => ?_) (fun h => ?_) | refine ⟨rfl, ?_⟩ | ((first | refine ⟨trivial, ?_⟩ | refine ⟨le_of_ble rfl, ?_⟩) <;> conv => whnf) | fail
        all_goals first
          | (refine go_next (i + 1) (by omega) (by omega) (ref_st (fun y => if y = 1002 then nid 3 101 else y) rfl ⟨⟨rfl, rfl⟩, ⟨rfl, rfl⟩, ⟨?_, rfl⟩, next_i (by omega), trivial⟩ ⟨⟨rfl, wavs_imm _⟩, ⟨rfl, wavs_imm _⟩, ?_, trivial⟩ (by simp [nid]) rfl (by simp))
             · show AV.own _ _ _ = AV.own _ _ _
               congr 1
               rw [← hgo (.inl rfl), hlen']
               omega
             · show some _ = some _
               rw [← hgo (.inl rfl), List.map_append, List.map_append]
               rfl
             done)
          | (exfalso; have h' := of_decide_eq_false h; omega)
          | (exfalso; have h' := of_decide_eq_true h; omega)
          | (exfalso; rename_i hq; have h' := of_decide_eq_true hq; omega)
          | (exfalso; rename_i hq; have h' := of_decide_eq_false hq; omega)
          | (exfalso; rename_i hq _; have h' := of_decide_eq_true hq; omega)
          | (exfalso; rename_i hq _; have h' := of_decide_eq_false hq; omega)
          | trace_state
      · obtain ⟨j, rfl⟩ : ∃ j, k = j + 1 := ⟨k - 1, by omega⟩
        obtain ⟨y, hy⟩ : ∃ y, s[j]? = some y := ⟨_, List.getElem?_eq_getElem (by omega)⟩
        have r0 : (s.map Match.enc)[j]? = some [.int .i64 y.vehicle, .int .i64 y.id, .int .i64 y.delay] := by rw [List.getElem?_map, hy]; rfl
        have ej : IntKind.i64.wrap (((j + 1 : Nat) : Int) - 1) = (j : Nat) := by rw [wrap_small (by omega) (by omega)]; omega
        have hdj : s.drop j = y :: s.drop (j + 1) := by
          rw [List.drop_eq_getElem_cons (show j < s.length by omega)]
          congr 1
          exact (List.getElem?_eq_some_iff.1 hy).2
        have hA1 := c85 y.delay
        have hA2 := c85 (mOf r x).delay
        have hit := fitLt_iff (mOf r x) y
        have hif := fitLt_not (mOf r x) y
        repeat' first | refine go_seq ?_ | refine go_region ?_ | refine go_miss rfl rfl rfl ?_ | refine go_undef rfl rfl rfl ?_ | refine go_draw drawsOk ?_ | ((first | refine go_op rfl ?_ | refine go_nil ?_ | refine go_hit rfl rfl rfl ?_ | refine go_splitT rfl rfl rfl (fun h => ?_) (fun h => ?_) | refine go_splitF rfl rfl rfl (fun h => ?_) (fun h => ?_) | refine go_storeBox rfl rfl rfl rfl rfl rfl ?_ | refine go_dop rfl ?_ | refine go_dhit rfl rfl ?_ | refine go_dmiss rfl rfl ?_ | refine go_dundef rfl rfl ?_ | refine go_dend (by kernel_rfl) ?_ | refine go_pickT rfl ?_ | refine go_pickF rfl ?_ | refine go_pick rfl (fun h => ?_) (fun h => ?_) | refine go_call [] (hA1) rfl rfl rfl rfl ?_ | refine go_call [] (hA2) rfl rfl rfl rfl ?_ | refine go_idx rfl rfl rfl rfl (by omega) hr rfl ?_ | refine go_sliceTo (k := j + 1) (id := 1002) rfl rfl rfl rfl rfl rfl hk ?_ | refine go_sliceFrom (k := j + 1) (id := 1002) rfl rfl rfl rfl rfl rfl hk ?_ | refine go_appSl (off2 := 0) (rr := (s.take (j + 1)).map Match.enc) rfl rfl rfl rfl rfl rfl rfl rfl rfl rfl rfl rfl hF1 q1 o1 rfl rfl hB1 ?_ | refine go_append (rows2 := [mOf r x].map Match.enc) rfl rfl rfl rfl rfl rfl rfl rfl rfl rfl rfl rfl o5 rfl hL1 rfl hB2 ?_ | refine go_appSl (off2 := j + 1) (rr := (s.drop (j + 1)).map Match.enc) rfl rfl rfl rfl rfl rfl rfl rfl rfl rfl rfl rfl hF2 q2 o2 rfl hL2 hB3 ?_ | refine go_idxOwnI (j := j) rfl rfl ej rfl rfl rfl rfl (show j < _ by omega) ?_ | refine go_loadEl (i := j) rfl rfl rfl r0 ?_) <;> conv => whnf) | ((first | refine go_dsplit2 rfl (fun h => ?_) (fun h => ?_) | refine go_loadB ?_ | refine ⟨by kernel_rfl, ?_⟩ | refine go_ret ?_) <;> conv => whnf) | refine go_block ?_ | ((first | refine go_skip ?_ | refine go_exit ?_) <;> conv => whnf) | refine go_true rfl ?_ | refine go_false rfl ?_ | refine go_cond rfl (fun h => ?_) (fun h => ?_) | refine ⟨rfl, ?_⟩ | ((first | refine ⟨trivial, ?_⟩ | refine ⟨le_of_ble rfl, ?_⟩) <;> conv => whnf) | fail
        all_goals first
          | (refine go_next j ⟨by omega, ?_⟩ (by omega) (ref_st id rfl ⟨⟨rfl, rfl⟩, ⟨rfl, rfl⟩, ⟨rfl, rfl⟩, rfl, ⟨rfl, rfl⟩, ?_, trivial⟩ ⟨⟨rfl, wavs_imm _⟩, ⟨rfl, wavs_imm _⟩, rfl, ⟨rfl, wavs_imm _⟩, trivial⟩ (by simp) rfl (by simp))
             · intro z hz
               rw [hdj] at hz
               rcases List.mem_cons.1 hz with rfl | hz
               · rw [hit]
                 simp only [decide_eq_true_eq, decide_eq_false_iff_not] at *
                 omega
               · exact hdr z hz
             · show AV.imm (.int .i64 _) = AV.imm (.int .i64 _)
               rw [ej]
             done)
          | (have hno : fitLt (mOf r x) y = false := by
               rw [hif]
               simp only [decide_eq_true_eq, decide_eq_false_iff_not] at *
               omega
             refine go_next (i + 1) (by omega) (by omega) (ref_st (fun y => if y = 1002 then nid 3 101 else y) rfl ⟨⟨rfl, rfl⟩, ⟨rfl, rfl⟩, ⟨?_, rfl⟩, next_i (by omega), trivial⟩ ⟨⟨rfl, wavs_imm _⟩, ⟨rfl, wavs_imm _⟩, ?_, trivial⟩ (by simp [nid]) rfl (by simp))
             · show AV.own _ _ _ = AV.own _ _ _
               congr 1
               rw [← hgo (.inr ⟨y, hy, hno⟩), hlen']
               omega
             · show some _ = some _
               rw [← hgo (.inr ⟨y, hy, hno⟩), List.map_append, List.map_append]
               rfl
             done)
          | (exfalso; have h' := of_decide_eq_false h; omega)
          | (exfalso; have h' := of_decide_eq_true h; omega)
          | (exfalso; rename_i hq; have h' := of_decide_eq_true hq; omega)
          | (exfalso; rename_i hq; have h' := of_decide_eq_false hq; omega)
          | (exfalso; rename_i hq _; have h' := of_decide_eq_true hq; omega)
          | (exfalso; rename_i hq _; have h' := of_decide_eq_false hq; omega)
          | trace_state

theorem c84a (t : Timetable) (h12 : t.trips.length ≤ 12) (r : Report) : CallOk Tryz.prog 84 [.imm (.agg t.enc), .imm (.agg r.enc)] { res := [.arr 93 3 ((fits t r).map Match.enc)] } := by
  refine callOk_of tyOk Tryz.func84 rfl rfl (le_of_ble rfl) (le_of_ble rfl) (mutOk_imm rfl _) ?_
  have htl : (t.trips.map Trip.enc).length = t.trips.length := List.length_map _
  repeat' first | refine go_seq ?_ | refine go_region ?_ | refine go_miss rfl rfl rfl ?_ | refine go_undef rfl rfl rfl ?_ | refine go_draw drawsOk ?_ | ((first | refine go_op rfl ?_ | refine go_nil ?_ | refine go_hit rfl rfl rfl ?_ | refine go_splitT rfl rfl rfl (fun h => ?_) (fun h => ?_) | refine go_splitF rfl rfl rfl (fun h => ?_) (fun h => ?_) | refine go_storeBox rfl rfl rfl rfl rfl rfl ?_ | refine go_dop rfl ?_ | refine go_dhit rfl rfl ?_ | refine go_dmiss rfl rfl ?_ | refine go_dundef rfl rfl ?_ | refine go_dend (by kernel_rfl) ?_ | refine go_pickT rfl ?_ | refine go_pickF rfl ?_ | refine go_pick rfl (fun h => ?_) (fun h => ?_)) <;> conv => whnf) | ((first | refine go_dsplit2 rfl (fun h => ?_) (fun h => ?_) | refine go_loadB ?_ | refine ⟨by kernel_rfl, ?_⟩ | refine go_ret ?_) <;> conv => whnf) | refine go_block ?_ | ((first | refine go_skip ?_ | refine go_exit ?_) <;> conv => whnf) | refine go_true rfl ?_ | refine go_false rfl ?_ | refine go_cond rfl (fun h => ?_) (fun h => ?_) | refine ⟨rfl, ?_⟩ | ((first | refine ⟨trivial, ?_⟩ | refine ⟨le_of_ble rfl, ?_⟩) <;> conv => whnf) | fail
  refine go_loop (α := Nat) (fun i => i ≤ t.trips.length) (fun i => t.trips.length - i)
    (fun i => st Tryz.f84.ntmps [(2, .box 1000 0), (3, .box 1001 0), (5, .own 1002 0 (fS t r i).length), (6, .imm (.int .i64 (i : Nat)))]
      [(1000, .box 40 (t.enc.map .imm)), (1001, .box 88 (r.enc.map .imm)), (1002, .arr 93 3 ((fS t r i).map Match.enc))] []) 0 (Nat.zero_le _) ?_ ?_
  · exact ref_st (fun y => if y = 1000 then nid 1 2 else if y = 1001 then nid 1 3 else nid 2 9) rfl ⟨⟨rfl, rfl⟩, ⟨rfl, rfl⟩, ⟨rfl, rfl⟩, rfl, trivial⟩ ⟨⟨rfl, wavs_imm _⟩, ⟨rfl, wavs_imm _⟩, rfl, trivial⟩ (by simp [nid]) rfl (by simp)
  intro i hi
  cases hx : t.trips[i]? with
  | none =>
    have hge := le_of_at hx
    rw [fS_all r hge]
    generalize fits t r = s at *
    have hsl : (s.map Match.enc).length = s.length := List.length_map _
    repeat' first | refine go_seq ?_ | refine go_region ?_ | refine go_miss rfl rfl rfl ?_ | refine go_undef rfl rfl rfl ?_ | refine go_draw drawsOk ?_ | ((first | refine go_op rfl ?_ | refine go_nil ?_ | refine go_hit rfl rfl rfl ?_ | refine go_splitT rfl rfl rfl (fun h => ?_) (fun h => ?_) | refine go_splitF rfl rfl rfl (fun h => ?_) (fun h => ?_) | refine go_storeBox rfl rfl rfl rfl rfl rfl ?_ | refine go_dop rfl ?_ | refine go_dhit rfl rfl ?_ | refine go_dmiss rfl rfl ?_ | refine go_dundef rfl rfl ?_ | refine go_dend (by kernel_rfl) ?_ | refine go_pickT rfl ?_ | refine go_pickF rfl ?_ | refine go_pick rfl (fun h => ?_) (fun h => ?_)) <;> conv => whnf) | ((first | refine go_dsplit2 rfl (fun h => ?_) (fun h => ?_) | refine go_loadB ?_ | refine ⟨by kernel_rfl, ?_⟩ | refine go_ret ?_) <;> conv => whnf) | refine go_block ?_ | ((first | refine go_skip ?_ | refine go_exit ?_) <;> conv => whnf) | refine go_true rfl ?_ | refine go_false rfl ?_ | refine go_cond rfl (fun h => ?_) (fun h => ?_) | refine ⟨rfl, ?_⟩ | ((first | refine ⟨trivial, ?_⟩ | refine ⟨le_of_ble rfl, ?_⟩) <;> conv => whnf) | fail
    all_goals first
      | exact ret_arr rfl rfl rfl rfl rfl (by rw [List.drop_zero, ← hsl, List.take_length]) (match_gr _)
      | (exfalso; have h' := of_decide_eq_false h; omega)
      | (exfalso; have h' := of_decide_eq_true h; omega)
      | (exfalso; rename_i hq; have h' := of_decide_eq_true hq; omega)
      | (exfalso; rename_i hq; have h' := of_decide_eq_false hq; omega)
      | (exfalso; rename_i hq _; have h' := of_decide_eq_true hq; omega)
      | (exfalso; rename_i hq _; have h' := of_decide_eq_false hq; omega)
      | trace_state
  | some x =>
    have hlt := lt_of_at hx
    have hr := row_at Trip.enc hx
    have hsn := fS_len t r i
    cases hd : onR r x with
    | false =>
      have hnx := fS_none hx hd
      unfold onR at hd
      repeat' first | refine go_seq ?_ | refine go_region ?_ | refine go_miss rfl rfl rfl ?_ | refine go_undef rfl rfl rfl ?_ | refine go_draw drawsOk ?_ | ((first | refine go_op rfl ?_ | refine go_nil ?_ | refine go_hit rfl rfl rfl ?_ | refine go_splitT rfl rfl rfl (fun h => ?_) (fun h => ?_) | refine go_splitF rfl rfl rfl (fun h => ?_) (fun h => ?_) | refine go_storeBox rfl rfl rfl rfl rfl rfl ?_ | refine go_dop rfl ?_ | refine go_dhit rfl rfl ?_ | refine go_dmiss rfl rfl ?_ | refine go_dundef rfl rfl ?_ | refine go_dend (by kernel_rfl) ?_ | refine go_pickT rfl ?_ | refine go_pickF rfl ?_ | refine go_pick rfl (fun h => ?_) (fun h => ?_) | refine go_idx rfl rfl rfl rfl (by omega) hr rfl ?_) <;> conv => whnf) | ((first | refine go_dsplit2 rfl (fun h => ?_) (fun h => ?_) | refine go_loadB ?_ | refine ⟨by kernel_rfl, ?_⟩ | refine go_ret ?_) <;> conv => whnf) | refine go_block ?_ | ((first | refine go_skip ?_ | refine go_exit ?_) <;> conv => whnf) | refine go_true rfl ?_ | refine go_false rfl ?_ | refine go_cond rfl (fun h => ?_) (fun h => ?_) | refine ⟨rfl, ?_⟩ | ((first | refine ⟨trivial, ?_⟩ | refine ⟨le_of_ble rfl, ?_⟩) <;> conv => whnf) | fail
      all_goals first
        | (refine go_next (i + 1) (by omega) (by omega) (ref_st id rfl ⟨⟨rfl, rfl⟩, ⟨rfl, rfl⟩, ⟨?_, rfl⟩, next_i (by omega), trivial⟩ ⟨⟨rfl, wavs_imm _⟩, ⟨rfl, wavs_imm _⟩, ?_, trivial⟩ (by simp) rfl (by simp))
           · show AV.own _ _ _ = AV.own _ _ _
             rw [hnx]; try rfl
           · show some _ = some _
             rw [hnx]; try rfl
           done)
        | (exfalso; have h' := of_decide_eq_false h; omega)
        | (exfalso; have h' := of_decide_eq_true h; omega)
        | (exfalso; rename_i hq; have h' := of_decide_eq_true hq; omega)
        | (exfalso; rename_i hq; have h' := of_decide_eq_false hq; omega)
        | (exfalso; rename_i hq _; have h' := of_decide_eq_true hq; omega)
        | (exfalso; rename_i hq _; have h' := of_decide_eq_false hq; omega)
        | (exfalso; rw [hd] at h; cases h; done)
        | trace_state
    | true =>
      have hnx := fS_some hx hd
      have hsr := fS_srt t r i
      unfold onR at hd
      generalize hsd : fS t r i = s at *
      have hsm : (s.map Match.enc).length = s.length := List.length_map _
      repeat' first | refine go_seq ?_ | refine go_region ?_ | refine go_miss rfl rfl rfl ?_ | refine go_undef rfl rfl rfl ?_ | refine go_draw drawsOk ?_ | ((first | refine go_op rfl ?_ | refine go_nil ?_ | refine go_hit rfl rfl rfl ?_ | refine go_splitT rfl rfl rfl (fun h => ?_) (fun h => ?_) | refine go_splitF rfl rfl rfl (fun h => ?_) (fun h => ?_) | refine go_storeBox rfl rfl rfl rfl rfl rfl ?_ | refine go_dop rfl ?_ | refine go_dhit rfl rfl ?_ | refine go_dmiss rfl rfl ?_ | refine go_dundef rfl rfl ?_ | refine go_dend (by kernel_rfl) ?_ | refine go_pickT rfl ?_ | refine go_pickF rfl ?_ | refine go_pick rfl (fun h => ?_) (fun h => ?_) | refine go_idx rfl rfl rfl rfl (by omega) hr rfl ?_) <;> conv => whnf) | ((first | refine go_dsplit2 rfl (fun h => ?_) (fun h => ?_) | refine go_loadB ?_ | refine ⟨by kernel_rfl, ?_⟩ | refine go_ret ?_) <;> conv => whnf) | refine go_block ?_ | ((first | refine go_skip ?_ | refine go_exit ?_) <;> conv => whnf) | refine go_true rfl ?_ | refine go_false rfl ?_ | refine go_cond rfl (fun h => ?_) (fun h => ?_) | refine ⟨rfl, ?_⟩ | ((first | refine ⟨trivial, ?_⟩ | refine ⟨le_of_ble rfl, ?_⟩) <;> conv => whnf) | fail
      all_goals try first
        | (exfalso; have h' := of_decide_eq_false h; omega)
        | (exfalso; have h' := of_decide_eq_true h; omega)
        | (exfalso; rename_i hq; have h' := of_decide_eq_true hq; omega)
        | (exfalso; rename_i hq; have h' := of_decide_eq_false hq; omega)
        | (exfalso; rename_i hq _; have h' := of_decide_eq_true hq; omega)
        | (exfalso; rename_i hq _; have h' := of_decide_eq_false hq; omega)
        | (exfalso; rw [hd] at h; cases h; done)
      refine go_loop (α := Nat) (fun k => k ≤ s.length ∧ ∀ y ∈ s.drop k, fitLt (mOf r x) y = true) (fun k => k)
        (fun k => st Tryz.f84.ntmps [(2, .box 1000 0), (3, .box 1001 0), (5, .own 1002 0 s.length), (6, .imm (.int .i64 (i : Nat))), (7, .box 1003 0), (8, .imm (.int .i64 (k : Nat)))]
          [(1000, .box 40 (t.enc.map .imm)), (1001, .box 88 (r.enc.map .imm)), (1002, .arr 93 3 (s.map Match.enc)), (1003, .box 93 ((mOf r x).enc.map .imm))] []) s.length ⟨Nat.le_refl _, by simp⟩ ?_ ?_
      · exact ref_st (fun y => if y = 1003 then nid 4 7 else y) rfl ⟨⟨rfl, rfl⟩, ⟨rfl, rfl⟩, ⟨rfl, rfl⟩, rfl, ⟨rfl, rfl⟩, rfl, trivial⟩ ⟨⟨rfl, wavs_imm _⟩, ⟨rfl, wavs_imm _⟩, rfl, ⟨rfl, wavs_imm _⟩, trivial⟩ (by simp [nid]) rfl (by simp)
      rintro k ⟨hk, hdr⟩
      have hgo : (k = 0 ∨ ∃ y, s[k - 1]? = some y ∧ fitLt (mOf r x) y = false) → s.take k ++ [mOf r x] ++ s.drop k = fS t r (i + 1) := fun h => by rw [hnx]; exact insL_at fitWeak hsr hdr h
      have hlen' : (s.take k ++ [mOf r x] ++ s.drop k).length = s.length + 1 := by simp; omega
      have q1 : ((s.map Match.enc).drop 0).take k = (s.take k).map Match.enc := by rw [List.drop_zero, List.map_take]
      have q2 : ((s.map Match.enc).drop k).take (s.length - k) = (s.drop k).map Match.enc := by rw [← List.map_drop, List.take_of_length_le (by simp)]
      have o1 := match_oneR (s.take k)
      have o2 := match_oneR (s.drop k)
      have o5 := match_one [mOf r x]
      have hF1 : 0 + k ≤ (s.map Match.enc).length := by omega
      have hF2 : k + (s.length - k) ≤ (s.map Match.enc).length := by omega
      have hB1 : 0 + k ≤ 1073741824 := by omega
      have hB2 : 0 + k + 1 ≤ 1073741824 := by omega
      have hB3 : 0 + k + 1 + (s.length - k) ≤ 1073741824 := by omega
      have hL1 : 0 + k = (List.replicate 0 ty93.zero ++ (s.take k).map Match.enc).length := by simp; omega
      have hL2 : 0 + k + 1 = (List.replicate 0 ty93.zero ++ (s.take k).map Match.enc ++ [mOf r x].map Match.enc).length := by simp; omega
      by_cases hk0 : k = 0
      · subst hk0
        repeat' first | refine go_seq ?_ | refine go_region ?_ | refine go_miss rfl rfl rfl ?_ | refine go_undef rfl rfl rfl ?_ | refine go_draw drawsOk ?_ | ((first | refine go_op rfl ?_ | refine go_nil ?_ | refine go_hit rfl rfl rfl ?_ | refine go_splitT rfl rfl rfl (fun h => ?_) (fun h => ?_) | refine go_splitF rfl rfl rfl (fun h => ?_) (fun h => ?_) | refine go_storeBox rfl rfl rfl rfl rfl rfl ?_ | refine go_dop rfl ?_ | refine go_dhit rfl rfl ?_ | refine go_dmiss rfl rfl ?_ | refine go_dundef rfl rfl ?_ | refine go_dend (by kernel_rfl) ?_ | refine go_pickT rfl ?_ | refine go_pickF rfl ?_ | refine go_pick rfl (fun h => ?_) (fun h => ?_) | refine go_idx rfl rfl rfl rfl (by omega) hr rfl ?_ | refine go_sliceTo (k := 0) (id := 1002) rfl rfl rfl rfl rfl rfl hk ?_ | refine go_sliceFrom (k := 0) (id := 1002) rfl rfl rfl rfl rfl rfl hk ?_ | refine go_appSl (off2 := 0) (rr := (s.take (0)).map Match.enc) rfl rfl rfl rfl rfl rfl rfl rfl rfl rfl rfl rfl hF1 q1 o1 rfl rfl hB1 ?_ | refine go_append (rows2 := [mOf r x].map Match.enc) rfl rfl rfl rfl rfl rfl rfl rfl rfl rfl rfl rfl o5 rfl hL1 rfl hB2 ?_ | refine go_appSl (off2 := 0) (rr := (s.drop (0)).map Match.enc) rfl rfl rfl rfl rfl rfl rfl rfl rfl rfl rfl rfl hF2 q2 o2 rfl hL2 hB3 ?_) <;> conv => whnf) | ((first | refine go_dsplit2 rfl (fun h => ?_) (fun h => ?_) | refine go_loadB ?_ | refine ⟨by kernel_rfl, ?_⟩ | refine go_ret ?_) <;> conv => whnf) | refine go_block ?_ | ((first | refine go_skip ?_ | refine go_exit ?_) <;> conv => whnf) | refine go_true rfl ?_ | refine go_false rfl ?_ | refine go_cond rfl (fun h => ?_) (fun h => ?_) | refine ⟨rfl, ?_⟩ | ((first | refine ⟨trivial, ?_⟩ | refine ⟨le_of_ble rfl, ?_⟩) <;> conv => whnf) | fail
        all_goals first
          | (refine go_next (i + 1) (by omega) (by omega) (ref_st (fun y => if y = 1002 then nid 3 101 else y) rfl ⟨⟨rfl, rfl⟩, ⟨rfl, rfl⟩, ⟨?_, rfl⟩, next_i (by omega), trivial⟩ ⟨⟨rfl, wavs_imm _⟩, ⟨rfl, wavs_imm _⟩, ?_, trivial⟩ (by simp [nid]) rfl (by simp))
             · show AV.own _ _ _ = AV.own _ _ _
               congr 1
               rw [← hgo (.inl rfl), hlen']
               omega
             · show some _ = some _
               rw [← hgo (.inl rfl), List.map_append, List.map_append]
               rfl
             done)
          | (exfalso; have h' := of_decide_eq_false h; omega)
          | (exfalso; have h' := of_decide_eq_true h; omega)
          | (exfalso; rename_i hq; have h' := of_decide_eq_true hq; omega)
          | (exfalso; rename_i hq; have h' := of_decide_eq_false hq; omega)
          | (exfalso; rename_i hq _; have h' := of_decide_eq_true hq; omega)
          | (exfalso; rename_i hq _; have h' := of_decide_eq_false hq; omega)
          | trace_state
      · obtain ⟨j, rfl⟩ : ∃ j, k = j + 1 := ⟨k - 1, by omega⟩
        obtain ⟨y, hy⟩ : ∃ y, s[j]? = some y := ⟨_, List.getElem?_eq_getElem (by omega)⟩
        have r0 : (s.map Match.enc)[j]? = some [.int .i64 y.vehicle, .int .i64 y.id, .int .i64 y.delay] := by rw [List.getElem?_map, hy]; rfl
        have ej : IntKind.i64.wrap (((j + 1 : Nat) : Int) - 1) = (j : Nat) := by rw [wrap_small (by omega) (by omega)]; omega
        have hdj : s.drop j = y :: s.drop (j + 1) := by
          rw [List.drop_eq_getElem_cons (show j < s.length by omega)]
          congr 1
          exact (List.getElem?_eq_some_iff.1 hy).2
        have hA1 := c85 y.delay
        have hA2 := c85 (mOf r x).delay
        have hit := fitLt_iff (mOf r x) y
        have hif := fitLt_not (mOf r x) y
        repeat' first | refine go_seq ?_ | refine go_region ?_ | refine go_miss rfl rfl rfl ?_ | refine go_undef rfl rfl rfl ?_ | refine go_draw drawsOk ?_ | ((first | refine go_op rfl ?_ | refine go_nil ?_ | refine go_hit rfl rfl rfl ?_ | refine go_splitT rfl rfl rfl (fun h => ?_) (fun h => ?_) | refine go_splitF rfl rfl rfl (fun h => ?_) (fun h => ?_) | refine go_storeBox rfl rfl rfl rfl rfl rfl ?_ | refine go_dop rfl ?_ | refine go_dhit rfl rfl ?_ | refine go_dmiss rfl rfl ?_ | refine go_dundef rfl rfl ?_ | refine go_dend (by kernel_rfl) ?_ | refine go_pickT rfl ?_ | refine go_pickF rfl ?_ | refine go_pick rfl (fun h => ?_) (fun h => ?_) | refine go_call [] (hA1) rfl rfl rfl rfl ?_ | refine go_call [] (hA2) rfl rfl rfl rfl ?_ | refine go_idx rfl rfl rfl rfl (by omega) hr rfl ?_ | refine go_sliceTo (k := j + 1) (id := 1002) rfl rfl rfl rfl rfl rfl hk ?_ | refine go_sliceFrom (k := j + 1) (id := 1002) rfl rfl rfl rfl rfl rfl hk ?_ | refine go_appSl (off2 := 0) (rr := (s.take (j + 1)).map Match.enc) rfl rfl rfl rfl rfl rfl rfl rfl rfl rfl rfl rfl hF1 q1 o1 rfl rfl hB1 ?_ | refine go_append (rows2 := [mOf r x].map Match.enc) rfl rfl rfl rfl rfl rfl rfl rfl rfl rfl rfl rfl o5 rfl hL1 rfl hB2 ?_ | refine go_appSl (off2 := j + 1) (rr := (s.drop (j + 1)).map Match.enc) rfl rfl rfl rfl rfl rfl rfl rfl rfl rfl rfl rfl hF2 q2 o2 rfl hL2 hB3 ?_ | refine go_idxOwnI (j := j) rfl rfl ej rfl rfl rfl rfl (show j < _ by omega) ?_ | refine go_loadEl (i := j) rfl rfl rfl r0 ?_) <;> conv => whnf) | ((first | refine go_dsplit2 rfl (fun h => ?_) (fun h => ?_) | refine go_loadB ?_ | refine ⟨by kernel_rfl, ?_⟩ | refine go_ret ?_) <;> conv => whnf) | refine go_block ?_ | ((first | refine go_skip ?_ | refine go_exit ?_) <;> conv => whnf) | refine go_true rfl ?_ | refine go_false rfl ?_ | refine go_cond rfl (fun h => ?_) (fun h => ?_) | refine ⟨rfl, ?_⟩ | ((first | refine ⟨trivial, ?_⟩ | refine ⟨le_of_ble rfl, ?_⟩) <;> conv => whnf) | fail
        all_goals first
          | (refine go_next j ⟨by omega, ?_⟩ (by omega) (ref_st id rfl ⟨⟨rfl, rfl⟩, ⟨rfl, rfl⟩, ⟨rfl, rfl⟩, rfl, ⟨rfl, rfl⟩, ?_, trivial⟩ ⟨⟨rfl, wavs_imm _⟩, ⟨rfl, wavs_imm _⟩, rfl, ⟨rfl, wavs_imm _⟩, trivial⟩ (by simp) rfl (by simp))
             · intro z hz
               rw [hdj] at hz
               rcases List.mem_cons.1 hz with rfl | hz
               · rw [hit]
                 simp only [decide_eq_true_eq, decide_eq_false_iff_not] at *
                 omega
               · exact hdr z hz
             · show AV.imm (.int .i64 _) = AV.imm (.int .i64 _)
               rw [ej]
             done)
          | (have hno : fitLt (mOf r x) y = false := by
               rw [hif]
               simp only [decide_eq_true_eq, decide_eq_false_iff_not] at *
               omega
             refine go_next (i + 1) (by omega) (by omega) (ref_st (fun y => if y = 1002 then nid 3 101 else y) rfl ⟨⟨rfl, rfl⟩, ⟨rfl, rfl⟩, ⟨?_, rfl⟩, next_i (by omega), trivial⟩ ⟨⟨rfl, wavs_imm _⟩, ⟨rfl, wavs_imm _⟩, ?_, trivial⟩ (by simp [nid]) rfl (by simp))
             · show AV.own _ _ _ = AV.own _ _ _
               congr 1
               rw [← hgo (.inr ⟨y, hy, hno⟩), hlen']
               omega
             · show some _ = some _
               rw [← hgo (.inr ⟨y, hy, hno⟩), List.map_append, List.map_append]
               rfl
             done)
          | (exfalso; have h' := of_decide_eq_false h; omega)
          | (exfalso; have h' := of_decide_eq_true h; omega)
          | (exfalso; rename_i hq; have h' := of_decide_eq_true hq; omega)
          | (exfalso; rename_i hq; have h' := of_decide_eq_false hq; omega)
          | (exfalso; rename_i hq _; have h' := of_decide_eq_true hq; omega)
          | (exfalso; rename_i hq _; have h' := of_decide_eq_false hq; omega)
          | trace_state
end Go.Proofs.YtmbaalkeogckbaaGreat

