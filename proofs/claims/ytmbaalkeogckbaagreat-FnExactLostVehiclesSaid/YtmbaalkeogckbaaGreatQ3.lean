/- The matches of all vehicles: the program. MADE BY PROGRAM (q3.py). -/
import Derived.Test.YtmbaalkeogckbaaGreatQL
import Derived.Test.YtmbaalkeogckbaaGreatAmO
namespace Go.Proofs.YtmbaalkeogckbaaGreat
open Go Go.Am Go.Proofs
set_option maxRecDepth 100000
set_option maxHeartbeats 4000000
attribute [local irreducible] amOps amC opCall opIndexAddr opPick retQ opMake opStore amDraw opAppend opLoad opNilCmp opIndex opSlice

def matRen : Go.Shelf.Ren := ⟨fun | 6 => 91 | 15 => 125 | 14 => 124 | 28 => 157 | 29 => 158 | 20 => 149 | 21 => 150 | 22 => 151 | 23 => 152 | 24 => 153 | 25 => 154 | 26 => 155 | 27 => 156 | 46 => 170 | 47 => 171 | 48 => 172 | 49 => 173 | 50 => 174 | 57 => 178 | n => n, fun | 22 => 53 | 24 => 93 | 25 => 123 | 3 => 3 | 39 => 146 | 0 => 0 | 53 => 176 | 55 => 178 | 4 => 4 | 46 => 169 | 45 => 168 | 50 => 173 | 5 => 5 | 9 => 9 | 66 => 182 | 70 => 186 | 76 => 188 | 77 => 189 | n => n, fun n => n⟩
theorem matLays : SlLaysF0.n6 Tryz.prog matRen := {
  mixed := by kernel_rfl
  f6 := ⟨Tryz.f91.name, by kernel_rfl, Tryz.func91.trans (congrArg some (by kernel_rfl))⟩
  f14 := ⟨Tryz.f124.name, by kernel_rfl, Tryz.func124.trans (congrArg some (by kernel_rfl))⟩
  f15 := Tryz.func125.trans (congrArg some (by kernel_rfl))
  f20 := ⟨Tryz.f149.name, by kernel_rfl, Tryz.func149.trans (congrArg some (by kernel_rfl))⟩
  f21 := ⟨Tryz.f150.name, by kernel_rfl, Tryz.func150.trans (congrArg some (by kernel_rfl))⟩
  f22 := ⟨Tryz.f151.name, by kernel_rfl, Tryz.func151.trans (congrArg some (by kernel_rfl))⟩
  f23 := ⟨Tryz.f152.name, by kernel_rfl, Tryz.func152.trans (congrArg some (by kernel_rfl))⟩
  f24 := ⟨Tryz.f153.name, by kernel_rfl, Tryz.func153.trans (congrArg some (by kernel_rfl))⟩
  f25 := ⟨Tryz.f154.name, by kernel_rfl, Tryz.func154.trans (congrArg some (by kernel_rfl))⟩
  f26 := ⟨Tryz.f155.name, by kernel_rfl, Tryz.func155.trans (congrArg some (by kernel_rfl))⟩
  f27 := ⟨Tryz.f156.name, by kernel_rfl, Tryz.func156.trans (congrArg some (by kernel_rfl))⟩
  f28 := Tryz.func157.trans (congrArg some (by kernel_rfl))
  f29 := Tryz.func158.trans (congrArg some (by kernel_rfl))
  f46 := ⟨Tryz.f170.name, by kernel_rfl, Tryz.func170.trans (congrArg some (by kernel_rfl))⟩
  f47 := Tryz.func171.trans (congrArg some (by kernel_rfl))
  f48 := Tryz.func172.trans (congrArg some (by kernel_rfl))
  f49 := ⟨Tryz.f173.name, by kernel_rfl, Tryz.func173.trans (congrArg some (by kernel_rfl))⟩
  f50 := ⟨Tryz.f174.name, by kernel_rfl, Tryz.func174.trans (congrArg some (by kernel_rfl))⟩
  f57 := ⟨Tryz.f178.name, by kernel_rfl, Tryz.func178.trans (congrArg some (by kernel_rfl))⟩
  t0 := Tryz.underlying0
  a0 := Tryz.isAgg0
  z0 := Tryz.sizeOf0
  v0 := Tryz.zeroValue0
  t3 := Tryz.underlying3
  a3 := Tryz.isAgg3
  z3 := Tryz.sizeOf3
  v3 := Tryz.zeroValue3
  t4 := Tryz.underlying4
  a4 := Tryz.isAgg4
  z4 := Tryz.sizeOf4
  v4 := Tryz.zeroValue4
  t5 := Tryz.underlying5
  a5 := Tryz.isAgg5
  z5 := Tryz.sizeOf5
  v5 := Tryz.zeroValue5
  t9 := Tryz.underlying9
  a9 := Tryz.isAgg9
  z9 := Tryz.sizeOf9
  v9 := Tryz.zeroValue9
  t22 := Tryz.underlying53
  a22 := Tryz.isAgg53
  z22 := Tryz.sizeOf53
  v22 := Tryz.zeroValue53
  t25 := Tryz.underlying123
  a25 := Tryz.isAgg123
  z25 := Tryz.sizeOf123
  v25 := Tryz.zeroValue123
  t39 := Tryz.underlying146
  a39 := Tryz.isAgg146
  z39 := Tryz.sizeOf146
  v39 := Tryz.zeroValue146
  t45 := Tryz.underlying168
  a45 := Tryz.isAgg168
  z45 := Tryz.sizeOf168
  v45 := Tryz.zeroValue168
  t46 := Tryz.underlying169
  a46 := Tryz.isAgg169
  z46 := Tryz.sizeOf169
  v46 := Tryz.zeroValue169
  t50 := Tryz.underlying173
  a50 := Tryz.isAgg173
  z50 := Tryz.sizeOf173
  v50 := Tryz.zeroValue173
  t53 := Tryz.underlying176
  a53 := Tryz.isAgg176
  z53 := Tryz.sizeOf176
  v53 := Tryz.zeroValue176
  t55 := Tryz.underlying178
  a55 := Tryz.isAgg178
  z55 := Tryz.sizeOf178
  v55 := Tryz.zeroValue178
  t66 := Tryz.underlying182
  a66 := Tryz.isAgg182
  z66 := Tryz.sizeOf182
  v66 := Tryz.zeroValue182
  t70 := Tryz.underlying186
  a70 := Tryz.isAgg186
  z70 := Tryz.sizeOf186
  v70 := Tryz.zeroValue186
  t76 := Tryz.underlying188
  a76 := Tryz.isAgg188
  z76 := Tryz.sizeOf188
  v76 := Tryz.zeroValue188
  t77 := Tryz.underlying189
  a77 := Tryz.isAgg189
  z77 := Tryz.sizeOf189
  v77 := Tryz.zeroValue189 }


theorem sortM {cf : Match → Match → Int} {lt : Match → Match → Bool} (he : Go.Proofs.ltOf cf = lt) (hw : Weak lt) (g : FuncId) (hg : ∀ x y : Match, CallOk Tryz.prog g [.imm (.agg x.enc), .imm (.agg y.enc)] { res := [.imm (.int .i64 (cf x y))] })
    (xs : List Match) (anti : ∀ x ∈ xs, ∀ y ∈ xs, lt x y = false → lt y x = false → x = y) (hl : xs.length ≤ 1048576) :
    CallOk Tryz.prog 91 [.arr 93 3 (xs.map Match.enc), .imm (.fn g [])] { res := [], muts := [.arr 93 3 ((sortL lt xs).map Match.enc)] } := by
  by_cases hx : xs = []
  · subst hx
    exact callOk_sortFn0 matLays ⟨_, Tryz.func91, rfl, rfl⟩ 93 3 (.fn g [])
  · have h := callOk_sortFn matLays ⟨_, Tryz.func91, rfl, rfl⟩ (k := 3) Tryz.isAgg93 Tryz.sizeOf93 (enc := Match.enc) (fun _ => rfl) match_pl (cf := cf) (g := g) (by rw [he]; exact hw) (caps := []) hg rfl 93 xs (List.length_pos_iff.2 hx) (by omega)
    rw [he, pdqL_eqOn hw xs anti] at h
    exact h

theorem c92 (x y : Match) : CallOk Tryz.prog 92 [.imm (.agg x.enc), .imm (.agg y.enc)] { res := [.imm (.int .i64 (mC x y))] } := by
  refine callOk_of tyOk Tryz.func92 rfl rfl (le_of_ble rfl) (le_of_ble rfl) (mutOk_imm rfl _) ?_
  have h0 := c90 x.delay
  have h00 := c90 y.delay
  have h1 := c94 (absI x.delay) (absI y.delay)
  have h2 := c94 x.vehicle y.vehicle
  have h3 := c94 x.id y.id
  have h4 := c93 [cmpI (absI x.delay) (absI y.delay), cmpI x.vehicle y.vehicle, cmpI x.id y.id] (by simp)
  repeat' first | refine go_seq ?_ | refine go_region ?_ | refine go_draw drawsOk ?_ | ((first | refine go_op rfl ?_ | refine go_nil ?_ | refine go_dop rfl ?_ | refine go_dend (by kernel_rfl) ?_ | refine go_call [] (h0) rfl rfl rfl rfl ?_ | refine go_call [] (h00) rfl rfl rfl rfl ?_ | refine go_call [] (h1) rfl rfl rfl rfl ?_ | refine go_call [] (h2) rfl rfl rfl rfl ?_ | refine go_call [] (h3) rfl rfl rfl rfl ?_ | refine go_call [] (h4) rfl rfl rfl rfl ?_) <;> conv => whnf) | ((first | refine go_loadB ?_ | refine ⟨by kernel_rfl, ?_⟩ | refine go_ret ?_) <;> conv => whnf) | ((first | refine go_skip ?_) <;> conv => whnf) | refine ⟨rfl, ?_⟩ | ((first | refine ⟨trivial, ?_⟩ | refine ⟨le_of_ble rfl, ?_⟩) <;> conv => whnf) | fail
  all_goals exact ret_imm rfl rfl rfl rfl rfl rfl
theorem c96 (x y : Match) : CallOk Tryz.prog 96 [.imm (.agg x.enc), .imm (.agg y.enc)] { res := [.imm (.int .i64 (vC x y))] } := by
  refine callOk_of tyOk Tryz.func96 rfl rfl (le_of_ble rfl) (le_of_ble rfl) (mutOk_imm rfl _) ?_
  have h2 := c94 x.vehicle y.vehicle
  repeat' first | refine go_seq ?_ | refine go_region ?_ | ((first | refine go_op rfl ?_ | refine go_nil ?_ | refine go_call [] (h2) rfl rfl rfl rfl ?_) <;> conv => whnf) | ((first | refine go_loadB ?_ | refine ⟨by kernel_rfl, ?_⟩ | refine go_ret ?_) <;> conv => whnf) | ((first | refine go_skip ?_) <;> conv => whnf) | refine ⟨rfl, ?_⟩ | ((first | refine ⟨trivial, ?_⟩ | refine ⟨le_of_ble rfl, ?_⟩) <;> conv => whnf) | fail
  all_goals exact ret_imm rfl rfl rfl rfl rfl rfl
theorem c95 (m n : Match) : CallOk Tryz.prog 95 [.imm (.agg n.enc), .imm (.ptr m.enc)] { res := [.imm (.bool (hitM m n))] } := by
  refine callOk_of tyOk Tryz.func95 rfl rfl (le_of_ble rfl) (le_of_ble rfl) (mutOk_imm rfl _) ?_
  repeat' first | refine go_seq ?_ | refine go_region ?_ | refine go_miss rfl rfl rfl ?_ | refine go_undef rfl rfl rfl ?_ | ((first | refine go_op rfl ?_ | refine go_nil ?_ | refine go_hit rfl rfl rfl ?_ | refine go_splitT rfl rfl rfl (fun h => ?_) (fun h => ?_) | refine go_splitF rfl rfl rfl (fun h => ?_) (fun h => ?_) | refine go_pickT rfl ?_ | refine go_pickF rfl ?_ | refine go_pick rfl (fun h => ?_) (fun h => ?_)) <;> conv => whnf) | ((first | refine go_loadB ?_ | refine ⟨by kernel_rfl, ?_⟩ | refine go_ret ?_) <;> conv => whnf) | ((first | refine go_skip ?_) <;> conv => whnf) | refine ⟨rfl, ?_⟩ | ((first | refine ⟨trivial, ?_⟩ | refine ⟨le_of_ble rfl, ?_⟩) <;> conv => whnf) | fail
  all_goals
    refine ret_imm rfl rfl rfl rfl ?_ rfl
    unfold hitM
    simp_all

theorem c100d (g : FuncId) (d : D) (p : Match → Bool) (hp : ∀ v, CallOk Tryz.prog g [.imm (.agg v.enc), .imm d] { res := [.imm (.bool (p v))] }) (xs : List Match) (hl : xs.length ≤ 1048576) :
    CallOk Tryz.prog 100 [.imm (.list (xs.map Match.enc)), .imm (.fn g [d])] { res := [.imm (.int .i64 (idxF p xs))] } := by
  refine callOk_of tyOk Tryz.func100 rfl rfl (le_of_ble rfl) (le_of_ble rfl) (mutOk_imm rfl _) ?_
  repeat' first | refine go_seq ?_ | refine go_region ?_ | ((first | refine go_op rfl ?_ | refine go_nil ?_) <;> conv => whnf) | ((first | refine go_loadB ?_ | refine ⟨by kernel_rfl, ?_⟩ | refine go_ret ?_) <;> conv => whnf) | refine go_block ?_ | ((first | refine go_skip ?_ | refine go_exit ?_) <;> conv => whnf) | refine go_true rfl ?_ | refine go_false rfl ?_ | refine go_cond rfl (fun h => ?_) (fun h => ?_) | refine ⟨rfl, ?_⟩ | ((first | refine ⟨trivial, ?_⟩ | refine ⟨le_of_ble rfl, ?_⟩) <;> conv => whnf) | fail
  refine go_loop (α := Nat) (fun i => i ≤ xs.length ∧ (xs.take i).any p = false) (fun i => xs.length - i) (fun i => st Tryz.f100.ntmps [(0, .imm (.list (xs.map Match.enc))), (1, .imm (.fn g [d])), (7, .imm (.int .i64 (xs.map Match.enc).length)), (8, .imm (.int .i64 (i : Nat)))] [] []) 0
    ⟨Nat.zero_le _, rfl⟩ (ref_st0 rfl ⟨rfl, rfl, rfl, rfl, trivial⟩ rfl) ?_
  rintro i ⟨hi, ha⟩
  cases hx : xs[i]? with
  | none =>
    have hge := le_of_at hx
    rw [List.take_of_length_le hge] at ha
    repeat' first | refine go_seq ?_ | refine go_region ?_ | ((first | refine go_op rfl ?_ | refine go_nil ?_) <;> conv => whnf) | ((first | refine go_loadB ?_ | refine ⟨by kernel_rfl, ?_⟩ | refine go_ret ?_) <;> conv => whnf) | refine go_block ?_ | ((first | refine go_skip ?_ | refine go_exit ?_) <;> conv => whnf) | refine go_true rfl ?_ | refine go_false rfl ?_ | refine go_cond rfl (fun h => ?_) (fun h => ?_) | refine ⟨rfl, ?_⟩ | ((first | refine ⟨trivial, ?_⟩ | refine ⟨le_of_ble rfl, ?_⟩) <;> conv => whnf) | fail
    all_goals first
      | (exfalso; simp at h; omega)
      | exact ret_imm rfl rfl rfl rfl (by rw [idxF_miss ha]) rfl
  | some v =>
    have hlt := lt_of_at hx
    have hr := row_at Match.enc hx
    repeat' first | refine go_seq ?_ | refine go_region ?_ | ((first | refine go_op rfl ?_ | refine go_nil ?_ | refine go_call [] (hp v) rfl rfl rfl rfl ?_ | refine go_idx rfl rfl rfl rfl (by omega) hr rfl ?_) <;> conv => whnf) | ((first | refine go_loadB ?_ | refine ⟨by kernel_rfl, ?_⟩ | refine go_ret ?_) <;> conv => whnf) | refine go_block ?_ | ((first | refine go_skip ?_ | refine go_exit ?_) <;> conv => whnf) | refine go_true rfl ?_ | refine go_false rfl ?_ | refine go_cond rfl (fun h => ?_) (fun h => ?_) | refine ⟨rfl, ?_⟩ | ((first | refine ⟨trivial, ?_⟩ | refine ⟨le_of_ble rfl, ?_⟩) <;> conv => whnf) | fail
    all_goals first
      | exact ret_imm rfl rfl rfl rfl (by rw [idxF_hit hx h ha]) rfl
      | exact go_next (i + 1) ⟨by omega, any_next hx ha h⟩ (by omega) (ref_st0 rfl ⟨rfl, rfl, rfl, next_i (by omega), trivial⟩ rfl)
      | (exfalso; simp at h; omega)

theorem c60d (g : FuncId) (d : D) (p : Match → Bool) (hp : ∀ v, CallOk Tryz.prog g [.imm (.agg v.enc), .imm d] { res := [.imm (.bool (p v))] }) (xs : List Match) (hl : xs.length ≤ 1048576) :
    CallOk Tryz.prog 60 [.imm (.list (xs.map Match.enc)), .imm (.fn g [d])] { res := [.imm (.bool (xs.any p))] } := by
  refine callOk_of tyOk Tryz.func60 rfl rfl (le_of_ble rfl) (le_of_ble rfl) (mutOk_imm rfl _) ?_
  have hc := c100d g d p hp xs hl
  repeat' first | refine go_seq ?_ | refine go_region ?_ | ((first | refine go_op rfl ?_ | refine go_nil ?_ | refine go_call [] (hc) rfl rfl rfl rfl ?_) <;> conv => whnf) | ((first | refine ⟨by kernel_rfl, ?_⟩ | refine go_ret ?_) <;> conv => whnf) | ((first | refine go_skip ?_) <;> conv => whnf) | refine ⟨rfl, ?_⟩ | ((first | refine ⟨trivial, ?_⟩ | refine ⟨le_of_ble rfl, ?_⟩) <;> conv => whnf) | fail
  exact ret_imm rfl rfl rfl rfl (by rw [idxF_ge]) rfl

def prsN (t : Timetable) (L : List Report) (limit : Int) (i : Nat) : List Match := ((L.take i).flatMap (fits t)).filter (nearM limit)
def prs (t : Timetable) (L : List Report) (limit : Int) (i : Nat) (f : List Match) (k : Nat) : List Match := prsN t L limit i ++ (f.take k).filter (nearM limit)
theorem prs_0 (t : Timetable) (L : List Report) (limit : Int) (i : Nat) (f : List Match) : prs t L limit i f 0 = prsN t L limit i := by simp [prs]
theorem prs_end {t : Timetable} {L : List Report} (limit : Int) {i : Nat} {r : Report} (h : L[i]? = some r) {k : Nat} (hk : (fits t r).length ≤ k) : prs t L limit i (fits t r) k = prsN t L limit (i + 1) := by
  unfold prs prsN
  rw [List.take_of_length_le hk, flat_take (fits t) h, List.filter_append]
theorem prs_next (t : Timetable) (L : List Report) (limit : Int) (i : Nat) {f : List Match} {k : Nat} {m : Match} (h : f[k]? = some m) : prs t L limit i f (k + 1) = prs t L limit i f k ++ (if nearM limit m then [m] else []) := by
  unfold prs
  rw [List.take_add_one, h, List.filter_append, List.append_assoc]
  congr 2
  cases hn : nearM limit m <;> simp [hn]
theorem prsN_len (t : Timetable) (L : List Report) (limit : Int) (i : Nat) : (prsN t L limit i).length ≤ i * t.trips.length := by
  unfold prsN
  refine Nat.le_trans (List.length_filter_le _ _) ?_
  have h : ∀ (l : List Report), (l.flatMap (fits t)).length ≤ l.length * t.trips.length := by
    intro l
    induction l with
    | nil => simp
    | cons r l ih =>
      rw [List.flatMap_cons, List.length_append, List.length_cons, Nat.succ_mul]
      have := fits_len t r
      omega
  have h1 := h (L.take i)
  have h2 : (L.take i).length ≤ i := by rw [List.length_take]; omega
  have h3 := Nat.mul_le_mul_right t.trips.length h2
  omega
theorem prs_len (t : Timetable) (L : List Report) (limit : Int) (i : Nat) (f : List Match) (k : Nat) : (prs t L limit i f k).length ≤ i * t.trips.length + k := by
  unfold prs
  have h1 := prsN_len t L limit i
  have h2 := List.length_filter_le (nearM limit) (f.take k)
  rw [List.length_take] at h2
  rw [List.length_append]
  omega


theorem c51 (t : Timetable) (hok : ttOk t = true) (rs : List Report) (hv : vehOk rs) (hl : rs.length ≤ 1048576) (limit : Int) : CallOk Tryz.prog 51 [.imm (.agg t.enc), .imm (.list (rs.map Report.enc)), .imm (.int .i64 limit)] { res := [.imm (.list ((matched t rs limit).map Match.enc))] } := by
  refine callOk_of tyOk Tryz.func51 rfl rfl (le_of_ble rfl) (le_of_ble rfl) (mutOk_imm rfl _) ?_
  have h12 := tt_12 hok
  have hc0 := c63 rs hv hl
  have hLn := lasts_len 100 rs
  have hnear : prsN t (lasts 100 rs) limit (lasts 100 rs).length = nearL t rs limit := by unfold prsN nearL allM; rw [List.take_length]
  have hanti := nearL_anti hok rs limit
  have hnl := nearL_len t rs limit
  have hcl := chosen_len t rs limit
  have hcan := chosen_anti t rs limit
  unfold matched
  unfold chosen at hcl hcan ⊢
  have hc3 := sortM mLt_eq mWeak 92 c92 (nearL t rs limit) hanti (by omega)
  have hc4 := sortM vLt_eq vWeak 96 c96 (greedy (sortL mLt (nearL t rs limit)) []) hcan (by omega)
  generalize lasts 100 rs = L at *
  have hLl : (L.map Report.enc).length = L.length := List.length_map _
  repeat' first | refine go_seq ?_ | refine go_region ?_ | ((first | refine go_op rfl ?_ | refine go_nil ?_ | refine go_storeBox rfl rfl rfl rfl rfl rfl ?_ | refine go_call [] (hc0) rfl rfl rfl rfl ?_) <;> conv => whnf) | ((first | refine go_loadB ?_ | refine ⟨by kernel_rfl, ?_⟩ | refine go_ret ?_) <;> conv => whnf) | refine go_block ?_ | ((first | refine go_skip ?_ | refine go_exit ?_) <;> conv => whnf) | refine go_true rfl ?_ | refine go_false rfl ?_ | refine go_cond rfl (fun h => ?_) (fun h => ?_) | refine ⟨rfl, ?_⟩ | ((first | refine ⟨trivial, ?_⟩ | refine ⟨le_of_ble rfl, ?_⟩) <;> conv => whnf) | fail
  refine go_loop (α := Nat) (fun i => i ≤ L.length) (fun i => L.length - i)
    (fun i => st Tryz.f51.ntmps [(2, .imm (.int .i64 limit)), (3, .box 1000 0), (7, .own 1001 0 ((prsN t L limit i).map Match.enc).length), (16, .imm (.list (L.map Report.enc))), (17, .imm (.int .i64 (L.map Report.enc).length)), (18, .imm (.int .i64 (i : Nat)))]
      [(1000, .box 40 (t.enc.map .imm)), (1001, .arr 93 3 ((prsN t L limit i).map Match.enc))] []) 0 (Nat.zero_le _) ?_ ?_
  · exact ref_st (fun y => if y = 1000 then nid 1 3 else nid 2 7) rfl ⟨rfl, ⟨rfl, rfl⟩, ⟨rfl, rfl⟩, rfl, rfl, rfl, trivial⟩ ⟨⟨rfl, wavs_imm _⟩, rfl, trivial⟩ (by simp [nid]) rfl (by simp)
  intro i hi
  cases hx : L[i]? with
  | none =>
    have hge := le_of_at hx
    have hie : i = L.length := by omega
    subst hie
    rw [hnear]
    have hsl : ((sortL mLt (nearL t rs limit)).map Match.enc).length = ((nearL t rs limit).map Match.enc).length := by rw [List.length_map, List.length_map, sortL_len mWeak]
    repeat' first | refine go_seq ?_ | refine go_region ?_ | ((first | refine go_op rfl ?_ | refine go_nil ?_ | refine go_storeBox rfl rfl rfl rfl rfl rfl ?_ | refine go_call [2, 0] hc3 (argsIn_lent rfl rfl rfl) rfl rfl rfl ?_) <;> conv => whnf) | ((first | refine go_loadB ?_ | refine ⟨by kernel_rfl, ?_⟩ | refine go_ret ?_) <;> conv => whnf) | refine go_block ?_ | ((first | refine go_skip ?_ | refine go_exit ?_) <;> conv => whnf) | refine go_true rfl ?_ | refine go_false rfl ?_ | refine go_cond rfl (fun h => ?_) (fun h => ?_) | refine ⟨rfl, ?_⟩ | ((first | refine ⟨trivial, ?_⟩ | refine ⟨le_of_ble rfl, ?_⟩) <;> conv => whnf) | fail
    all_goals try first
      | (exfalso; have h' := of_decide_eq_false h; omega)
      | (exfalso; have h' := of_decide_eq_true h; omega)
      | (exfalso; rename_i hq; have h' := of_decide_eq_true hq; omega)
      | (exfalso; rename_i hq; have h' := of_decide_eq_false hq; omega)
      | (exfalso; rename_i hq _; have h' := of_decide_eq_true hq; omega)
      | (exfalso; rename_i hq _; have h' := of_decide_eq_false hq; omega)
    have hQl : (sortL mLt (nearL t rs limit)).length = (nearL t rs limit).length := sortL_len mWeak _
    rw [← hsl]
    generalize sortL mLt (nearL t rs limit) = Q at *
    have hQm : (Q.map Match.enc).length = Q.length := List.length_map _
    refine go_loop (α := Nat) (fun j => j ≤ Q.length) (fun j => Q.length - j)
      (fun j => st Tryz.f51.ntmps [(12, .own 1002 0 ((greedy (Q.take j) []).map Match.enc).length), (43, .own 1001 0 (Q.map Match.enc).length), (44, .imm (.int .i64 (Q.map Match.enc).length)), (45, .imm (.int .i64 (j : Nat)))]
        [(1001, .arr 93 3 (Q.map Match.enc)), (1002, .arr 93 3 ((greedy (Q.take j) []).map Match.enc))] []) 0 (Nat.zero_le _) ?_ ?_
    · exact ref_st (fun y => if y = 1002 then nid 4 12 else y) rfl ⟨⟨rfl, rfl⟩, ⟨rfl, rfl⟩, rfl, rfl, trivial⟩ ⟨rfl, rfl, trivial⟩ (by simp [nid]) rfl (by simp)
    intro j hj
    cases hy : Q[j]? with
    | none =>
      have hge2 := le_of_at hy
      rw [List.take_of_length_le hge2]
      have hs2 : ((sortL vLt (greedy Q [])).map Match.enc).length = ((greedy Q []).map Match.enc).length := by rw [List.length_map, List.length_map, sortL_len vWeak]
      repeat' first | refine go_seq ?_ | refine go_region ?_ | ((first | refine go_op rfl ?_ | refine go_nil ?_ | refine go_storeBox rfl rfl rfl rfl rfl rfl ?_ | refine go_call [2, 0] hc4 (argsIn_lent rfl rfl rfl) rfl rfl rfl ?_) <;> conv => whnf) | ((first | refine go_loadB ?_ | refine ⟨by kernel_rfl, ?_⟩ | refine go_ret ?_) <;> conv => whnf) | refine go_block ?_ | ((first | refine go_skip ?_ | refine go_exit ?_) <;> conv => whnf) | refine go_true rfl ?_ | refine go_false rfl ?_ | refine go_cond rfl (fun h => ?_) (fun h => ?_) | refine ⟨rfl, ?_⟩ | ((first | refine ⟨trivial, ?_⟩ | refine ⟨le_of_ble rfl, ?_⟩) <;> conv => whnf) | fail
      all_goals first
        | exact ret_own rfl rfl rfl rfl rfl (by rw [List.drop_zero, ← hs2, List.take_length]) (match_gr _)
        | (exfalso; have h' := of_decide_eq_false h; omega)
        | (exfalso; have h' := of_decide_eq_true h; omega)
        | (exfalso; rename_i hq; have h' := of_decide_eq_true hq; omega)
        | (exfalso; rename_i hq; have h' := of_decide_eq_false hq; omega)
        | (exfalso; rename_i hq _; have h' := of_decide_eq_true hq; omega)
        | (exfalso; rename_i hq _; have h' := of_decide_eq_false hq; omega)
        | trace_state
    | some m =>
      have hlt2 := lt_of_at hy
      have hr2 : (Q.map Match.enc)[j]? = some [.int .i64 m.vehicle, .int .i64 m.id, .int .i64 m.delay] := by rw [List.getElem?_map, hy]; rfl
      have hnx := greedy_next hy
      have hgl := (greedy_len (Q.take j) []).2
      rw [List.length_take] at hgl
      simp only [List.length_nil] at hgl
      generalize hC : greedy (Q.take j) [] = C at *
      have hCl : (C.map Match.enc).length = C.length := List.length_map _
      have hcc : CallOk Tryz.prog 60 [.imm (.list (((C.map Match.enc).drop 0).take (C.map Match.enc).length)), .imm (.fn 95 [.ptr m.enc])] { res := [.imm (.bool (hits C m))] } := by
        rw [match_view]
        exact c60d 95 (.ptr m.enc) (hitM m) (c95 m) C (by omega)
      have hone := match_one [m]
      have hb : (C.map Match.enc).length + 1 ≤ 1073741824 := by omega
      cases hh : hits C m with
      | true =>
        rw [stepG_hit hh] at hnx
        rw [hh] at hcc
        repeat' first | refine go_seq ?_ | refine go_region ?_ | ((first | refine go_op rfl ?_ | refine go_nil ?_ | refine go_storeBox rfl rfl rfl rfl rfl rfl ?_ | refine go_call [] (hcc) rfl rfl rfl rfl ?_ | refine go_idxOwn rfl rfl rfl rfl rfl rfl (by omega) ?_ | refine go_loadEl (i := j) rfl rfl rfl hr2 ?_) <;> conv => whnf) | ((first | refine go_loadB ?_ | refine ⟨by kernel_rfl, ?_⟩ | refine go_ret ?_) <;> conv => whnf) | refine go_block ?_ | ((first | refine go_skip ?_ | refine go_exit ?_) <;> conv => whnf) | refine go_true rfl ?_ | refine go_false rfl ?_ | refine go_cond rfl (fun h => ?_) (fun h => ?_) | refine ⟨rfl, ?_⟩ | ((first | refine ⟨trivial, ?_⟩ | refine ⟨le_of_ble rfl, ?_⟩) <;> conv => whnf) | fail
        all_goals first
          | (refine go_next (j + 1) (by omega) (by omega) (ref_st id rfl ⟨⟨?_, rfl⟩, ⟨rfl, rfl⟩, rfl, next_i (by omega), trivial⟩ ⟨rfl, ?_, trivial⟩ (by simp) rfl (by simp))
             · show AV.own _ _ _ = AV.own _ _ _
               rw [hnx]; try rfl
             · show some _ = some _
               rw [hnx]; try rfl
             done)
          | (exfalso; have h' := of_decide_eq_false h; omega)
          | (exfalso; have h' := of_decide_eq_true h; omega)
          | (exfalso; rename_i hq; have h' := of_decide_eq_true hq; omega)
          | (exfalso; rename_i hq; have h' := of_decide_eq_false hq; omega)
          | (exfalso; rename_i hq _; have h' := of_decide_eq_true hq; omega)
          | (exfalso; rename_i hq _; have h' := of_decide_eq_false hq; omega)
          | trace_state
      | false =>
        rw [stepG_free hh] at hnx
        rw [hh] at hcc
        repeat' first | refine go_seq ?_ | refine go_region ?_ | ((first | refine go_op rfl ?_ | refine go_nil ?_ | refine go_storeBox rfl rfl rfl rfl rfl rfl ?_ | refine go_call [] (hcc) rfl rfl rfl rfl ?_ | refine go_idxOwn rfl rfl rfl rfl rfl rfl (by omega) ?_ | refine go_loadEl (i := j) rfl rfl rfl hr2 ?_ | refine go_append (rows2 := [m].map Match.enc) rfl rfl rfl rfl rfl rfl rfl rfl rfl rfl rfl rfl hone rfl rfl rfl hb ?_) <;> conv => whnf) | ((first | refine go_loadB ?_ | refine ⟨by kernel_rfl, ?_⟩ | refine go_ret ?_) <;> conv => whnf) | refine go_block ?_ | ((first | refine go_skip ?_ | refine go_exit ?_) <;> conv => whnf) | refine go_true rfl ?_ | refine go_false rfl ?_ | refine go_cond rfl (fun h => ?_) (fun h => ?_) | refine ⟨rfl, ?_⟩ | ((first | refine ⟨trivial, ?_⟩ | refine ⟨le_of_ble rfl, ?_⟩) <;> conv => whnf) | fail
        all_goals first
          | (refine go_next (j + 1) (by omega) (by omega) (ref_st (fun y => if y = 1002 then nid 5 56 else y) rfl ⟨⟨?_, rfl⟩, ⟨rfl, rfl⟩, rfl, next_i (by omega), trivial⟩ ⟨rfl, ?_, trivial⟩ (by simp [nid]) rfl (by simp))
             · show AV.own _ _ _ = AV.own _ _ _
               rw [hnx, List.map_append, List.length_append]; try rfl
             · show some _ = some _
               rw [hnx, List.map_append]; try rfl
             done)
          | (exfalso; have h' := of_decide_eq_false h; omega)
          | (exfalso; have h' := of_decide_eq_true h; omega)
          | (exfalso; rename_i hq; have h' := of_decide_eq_true hq; omega)
          | (exfalso; rename_i hq; have h' := of_decide_eq_false hq; omega)
          | (exfalso; rename_i hq _; have h' := of_decide_eq_true hq; omega)
          | (exfalso; rename_i hq _; have h' := of_decide_eq_false hq; omega)
          | trace_state
  | some r =>
    have hlt := lt_of_at hx
    have hr := row_at Report.enc hx
    have hc1 := c89 t h12 r
    have hfl := fits_len t r
    have hfm : ((fits t r).map Match.enc).length = (fits t r).length := List.length_map _
    have hp0 := prs_0 t L limit i (fits t r)
    repeat' first | refine go_seq ?_ | refine go_region ?_ | ((first | refine go_op rfl ?_ | refine go_nil ?_ | refine go_storeBox rfl rfl rfl rfl rfl rfl ?_ | refine go_call [] (hc1) rfl rfl rfl rfl ?_ | refine go_idx rfl rfl rfl rfl (by omega) hr rfl ?_) <;> conv => whnf) | ((first | refine go_loadB ?_ | refine ⟨by kernel_rfl, ?_⟩ | refine go_ret ?_) <;> conv => whnf) | refine go_block ?_ | ((first | refine go_skip ?_ | refine go_exit ?_) <;> conv => whnf) | refine go_true rfl ?_ | refine go_false rfl ?_ | refine go_cond rfl (fun h => ?_) (fun h => ?_) | refine ⟨rfl, ?_⟩ | ((first | refine ⟨trivial, ?_⟩ | refine ⟨le_of_ble rfl, ?_⟩) <;> conv => whnf) | fail
    all_goals try first
      | (exfalso; have h' := of_decide_eq_false h; omega)
      | (exfalso; have h' := of_decide_eq_true h; omega)
      | (exfalso; rename_i hq; have h' := of_decide_eq_true hq; omega)
      | (exfalso; rename_i hq; have h' := of_decide_eq_false hq; omega)
      | (exfalso; rename_i hq _; have h' := of_decide_eq_true hq; omega)
      | (exfalso; rename_i hq _; have h' := of_decide_eq_false hq; omega)
    refine go_loop (α := Nat) (fun k => k ≤ (fits t r).length) (fun k => (fits t r).length - k)
      (fun k => st Tryz.f51.ntmps [(2, .imm (.int .i64 limit)), (3, .box 1000 0), (7, .own 1001 0 ((prs t L limit i (fits t r) k).map Match.enc).length), (16, .imm (.list (L.map Report.enc))), (17, .imm (.int .i64 (L.map Report.enc).length)), (18, .imm (.int .i64 (i : Nat))), (24, .imm (.list ((fits t r).map Match.enc))), (25, .imm (.int .i64 ((fits t r).map Match.enc).length)), (26, .imm (.int .i64 (k : Nat)))]
        [(1000, .box 40 (t.enc.map .imm)), (1001, .arr 93 3 ((prs t L limit i (fits t r) k).map Match.enc))] []) 0 (Nat.zero_le _) ?_ ?_
    · refine ref_st id rfl ⟨rfl, ⟨rfl, rfl⟩, ⟨?_, rfl⟩, rfl, rfl, rfl, rfl, rfl, rfl, trivial⟩ ⟨⟨rfl, wavs_imm _⟩, ?_, trivial⟩ (by simp) rfl (by simp)
      · show AV.own _ _ _ = AV.own _ _ _
        rw [hp0]; try rfl
      · show some _ = some _
        rw [hp0]; try rfl
    intro k hk
    have hpl := prs_len t L limit i (fits t r) k
    have hi12 : i * t.trips.length ≤ 1200 := Nat.le_trans (Nat.mul_le_mul (show i ≤ 100 by omega) h12) (by omega)
    cases hy : (fits t r)[k]? with
    | none =>
      have hge2 := le_of_at hy
      have hpe := prs_end limit hx hge2
      rw [hpe]
      repeat' first | refine go_seq ?_ | refine go_region ?_ | ((first | refine go_op rfl ?_ | refine go_nil ?_ | refine go_storeBox rfl rfl rfl rfl rfl rfl ?_) <;> conv => whnf) | ((first | refine go_loadB ?_ | refine ⟨by kernel_rfl, ?_⟩ | refine go_ret ?_) <;> conv => whnf) | refine go_block ?_ | ((first | refine go_skip ?_ | refine go_exit ?_) <;> conv => whnf) | refine go_true rfl ?_ | refine go_false rfl ?_ | refine go_cond rfl (fun h => ?_) (fun h => ?_) | refine ⟨rfl, ?_⟩ | ((first | refine ⟨trivial, ?_⟩ | refine ⟨le_of_ble rfl, ?_⟩) <;> conv => whnf) | fail
      all_goals first
        | exact go_next (i + 1) (by omega) (by omega) (ref_st id rfl ⟨rfl, ⟨rfl, rfl⟩, ⟨rfl, rfl⟩, rfl, rfl, next_i (by omega), trivial⟩ ⟨⟨rfl, wavs_imm _⟩, rfl, trivial⟩ (by simp) rfl (by simp))
        | (exfalso; have h' := of_decide_eq_false h; omega)
        | (exfalso; have h' := of_decide_eq_true h; omega)
        | (exfalso; rename_i hq; have h' := of_decide_eq_true hq; omega)
        | (exfalso; rename_i hq; have h' := of_decide_eq_false hq; omega)
        | (exfalso; rename_i hq _; have h' := of_decide_eq_true hq; omega)
        | (exfalso; rename_i hq _; have h' := of_decide_eq_false hq; omega)
        | trace_state
    | some m =>
      have hlt2 := lt_of_at hy
      have hr2 := row_at Match.enc hy
      have hnx := prs_next t L limit i hy
      have hca := c90 m.delay
      have hone := match_one [m]
      have hb : ((prs t L limit i (fits t r) k).map Match.enc).length + 1 ≤ 1073741824 := by rw [List.length_map]; omega
      cases hn : nearM limit m with
      | true =>
        rw [hn, if_pos rfl] at hnx
        unfold nearM at hn
        repeat' first | refine go_seq ?_ | refine go_region ?_ | ((first | refine go_op rfl ?_ | refine go_nil ?_ | refine go_storeBox rfl rfl rfl rfl rfl rfl ?_ | refine go_call [] (hca) rfl rfl rfl rfl ?_ | refine go_idx rfl rfl rfl rfl (by omega) hr2 rfl ?_ | refine go_append (rows2 := [m].map Match.enc) rfl rfl rfl rfl rfl rfl rfl rfl rfl rfl rfl rfl hone rfl rfl rfl hb ?_) <;> conv => whnf) | ((first | refine go_loadB ?_ | refine ⟨by kernel_rfl, ?_⟩ | refine go_ret ?_) <;> conv => whnf) | refine go_block ?_ | ((first | refine go_skip ?_ | refine go_exit ?_) <;> conv => whnf) | refine go_true rfl ?_ | refine go_false rfl ?_ | refine go_cond rfl (fun h => ?_) (fun h => ?_) | refine ⟨rfl, ?_⟩ | ((first | refine ⟨trivial, ?_⟩ | refine ⟨le_of_ble rfl, ?_⟩) <;> conv => whnf) | fail
        all_goals first
          | (refine go_next (k + 1) (by omega) (by omega) (ref_st (fun y => if y = 1001 then nid 5 38 else y) rfl ⟨rfl, ⟨rfl, rfl⟩, ⟨?_, rfl⟩, rfl, rfl, rfl, rfl, rfl, next_i (by omega), trivial⟩ ⟨⟨rfl, wavs_imm _⟩, ?_, trivial⟩ (by simp [nid]) rfl (by simp))
             · show AV.own _ _ _ = AV.own _ _ _
               rw [hnx, List.map_append, List.length_append]; try rfl
             · show some _ = some _
               rw [hnx, List.map_append]; try rfl
             done)
          | (exfalso; have h' := of_decide_eq_false h; omega)
          | (exfalso; have h' := of_decide_eq_true h; omega)
          | (exfalso; rename_i hq; have h' := of_decide_eq_true hq; omega)
          | (exfalso; rename_i hq; have h' := of_decide_eq_false hq; omega)
          | (exfalso; rename_i hq _; have h' := of_decide_eq_true hq; omega)
          | (exfalso; rename_i hq _; have h' := of_decide_eq_false hq; omega)
          | (exfalso; rw [hn] at h; cases h; done)
          | trace_state
      | false =>
        rw [hn, if_neg (by simp), List.append_nil] at hnx
        unfold nearM at hn
        repeat' first | refine go_seq ?_ | refine go_region ?_ | ((first | refine go_op rfl ?_ | refine go_nil ?_ | refine go_storeBox rfl rfl rfl rfl rfl rfl ?_ | refine go_call [] (hca) rfl rfl rfl rfl ?_ | refine go_idx rfl rfl rfl rfl (by omega) hr2 rfl ?_) <;> conv => whnf) | ((first | refine go_loadB ?_ | refine ⟨by kernel_rfl, ?_⟩ | refine go_ret ?_) <;> conv => whnf) | refine go_block ?_ | ((first | refine go_skip ?_ | refine go_exit ?_) <;> conv => whnf) | refine go_true rfl ?_ | refine go_false rfl ?_ | refine go_cond rfl (fun h => ?_) (fun h => ?_) | refine ⟨rfl, ?_⟩ | ((first | refine ⟨trivial, ?_⟩ | refine ⟨le_of_ble rfl, ?_⟩) <;> conv => whnf) | fail
        all_goals first
          | (refine go_next (k + 1) (by omega) (by omega) (ref_st id rfl ⟨rfl, ⟨rfl, rfl⟩, ⟨?_, rfl⟩, rfl, rfl, rfl, rfl, rfl, next_i (by omega), trivial⟩ ⟨⟨rfl, wavs_imm _⟩, ?_, trivial⟩ (by simp) rfl (by simp))
             · show AV.own _ _ _ = AV.own _ _ _
               rw [hnx]; try rfl
             · show some _ = some _
               rw [hnx]; try rfl
             done)
          | (exfalso; have h' := of_decide_eq_false h; omega)
          | (exfalso; have h' := of_decide_eq_true h; omega)
          | (exfalso; rename_i hq; have h' := of_decide_eq_true hq; omega)
          | (exfalso; rename_i hq; have h' := of_decide_eq_false hq; omega)
          | (exfalso; rename_i hq _; have h' := of_decide_eq_true hq; omega)
          | (exfalso; rename_i hq _; have h' := of_decide_eq_false hq; omega)
          | (exfalso; rw [hn] at h; cases h; done)
          | trace_state

theorem c51a (t : Timetable) (hok : ttOk t = true) (rs : List Report) (hv : vehOk rs) (hl : rs.length ≤ 1048576) (limit : Int) : CallOk Tryz.prog 51 [.imm (.agg t.enc), .imm (.list (rs.map Report.enc)), .imm (.int .i64 limit)] { res := [.arr 93 3 ((matched t rs limit).map Match.enc)] } := by
  refine callOk_of tyOk Tryz.func51 rfl rfl (le_of_ble rfl) (le_of_ble rfl) (mutOk_imm rfl _) ?_
  have h12 := tt_12 hok
  have hc0 := c63 rs hv hl
  have hLn := lasts_len 100 rs
  have hnear : prsN t (lasts 100 rs) limit (lasts 100 rs).length = nearL t rs limit := by unfold prsN nearL allM; rw [List.take_length]
  have hanti := nearL_anti hok rs limit
  have hnl := nearL_len t rs limit
  have hcl := chosen_len t rs limit
  have hcan := chosen_anti t rs limit
  unfold matched
  unfold chosen at hcl hcan ⊢
  have hc3 := sortM mLt_eq mWeak 92 c92 (nearL t rs limit) hanti (by omega)
  have hc4 := sortM vLt_eq vWeak 96 c96 (greedy (sortL mLt (nearL t rs limit)) []) hcan (by omega)
  generalize lasts 100 rs = L at *
  have hLl : (L.map Report.enc).length = L.length := List.length_map _
  repeat' first | refine go_seq ?_ | refine go_region ?_ | ((first | refine go_op rfl ?_ | refine go_nil ?_ | refine go_storeBox rfl rfl rfl rfl rfl rfl ?_ | refine go_call [] (hc0) rfl rfl rfl rfl ?_) <;> conv => whnf) | ((first | refine go_loadB ?_ | refine ⟨by kernel_rfl, ?_⟩ | refine go_ret ?_) <;> conv => whnf) | refine go_block ?_ | ((first | refine go_skip ?_ | refine go_exit ?_) <;> conv => whnf) | refine go_true rfl ?_ | refine go_false rfl ?_ | refine go_cond rfl (fun h => ?_) (fun h => ?_) | refine ⟨rfl, ?_⟩ | ((first | refine ⟨trivial, ?_⟩ | refine ⟨le_of_ble rfl, ?_⟩) <;> conv => whnf) | fail
  refine go_loop (α := Nat) (fun i => i ≤ L.length) (fun i => L.length - i)
    (fun i => st Tryz.f51.ntmps [(2, .imm (.int .i64 limit)), (3, .box 1000 0), (7, .own 1001 0 ((prsN t L limit i).map Match.enc).length), (16, .imm (.list (L.map Report.enc))), (17, .imm (.int .i64 (L.map Report.enc).length)), (18, .imm (.int .i64 (i : Nat)))]
      [(1000, .box 40 (t.enc.map .imm)), (1001, .arr 93 3 ((prsN t L limit i).map Match.enc))] []) 0 (Nat.zero_le _) ?_ ?_
  · exact ref_st (fun y => if y = 1000 then nid 1 3 else nid 2 7) rfl ⟨rfl, ⟨rfl, rfl⟩, ⟨rfl, rfl⟩, rfl, rfl, rfl, trivial⟩ ⟨⟨rfl, wavs_imm _⟩, rfl, trivial⟩ (by simp [nid]) rfl (by simp)
  intro i hi
  cases hx : L[i]? with
  | none =>
    have hge := le_of_at hx
    have hie : i = L.length := by omega
    subst hie
    rw [hnear]
    have hsl : ((sortL mLt (nearL t rs limit)).map Match.enc).length = ((nearL t rs limit).map Match.enc).length := by rw [List.length_map, List.length_map, sortL_len mWeak]
    repeat' first | refine go_seq ?_ | refine go_region ?_ | ((first | refine go_op rfl ?_ | refine go_nil ?_ | refine go_storeBox rfl rfl rfl rfl rfl rfl ?_ | refine go_call [2, 0] hc3 (argsIn_lent rfl rfl rfl) rfl rfl rfl ?_) <;> conv => whnf) | ((first | refine go_loadB ?_ | refine ⟨by kernel_rfl, ?_⟩ | refine go_ret ?_) <;> conv => whnf) | refine go_block ?_ | ((first | refine go_skip ?_ | refine go_exit ?_) <;> conv => whnf) | refine go_true rfl ?_ | refine go_false rfl ?_ | refine go_cond rfl (fun h => ?_) (fun h => ?_) | refine ⟨rfl, ?_⟩ | ((first | refine ⟨trivial, ?_⟩ | refine ⟨le_of_ble rfl, ?_⟩) <;> conv => whnf) | fail
    all_goals try first
      | (exfalso; have h' := of_decide_eq_false h; omega)
      | (exfalso; have h' := of_decide_eq_true h; omega)
      | (exfalso; rename_i hq; have h' := of_decide_eq_true hq; omega)
      | (exfalso; rename_i hq; have h' := of_decide_eq_false hq; omega)
      | (exfalso; rename_i hq _; have h' := of_decide_eq_true hq; omega)
      | (exfalso; rename_i hq _; have h' := of_decide_eq_false hq; omega)
    have hQl : (sortL mLt (nearL t rs limit)).length = (nearL t rs limit).length := sortL_len mWeak _
    rw [← hsl]
    generalize sortL mLt (nearL t rs limit) = Q at *
    have hQm : (Q.map Match.enc).length = Q.length := List.length_map _
    refine go_loop (α := Nat) (fun j => j ≤ Q.length) (fun j => Q.length - j)
      (fun j => st Tryz.f51.ntmps [(12, .own 1002 0 ((greedy (Q.take j) []).map Match.enc).length), (43, .own 1001 0 (Q.map Match.enc).length), (44, .imm (.int .i64 (Q.map Match.enc).length)), (45, .imm (.int .i64 (j : Nat)))]
        [(1001, .arr 93 3 (Q.map Match.enc)), (1002, .arr 93 3 ((greedy (Q.take j) []).map Match.enc))] []) 0 (Nat.zero_le _) ?_ ?_
    · exact ref_st (fun y => if y = 1002 then nid 4 12 else y) rfl ⟨⟨rfl, rfl⟩, ⟨rfl, rfl⟩, rfl, rfl, trivial⟩ ⟨rfl, rfl, trivial⟩ (by simp [nid]) rfl (by simp)
    intro j hj
    cases hy : Q[j]? with
    | none =>
      have hge2 := le_of_at hy
      rw [List.take_of_length_le hge2]
      have hs2 : ((sortL vLt (greedy Q [])).map Match.enc).length = ((greedy Q []).map Match.enc).length := by rw [List.length_map, List.length_map, sortL_len vWeak]
      repeat' first | refine go_seq ?_ | refine go_region ?_ | ((first | refine go_op rfl ?_ | refine go_nil ?_ | refine go_storeBox rfl rfl rfl rfl rfl rfl ?_ | refine go_call [2, 0] hc4 (argsIn_lent rfl rfl rfl) rfl rfl rfl ?_) <;> conv => whnf) | ((first | refine go_loadB ?_ | refine ⟨by kernel_rfl, ?_⟩ | refine go_ret ?_) <;> conv => whnf) | refine go_block ?_ | ((first | refine go_skip ?_ | refine go_exit ?_) <;> conv => whnf) | refine go_true rfl ?_ | refine go_false rfl ?_ | refine go_cond rfl (fun h => ?_) (fun h => ?_) | refine ⟨rfl, ?_⟩ | ((first | refine ⟨trivial, ?_⟩ | refine ⟨le_of_ble rfl, ?_⟩) <;> conv => whnf) | fail
      all_goals first
        | exact ret_arr rfl rfl rfl rfl rfl (by rw [List.drop_zero, ← hs2, List.take_length]) (match_gr _)
        | (exfalso; have h' := of_decide_eq_false h; omega)
        | (exfalso; have h' := of_decide_eq_true h; omega)
        | (exfalso; rename_i hq; have h' := of_decide_eq_true hq; omega)
        | (exfalso; rename_i hq; have h' := of_decide_eq_false hq; omega)
        | (exfalso; rename_i hq _; have h' := of_decide_eq_true hq; omega)
        | (exfalso; rename_i hq _; have h' := of_decide_eq_false hq; omega)
        | trace_state
    | some m =>
      have hlt2 := lt_of_at hy
      have hr2 : (Q.map Match.enc)[j]? = some [.int .i64 m.vehicle, .int .i64 m.id, .int .i64 m.delay] := by rw [List.getElem?_map, hy]; rfl
      have hnx := greedy_next hy
      have hgl := (greedy_len (Q.take j) []).2
      rw [List.length_take] at hgl
      simp only [List.length_nil] at hgl
      generalize hC : greedy (Q.take j) [] = C at *
      have hCl : (C.map Match.enc).length = C.length := List.length_map _
      have hcc : CallOk Tryz.prog 60 [.imm (.list (((C.map Match.enc).drop 0).take (C.map Match.enc).length)), .imm (.fn 95 [.ptr m.enc])] { res := [.imm (.bool (hits C m))] } := by
        rw [match_view]
        exact c60d 95 (.ptr m.enc) (hitM m) (c95 m) C (by omega)
      have hone := match_one [m]
      have hb : (C.map Match.enc).length + 1 ≤ 1073741824 := by omega
      cases hh : hits C m with
      | true =>
        rw [stepG_hit hh] at hnx
        rw [hh] at hcc
        repeat' first | refine go_seq ?_ | refine go_region ?_ | ((first | refine go_op rfl ?_ | refine go_nil ?_ | refine go_storeBox rfl rfl rfl rfl rfl rfl ?_ | refine go_call [] (hcc) rfl rfl rfl rfl ?_ | refine go_idxOwn rfl rfl rfl rfl rfl rfl (by omega) ?_ | refine go_loadEl (i := j) rfl rfl rfl hr2 ?_) <;> conv => whnf) | ((first | refine go_loadB ?_ | refine ⟨by kernel_rfl, ?_⟩ | refine go_ret ?_) <;> conv => whnf) | refine go_block ?_ | ((first | refine go_skip ?_ | refine go_exit ?_) <;> conv => whnf) | refine go_true rfl ?_ | refine go_false rfl ?_ | refine go_cond rfl (fun h => ?_) (fun h => ?_) | refine ⟨rfl, ?_⟩ | ((first | refine ⟨trivial, ?_⟩ | refine ⟨le_of_ble rfl, ?_⟩) <;> conv => whnf) | fail
        all_goals first
          | (refine go_next (j + 1) (by omega) (by omega) (ref_st id rfl ⟨⟨?_, rfl⟩, ⟨rfl, rfl⟩, rfl, next_i (by omega), trivial⟩ ⟨rfl, ?_, trivial⟩ (by simp) rfl (by simp))
             · show AV.own _ _ _ = AV.own _ _ _
               rw [hnx]; try rfl
             · show some _ = some _
               rw [hnx]; try rfl
             done)
          | (exfalso; have h' := of_decide_eq_false h; omega)
          | (exfalso; have h' := of_decide_eq_true h; omega)
          | (exfalso; rename_i hq; have h' := of_decide_eq_true hq; omega)
          | (exfalso; rename_i hq; have h' := of_decide_eq_false hq; omega)
          | (exfalso; rename_i hq _; have h' := of_decide_eq_true hq; omega)
          | (exfalso; rename_i hq _; have h' := of_decide_eq_false hq; omega)
          | trace_state
      | false =>
        rw [stepG_free hh] at hnx
        rw [hh] at hcc
        repeat' first | refine go_seq ?_ | refine go_region ?_ | ((first | refine go_op rfl ?_ | refine go_nil ?_ | refine go_storeBox rfl rfl rfl rfl rfl rfl ?_ | refine go_call [] (hcc) rfl rfl rfl rfl ?_ | refine go_idxOwn rfl rfl rfl rfl rfl rfl (by omega) ?_ | refine go_loadEl (i := j) rfl rfl rfl hr2 ?_ | refine go_append (rows2 := [m].map Match.enc) rfl rfl rfl rfl rfl rfl rfl rfl rfl rfl rfl rfl hone rfl rfl rfl hb ?_) <;> conv => whnf) | ((first | refine go_loadB ?_ | refine ⟨by kernel_rfl, ?_⟩ | refine go_ret ?_) <;> conv => whnf) | refine go_block ?_ | ((first | refine go_skip ?_ | refine go_exit ?_) <;> conv => whnf) | refine go_true rfl ?_ | refine go_false rfl ?_ | refine go_cond rfl (fun h => ?_) (fun h => ?_) | refine ⟨rfl, ?_⟩ | ((first | refine ⟨trivial, ?_⟩ | refine ⟨le_of_ble rfl, ?_⟩) <;> conv => whnf) | fail
        all_goals first
          | (refine go_next (j + 1) (by omega) (by omega) (ref_st (fun y => if y = 1002 then nid 5 56 else y) rfl ⟨⟨?_, rfl⟩, ⟨rfl, rfl⟩, rfl, next_i (by omega), trivial⟩ ⟨rfl, ?_, trivial⟩ (by simp [nid]) rfl (by simp))
             · show AV.own _ _ _ = AV.own _ _ _
               rw [hnx, List.map_append, List.length_append]; try rfl
             · show some _ = some _
               rw [hnx, List.map_append]; try rfl
             done)
          | (exfalso; have h' := of_decide_eq_false h; omega)
          | (exfalso; have h' := of_decide_eq_true h; omega)
          | (exfalso; rename_i hq; have h' := of_decide_eq_true hq; omega)
          | (exfalso; rename_i hq; have h' := of_decide_eq_false hq; omega)
          | (exfalso; rename_i hq _; have h' := of_decide_eq_true hq; omega)
          | (exfalso; rename_i hq _; have h' := of_decide_eq_false hq; omega)
          | trace_state
  | some r =>
    have hlt := lt_of_at hx
    have hr := row_at Report.enc hx
    have hc1 := c89 t h12 r
    have hfl := fits_len t r
    have hfm : ((fits t r).map Match.enc).length = (fits t r).length := List.length_map _
    have hp0 := prs_0 t L limit i (fits t r)
    repeat' first | refine go_seq ?_ | refine go_region ?_ | ((first | refine go_op rfl ?_ | refine go_nil ?_ | refine go_storeBox rfl rfl rfl rfl rfl rfl ?_ | refine go_call [] (hc1) rfl rfl rfl rfl ?_ | refine go_idx rfl rfl rfl rfl (by omega) hr rfl ?_) <;> conv => whnf) | ((first | refine go_loadB ?_ | refine ⟨by kernel_rfl, ?_⟩ | refine go_ret ?_) <;> conv => whnf) | refine go_block ?_ | ((first | refine go_skip ?_ | refine go_exit ?_) <;> conv => whnf) | refine go_true rfl ?_ | refine go_false rfl ?_ | refine go_cond rfl (fun h => ?_) (fun h => ?_) | refine ⟨rfl, ?_⟩ | ((first | refine ⟨trivial, ?_⟩ | refine ⟨le_of_ble rfl, ?_⟩) <;> conv => whnf) | fail
    all_goals try first
      | (exfalso; have h' := of_decide_eq_false h; omega)
      | (exfalso; have h' := of_decide_eq_true h; omega)
      | (exfalso; rename_i hq; have h' := of_decide_eq_true hq; omega)
      | (exfalso; rename_i hq; have h' := of_decide_eq_false hq; omega)
      | (exfalso; rename_i hq _; have h' := of_decide_eq_true hq; omega)
      | (exfalso; rename_i hq _; have h' := of_decide_eq_false hq; omega)
    refine go_loop (α := Nat) (fun k => k ≤ (fits t r).length) (fun k => (fits t r).length - k)
      (fun k => st Tryz.f51.ntmps [(2, .imm (.int .i64 limit)), (3, .box 1000 0), (7, .own 1001 0 ((prs t L limit i (fits t r) k).map Match.enc).length), (16, .imm (.list (L.map Report.enc))), (17, .imm (.int .i64 (L.map Report.enc).length)), (18, .imm (.int .i64 (i : Nat))), (24, .imm (.list ((fits t r).map Match.enc))), (25, .imm (.int .i64 ((fits t r).map Match.enc).length)), (26, .imm (.int .i64 (k : Nat)))]
        [(1000, .box 40 (t.enc.map .imm)), (1001, .arr 93 3 ((prs t L limit i (fits t r) k).map Match.enc))] []) 0 (Nat.zero_le _) ?_ ?_
    · refine ref_st id rfl ⟨rfl, ⟨rfl, rfl⟩, ⟨?_, rfl⟩, rfl, rfl, rfl, rfl, rfl, rfl, trivial⟩ ⟨⟨rfl, wavs_imm _⟩, ?_, trivial⟩ (by simp) rfl (by simp)
      · show AV.own _ _ _ = AV.own _ _ _
        rw [hp0]; try rfl
      · show some _ = some _
        rw [hp0]; try rfl
    intro k hk
    have hpl := prs_len t L limit i (fits t r) k
    have hi12 : i * t.trips.length ≤ 1200 := Nat.le_trans (Nat.mul_le_mul (show i ≤ 100 by omega) h12) (by omega)
    cases hy : (fits t r)[k]? with
    | none =>
      have hge2 := le_of_at hy
      have hpe := prs_end limit hx hge2
      rw [hpe]
      repeat' first | refine go_seq ?_ | refine go_region ?_ | ((first | refine go_op rfl ?_ | refine go_nil ?_ | refine go_storeBox rfl rfl rfl rfl rfl rfl ?_) <;> conv => whnf) | ((first | refine go_loadB ?_ | refine ⟨by kernel_rfl, ?_⟩ | refine go_ret ?_) <;> conv => whnf) | refine go_block ?_ | ((first | refine go_skip ?_ | refine go_exit ?_) <;> conv => whnf) | refine go_true rfl ?_ | refine go_false rfl ?_ | refine go_cond rfl (fun h => ?_) (fun h => ?_) | refine ⟨rfl, ?_⟩ | ((first | refine ⟨trivial, ?_⟩ | refine ⟨le_of_ble rfl, ?_⟩) <;> conv => whnf) | fail
      all_goals first
        | exact go_next (i + 1) (by omega) (by omega) (ref_st id rfl ⟨rfl, ⟨rfl, rfl⟩, ⟨rfl, rfl⟩, rfl, rfl, next_i (by omega), trivial⟩ ⟨⟨rfl, wavs_imm _⟩, rfl, trivial⟩ (by simp) rfl (by simp))
        | (exfalso; have h' := of_decide_eq_false h; omega)
        | (exfalso; have h' := of_decide_eq_true h; omega)
        | (exfalso; rename_i hq; have h' := of_decide_eq_true hq; omega)
        | (exfalso; rename_i hq; have h' := of_decide_eq_false hq; omega)
        | (exfalso; rename_i hq _; have h' := of_decide_eq_true hq; omega)
        | (exfalso; rename_i hq _; have h' := of_decide_eq_false hq; omega)
        | trace_state
    | some m =>
      have hlt2 := lt_of_at hy
      have hr2 := row_at Match.enc hy
      have hnx := prs_next t L limit i hy
      have hca := c90 m.delay
      have hone := match_one [m]
      have hb : ((prs t L limit i (fits t r) k).map Match.enc).length + 1 ≤ 1073741824 := by rw [List.length_map]; omega
      cases hn : nearM limit m with
      | true =>
        rw [hn, if_pos rfl] at hnx
        unfold nearM at hn
        repeat' first | refine go_seq ?_ | refine go_region ?_ | ((first | refine go_op rfl ?_ | refine go_nil ?_ | refine go_storeBox rfl rfl rfl rfl rfl rfl ?_ | refine go_call [] (hca) rfl rfl rfl rfl ?_ | refine go_idx rfl rfl rfl rfl (by omega) hr2 rfl ?_ | refine go_append (rows2 := [m].map Match.enc) rfl rfl rfl rfl rfl rfl rfl rfl rfl rfl rfl rfl hone rfl rfl rfl hb ?_) <;> conv => whnf) | ((first | refine go_loadB ?_ | refine ⟨by kernel_rfl, ?_⟩ | refine go_ret ?_) <;> conv => whnf) | refine go_block ?_ | ((first | refine go_skip ?_ | refine go_exit ?_) <;> conv => whnf) | refine go_true rfl ?_ | refine go_false rfl ?_ | refine go_cond rfl (fun h => ?_) (fun h => ?_) | refine ⟨rfl, ?_⟩ | ((first | refine ⟨trivial, ?_⟩ | refine ⟨le_of_ble rfl, ?_⟩) <;> conv => whnf) | fail
        all_goals first
          | (refine go_next (k + 1) (by omega) (by omega) (ref_st (fun y => if y = 1001 then nid 5 38 else y) rfl ⟨rfl, ⟨rfl, rfl⟩, ⟨?_, rfl⟩, rfl, rfl, rfl, rfl, rfl, next_i (by omega), trivial⟩ ⟨⟨rfl, wavs_imm _⟩, ?_, trivial⟩ (by simp [nid]) rfl (by simp))
             · show AV.own _ _ _ = AV.own _ _ _
               rw [hnx, List.map_append, List.length_append]; try rfl
             · show some _ = some _
               rw [hnx, List.map_append]; try rfl
             done)
          | (exfalso; have h' := of_decide_eq_false h; omega)
          | (exfalso; have h' := of_decide_eq_true h; omega)
          | (exfalso; rename_i hq; have h' := of_decide_eq_true hq; omega)
          | (exfalso; rename_i hq; have h' := of_decide_eq_false hq; omega)
          | (exfalso; rename_i hq _; have h' := of_decide_eq_true hq; omega)
          | (exfalso; rename_i hq _; have h' := of_decide_eq_false hq; omega)
          | (exfalso; rw [hn] at h; cases h; done)
          | trace_state
      | false =>
        rw [hn, if_neg (by simp), List.append_nil] at hnx
        unfold nearM at hn
        repeat' first | refine go_seq ?_ | refine go_region ?_ | ((first | refine go_op rfl ?_ | refine go_nil ?_ | refine go_storeBox rfl rfl rfl rfl rfl rfl ?_ | refine go_call [] (hca) rfl rfl rfl rfl ?_ | refine go_idx rfl rfl rfl rfl (by omega) hr2 rfl ?_) <;> conv => whnf) | ((first | refine go_loadB ?_ | refine ⟨by kernel_rfl, ?_⟩ | refine go_ret ?_) <;> conv => whnf) | refine go_block ?_ | ((first | refine go_skip ?_ | refine go_exit ?_) <;> conv => whnf) | refine go_true rfl ?_ | refine go_false rfl ?_ | refine go_cond rfl (fun h => ?_) (fun h => ?_) | refine ⟨rfl, ?_⟩ | ((first | refine ⟨trivial, ?_⟩ | refine ⟨le_of_ble rfl, ?_⟩) <;> conv => whnf) | fail
        all_goals first
          | (refine go_next (k + 1) (by omega) (by omega) (ref_st id rfl ⟨rfl, ⟨rfl, rfl⟩, ⟨?_, rfl⟩, rfl, rfl, rfl, rfl, rfl, next_i (by omega), trivial⟩ ⟨⟨rfl, wavs_imm _⟩, ?_, trivial⟩ (by simp) rfl (by simp))
             · show AV.own _ _ _ = AV.own _ _ _
               rw [hnx]; try rfl
             · show some _ = some _
               rw [hnx]; try rfl
             done)
          | (exfalso; have h' := of_decide_eq_false h; omega)
          | (exfalso; have h' := of_decide_eq_true h; omega)
          | (exfalso; rename_i hq; have h' := of_decide_eq_true hq; omega)
          | (exfalso; rename_i hq; have h' := of_decide_eq_false hq; omega)
          | (exfalso; rename_i hq _; have h' := of_decide_eq_true hq; omega)
          | (exfalso; rename_i hq _; have h' := of_decide_eq_false hq; omega)
          | (exfalso; rw [hn] at h; cases h; done)
          | trace_state
end Go.Proofs.YtmbaalkeogckbaaGreat

