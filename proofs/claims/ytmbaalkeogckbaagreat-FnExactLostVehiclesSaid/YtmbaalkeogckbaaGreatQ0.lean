/- Matches and marks of reports: the laws' helpers. MADE BY PROGRAM (helpers.py, marks.sh). -/
import Derived.Test.YtmbaalkeogckbaaGreatN8
import Derived.Test.YtmbaalkeogckbaaGreatN6
namespace Go.Proofs.YtmbaalkeogckbaaGreat
open Go Go.Am
set_option maxRecDepth 100000
set_option maxHeartbeats 4000000
attribute [local irreducible] amOps amC opCall opIndexAddr opPick retQ opMake opStore amDraw opAppend opLoad opNilCmp opIndex opSlice

structure Match where
  vehicle : Int
  id : Int
  delay : Int

def Match.enc (v : Match) : List D := [.int .i64 v.vehicle, .int .i64 v.id, .int .i64 v.delay]
def Match.ok (v : Match) : Prop := i64 v.vehicle ∧ i64 v.id ∧ i64 v.delay

theorem match_gr (xs : List Match) : ∀ x ∈ xs.map Match.enc, x.all D.gr = true := by
  intro x hx
  obtain ⟨v, _, rfl⟩ := List.mem_map.1 hx
  rfl
theorem match_one (xs : List Match) : (xs.map Match.enc).all (fun r => r.all D.one) = true := by
  simp only [List.all_map, List.all_eq_true]
  intro _ _
  rfl
theorem match_one' (xs : List Match) : ∀ r ∈ xs.map Match.enc, r.length = 3 ∧ r.all D.one = true := by
  intro r hr
  obtain ⟨v, _, rfl⟩ := List.mem_map.1 hr
  exact ⟨rfl, rfl⟩
theorem match_view (xs : List Match) : ((xs.map Match.enc).drop 0).take (xs.map Match.enc).length = xs.map Match.enc := by rw [List.drop_zero, List.take_length]

def Match.beq (v w : Match) : Bool := decide (v.vehicle = w.vehicle) && decide (v.id = w.id) && decide (v.delay = w.delay)

theorem match_self (v : Match) : v.beq v = true := by simp [Match.beq, str_self]

theorem c52 (v w : Match) : CallOk Tryz.prog 52 [.imm (.agg v.enc), .imm (.agg w.enc)] { res := [.imm (.bool (v.beq w))] } := by
  refine callOk_of tyOk Tryz.func52 rfl rfl (le_of_ble rfl) (le_of_ble rfl) (mutOk_imm rfl _) ?_
  repeat' first | refine go_seq ?_ | refine go_region ?_ | ((first | refine go_op rfl ?_ | refine go_nil ?_) <;> conv => whnf) | ((first | refine go_loadB ?_ | refine ⟨by kernel_rfl, ?_⟩ | refine go_ret ?_) <;> conv => whnf) | ((first | refine go_skip ?_) <;> conv => whnf) | refine go_true rfl ?_ | refine go_false rfl ?_ | refine go_cond rfl (fun h => ?_) (fun h => ?_) | refine ⟨rfl, ?_⟩ | ((first | refine ⟨trivial, ?_⟩ | refine ⟨le_of_ble rfl, ?_⟩) <;> conv => whnf) | fail
  all_goals refine ret_imm rfl rfl rfl rfl ?_ rfl
  all_goals simp_all [Match.beq]

theorem c24 (xs ys : List Match) (hl : xs.length ≤ 1048576) : CallOk Tryz.prog 24 [.imm (.list (xs.map Match.enc)), .imm (.list (ys.map Match.enc))] { res := [.imm (.bool (decide (xs.length = ys.length) && (xs.zip ys).all fun x => x.1.beq x.2))] } := by
  refine callOk_of tyOk Tryz.func24 rfl rfl (le_of_ble rfl) (le_of_ble rfl) (mutOk_imm rfl _) ?_
  repeat' first | refine go_seq ?_ | refine go_region ?_ | refine go_draw drawsOk ?_ | ((first | refine go_op rfl ?_ | refine go_nil ?_ | refine go_dop rfl ?_ | refine go_dend (by kernel_rfl) ?_) <;> conv => whnf) | ((first | refine go_loadB ?_ | refine ⟨by kernel_rfl, ?_⟩ | refine go_ret ?_) <;> conv => whnf) | refine go_block ?_ | ((first | refine go_skip ?_ | refine go_exit ?_) <;> conv => whnf) | refine go_true rfl ?_ | refine go_false rfl ?_ | refine go_cond rfl (fun h => ?_) (fun h => ?_) | refine ⟨rfl, ?_⟩ | ((first | refine ⟨trivial, ?_⟩ | refine ⟨le_of_ble rfl, ?_⟩) <;> conv => whnf) | fail
  · refine ret_imm rfl rfl rfl rfl ?_ rfl
    simp at h
    simp; omega
  simp at h
  refine go_loop (α := Nat) (fun i => i ≤ xs.length ∧ ((xs.zip ys).take i).all (fun x => x.1.beq x.2) = true) (fun i => xs.length - i) (fun i => st Tryz.f24.ntmps [(0, .imm (.list (xs.map Match.enc))), (1, .imm (.list (ys.map Match.enc))), (5, .imm (.int .i64 (i : Nat)))] [] []) 0
    ⟨Nat.zero_le _, rfl⟩ (ref_st0 rfl ⟨rfl, rfl, rfl, trivial⟩ rfl) ?_
  rintro i ⟨hi, ha⟩
  cases hx : xs[i]? with
  | none =>
    have hge := le_of_at hx
    repeat' first | refine go_seq ?_ | refine go_region ?_ | refine go_draw drawsOk ?_ | ((first | refine go_op rfl ?_ | refine go_nil ?_ | refine go_dop rfl ?_ | refine go_dend (by kernel_rfl) ?_) <;> conv => whnf) | ((first | refine go_loadB ?_ | refine ⟨by kernel_rfl, ?_⟩ | refine go_ret ?_) <;> conv => whnf) | refine go_block ?_ | ((first | refine go_skip ?_ | refine go_exit ?_) <;> conv => whnf) | refine go_true rfl ?_ | refine go_false rfl ?_ | refine go_cond rfl (fun h => ?_) (fun h => ?_) | refine ⟨rfl, ?_⟩ | ((first | refine ⟨trivial, ?_⟩ | refine ⟨le_of_ble rfl, ?_⟩) <;> conv => whnf) | fail
    · exfalso; simp at *; omega
    · refine ret_imm rfl rfl rfl rfl ?_ rfl
      rw [all_end (by simp; omega) ha]
      simp; omega
  | some v =>
    have hlt := lt_of_at hx
    have hr := row_at Match.enc hx
    obtain ⟨w, hw⟩ : ∃ w, ys[i]? = some w := ⟨_, List.getElem?_eq_getElem (by omega)⟩
    have hr2 := row_at Match.enc hw
    have hz : (xs.zip ys)[i]? = some (v, w) := by rw [List.getElem?_zip_eq_some]; exact ⟨hx, hw⟩
    have hno := fun h => all_not (p := fun x : Match × Match => x.1.beq x.2) hz h
    repeat' first | refine go_seq ?_ | refine go_region ?_ | refine go_draw drawsOk ?_ | ((first | refine go_op rfl ?_ | refine go_nil ?_ | refine go_dop rfl ?_ | refine go_dend (by kernel_rfl) ?_ | refine go_call [] (c52 v w) rfl rfl rfl rfl ?_ | refine go_idx rfl rfl rfl rfl (by omega) (by assumption) rfl ?_) <;> conv => whnf) | ((first | refine go_loadB ?_ | refine ⟨by kernel_rfl, ?_⟩ | refine go_ret ?_) <;> conv => whnf) | refine go_block ?_ | ((first | refine go_skip ?_ | refine go_exit ?_) <;> conv => whnf) | refine go_true rfl ?_ | refine go_false rfl ?_ | refine go_cond rfl (fun h => ?_) (fun h => ?_) | refine ⟨rfl, ?_⟩ | ((first | refine ⟨trivial, ?_⟩ | refine ⟨le_of_ble rfl, ?_⟩) <;> conv => whnf) | fail
    all_goals first
      | (exfalso; simp at h; omega)
      | (exact go_next (i + 1) ⟨by omega, all_next hz ha (by simpa using h)⟩ (by omega) (ref_st0 rfl ⟨rfl, rfl, next_i (by omega), trivial⟩ rfl))
      | (refine ret_imm rfl rfl rfl rfl ?_ rfl
         rw [hno (by simpa using h)]; simp)

theorem c24s (xs : List Match) (hl : xs.length ≤ 1048576) : CallOk Tryz.prog 24 [.imm (.list (xs.map Match.enc)), .imm (.list (xs.map Match.enc))] { res := [.imm (.bool true)] } := by
  have := c24 xs xs hl
  rw [zip_self match_self] at this
  simpa using this

def markMatch (k : Int) (j : Nat) : Match := ⟨kAt k (3 * j), kAt k (3 * j + 1), kAt k (3 * j + 2)⟩
def marksMatch (k : Int) (n : Nat) : List Match := (List.range n).map (markMatch k)
theorem marksMatch_len (k : Int) (n : Nat) : ((marksMatch k n).map Match.enc).length = n := by simp [marksMatch]
theorem marksMatch_at (k : Int) {n i : Nat} (h : i < n) : ((marksMatch k n).map Match.enc)[i]? = some (markMatch k i).enc := by simp [marksMatch, h]

theorem c27 (xs : List Match) (k : Int) (_ : 0 ≤ k) (_ : k ≤ 576460752303423488) (hl : xs.length ≤ 1048576) : CallOk Tryz.prog 27 [.arr 93 3 (xs.map Match.enc), .imm (.int .i64 k)]
    { res := [.imm (.int .i64 (kAt k (3 * xs.length)))], muts := [.arr 93 3 ((marksMatch k xs.length).map Match.enc)] } := by
  refine callOk_of tyOk Tryz.func27 rfl rfl (le_of_ble rfl) (le_of_ble rfl) (mutOk_arr0 rfl (by simp [marksMatch])) ?_
  have hyl : ((marksMatch k xs.length).map Match.enc).length = (xs.map Match.enc).length := by simp [marksMatch]
  repeat' first | refine go_seq ?_ | refine go_region ?_ | ((first | refine go_op rfl ?_ | refine go_nil ?_ | refine go_storeBox rfl rfl rfl rfl rfl rfl ?_) <;> conv => whnf) | ((first | refine ⟨by kernel_rfl, ?_⟩ | refine go_ret ?_) <;> conv => whnf) | refine go_block ?_ | ((first | refine go_skip ?_ | refine go_exit ?_) <;> conv => whnf) | refine go_true rfl ?_ | refine go_false rfl ?_ | refine go_cond rfl (fun h => ?_) (fun h => ?_) | refine ⟨rfl, ?_⟩ | ((first | refine ⟨trivial, ?_⟩ | refine ⟨le_of_ble rfl, ?_⟩) <;> conv => whnf) | fail
  refine go_loop (α := Nat) (fun i => i ≤ xs.length) (fun i => xs.length - i)
    (fun i => st Tryz.f27.ntmps [(0, .own 1000 0 (xs.map Match.enc).length), (1, .imm (.int .i64 (kAt k (3 * i)))), (5, .imm (.int .i64 (i : Nat)))]
      [(1000, .arr 93 3 (upto ((marksMatch k xs.length).map Match.enc) (xs.map Match.enc) i))] [1000]) 0 (Nat.zero_le _) ?_ ?_
  · refine ref_st (fun _ => 0) rfl ⟨⟨rfl, rfl⟩, rfl, rfl, trivial⟩ ⟨?_, trivial⟩ (by simp) rfl (by simp [lookM])
    rw [upto_0]; rfl
  · intro i hi
    cases hx : xs[i]? with
    | none =>
      have hge := le_of_at hx
      have hie : i = xs.length := by omega
      rw [upto_end hyl (by simp; omega), hie]
      repeat' first | refine go_seq ?_ | refine go_region ?_ | ((first | refine go_op rfl ?_ | refine go_nil ?_ | refine go_storeBox rfl rfl rfl rfl rfl rfl ?_) <;> conv => whnf) | ((first | refine ⟨by kernel_rfl, ?_⟩ | refine go_ret ?_) <;> conv => whnf) | refine go_block ?_ | ((first | refine go_skip ?_ | refine go_exit ?_) <;> conv => whnf) | refine go_true rfl ?_ | refine go_false rfl ?_ | refine go_cond rfl (fun h => ?_) (fun h => ?_) | refine ⟨rfl, ?_⟩ | ((first | refine ⟨trivial, ?_⟩ | refine ⟨le_of_ble rfl, ?_⟩) <;> conv => whnf) | fail
      · exfalso; simp at *
      · exact ret_mut0 rfl rfl rfl rfl rfl rfl rfl (match_gr _)
    | some v =>
      have hlt := lt_of_at hx
      have hrow : (xs.map Match.enc)[i]? = some v.enc := by simp [hx]
      have hat := upto_at hyl hrow
      have hset := upto_set (y := (markMatch k i).enc) hyl hrow (marksMatch_at k hlt)
      have hil : i < (upto ((marksMatch k xs.length).map Match.enc) (xs.map Match.enc) i).length := by rw [upto_len hyl]; simpa using hlt
      repeat' first | refine go_seq ?_ | refine go_region ?_ | ((first | refine go_op rfl ?_ | refine go_nil ?_ | refine go_storeBox rfl rfl rfl rfl rfl rfl ?_ | refine go_idxOwn rfl rfl rfl rfl rfl rfl (by simp; omega) ?_ | refine go_storeEl rfl rfl rfl rfl hat rfl rfl rfl ?_ | refine go_storeEl rfl rfl rfl rfl (set_at hil) rfl rfl (List.set_set _) ?_) <;> conv => whnf) | ((first | refine ⟨by kernel_rfl, ?_⟩ | refine go_ret ?_) <;> conv => whnf) | refine go_block ?_ | ((first | refine go_skip ?_ | refine go_exit ?_) <;> conv => whnf) | refine go_true rfl ?_ | refine go_false rfl ?_ | refine go_cond rfl (fun h => ?_) (fun h => ?_) | refine ⟨rfl, ?_⟩ | ((first | refine ⟨trivial, ?_⟩ | refine ⟨le_of_ble rfl, ?_⟩) <;> conv => whnf) | fail
      · refine go_next (i + 1) (by omega) (by omega) (ref_st id rfl ⟨⟨rfl, rfl⟩, rfl, next_i (by omega), trivial⟩ ⟨?_, trivial⟩ (by simp) rfl (by simp [lookM]))
        rw [← hset]; rfl
      · exfalso; simp at *; omega

theorem c28 (k : Int) (n : Nat) (_ : 0 ≤ k) (_ : k ≤ 576460752303423488) (hl : n ≤ 1048576) : CallOk Tryz.prog 28 [.imm (.list ((marksMatch k n).map Match.enc)), .imm (.int .i64 k)] { res := [.imm (.int .i64 (kAt k (3 * n)))] } := by
  refine callOk_of tyOk Tryz.func28 rfl rfl (le_of_ble rfl) (le_of_ble rfl) (mutOk_imm rfl _) ?_
  repeat' first | refine go_seq ?_ | refine go_region ?_ | ((first | refine go_op rfl ?_ | refine go_nil ?_) <;> conv => whnf) | ((first | refine go_loadB ?_ | refine ⟨by kernel_rfl, ?_⟩ | refine go_ret ?_) <;> conv => whnf) | refine go_block ?_ | ((first | refine go_skip ?_ | refine go_exit ?_) <;> conv => whnf) | refine go_true rfl ?_ | refine go_false rfl ?_ | refine go_cond rfl (fun h => ?_) (fun h => ?_) | refine ⟨rfl, ?_⟩ | ((first | refine ⟨trivial, ?_⟩ | refine ⟨le_of_ble rfl, ?_⟩) <;> conv => whnf) | fail
  refine go_loop (α := Nat) (fun i => i ≤ n) (fun i => n - i)
    (fun i => st Tryz.f28.ntmps [(0, .imm (.list ((marksMatch k n).map Match.enc))), (1, .imm (.int .i64 (kAt k (3 * i)))), (5, .imm (.int .i64 (i : Nat)))] [] []) 0 (Nat.zero_le _) (ref_st0 rfl ⟨rfl, rfl, rfl, trivial⟩ rfl) ?_
  intro i hi
  by_cases hlt : i < n
  · have hr : ((marksMatch k n).map Match.enc)[((i : Nat) : Int).toNat]? = some (markMatch k i).enc := marksMatch_at k hlt
    repeat' first | refine go_seq ?_ | refine go_region ?_ | ((first | refine go_op rfl ?_ | refine go_nil ?_ | refine go_idx rfl rfl rfl rfl (by omega) (by assumption) rfl ?_) <;> conv => whnf) | ((first | refine go_loadB ?_ | refine ⟨by kernel_rfl, ?_⟩ | refine go_ret ?_) <;> conv => whnf) | refine go_block ?_ | ((first | refine go_skip ?_ | refine go_exit ?_) <;> conv => whnf) | refine go_true rfl ?_ | refine go_false rfl ?_ | refine go_cond rfl (fun h => ?_) (fun h => ?_) | refine ⟨rfl, ?_⟩ | ((first | refine ⟨trivial, ?_⟩ | refine ⟨le_of_ble rfl, ?_⟩) <;> conv => whnf) | fail
    all_goals first
      | (exfalso; simp [markMatch, kAt, nx] at h; done)
      | (refine go_next (i + 1) (by omega) (by omega) (ref_st0 rfl ⟨rfl, rfl, next_i (by omega), trivial⟩ rfl); done)
      | (exfalso; rw [marksMatch_len] at h; simp at h; omega)
  · have hie : i = n := by omega
    subst hie
    repeat' first | refine go_seq ?_ | refine go_region ?_ | ((first | refine go_op rfl ?_ | refine go_nil ?_) <;> conv => whnf) | ((first | refine go_loadB ?_ | refine ⟨by kernel_rfl, ?_⟩ | refine go_ret ?_) <;> conv => whnf) | refine go_block ?_ | ((first | refine go_skip ?_ | refine go_exit ?_) <;> conv => whnf) | refine go_true rfl ?_ | refine go_false rfl ?_ | refine go_cond rfl (fun h => ?_) (fun h => ?_) | refine ⟨rfl, ?_⟩ | ((first | refine ⟨trivial, ?_⟩ | refine ⟨le_of_ble rfl, ?_⟩) <;> conv => whnf) | fail
    · exfalso; rw [marksMatch_len] at h; simp at h
    · exact ret_imm rfl rfl rfl rfl rfl rfl

def markReport (k : Int) (j : Nat) : Report := ⟨kAt k (4 * j), kAt k (4 * j + 1), kAt k (4 * j + 2), kAt k (4 * j + 3)⟩
def marksReport (k : Int) (n : Nat) : List Report := (List.range n).map (markReport k)
theorem marksReport_len (k : Int) (n : Nat) : ((marksReport k n).map Report.enc).length = n := by simp [marksReport]
theorem marksReport_at (k : Int) {n i : Nat} (h : i < n) : ((marksReport k n).map Report.enc)[i]? = some (markReport k i).enc := by simp [marksReport, h]

theorem c26 (xs : List Report) (k : Int) (_ : 0 ≤ k) (_ : k ≤ 576460752303423488) (hl : xs.length ≤ 1048576) : CallOk Tryz.prog 26 [.arr 88 4 (xs.map Report.enc), .imm (.int .i64 k)]
    { res := [.imm (.int .i64 (kAt k (4 * xs.length)))], muts := [.arr 88 4 ((marksReport k xs.length).map Report.enc)] } := by
  refine callOk_of tyOk Tryz.func26 rfl rfl (le_of_ble rfl) (le_of_ble rfl) (mutOk_arr0 rfl (by simp [marksReport])) ?_
  have hyl : ((marksReport k xs.length).map Report.enc).length = (xs.map Report.enc).length := by simp [marksReport]
  repeat' first | refine go_seq ?_ | refine go_region ?_ | ((first | refine go_op rfl ?_ | refine go_nil ?_ | refine go_storeBox rfl rfl rfl rfl rfl rfl ?_) <;> conv => whnf) | ((first | refine ⟨by kernel_rfl, ?_⟩ | refine go_ret ?_) <;> conv => whnf) | refine go_block ?_ | ((first | refine go_skip ?_ | refine go_exit ?_) <;> conv => whnf) | refine go_true rfl ?_ | refine go_false rfl ?_ | refine go_cond rfl (fun h => ?_) (fun h => ?_) | refine ⟨rfl, ?_⟩ | ((first | refine ⟨trivial, ?_⟩ | refine ⟨le_of_ble rfl, ?_⟩) <;> conv => whnf) | fail
  refine go_loop (α := Nat) (fun i => i ≤ xs.length) (fun i => xs.length - i)
    (fun i => st Tryz.f26.ntmps [(0, .own 1000 0 (xs.map Report.enc).length), (1, .imm (.int .i64 (kAt k (4 * i)))), (5, .imm (.int .i64 (i : Nat)))]
      [(1000, .arr 88 4 (upto ((marksReport k xs.length).map Report.enc) (xs.map Report.enc) i))] [1000]) 0 (Nat.zero_le _) ?_ ?_
  · refine ref_st (fun _ => 0) rfl ⟨⟨rfl, rfl⟩, rfl, rfl, trivial⟩ ⟨?_, trivial⟩ (by simp) rfl (by simp [lookM])
    rw [upto_0]; rfl
  · intro i hi
    cases hx : xs[i]? with
    | none =>
      have hge := le_of_at hx
      have hie : i = xs.length := by omega
      rw [upto_end hyl (by simp; omega), hie]
      repeat' first | refine go_seq ?_ | refine go_region ?_ | ((first | refine go_op rfl ?_ | refine go_nil ?_ | refine go_storeBox rfl rfl rfl rfl rfl rfl ?_) <;> conv => whnf) | ((first | refine ⟨by kernel_rfl, ?_⟩ | refine go_ret ?_) <;> conv => whnf) | refine go_block ?_ | ((first | refine go_skip ?_ | refine go_exit ?_) <;> conv => whnf) | refine go_true rfl ?_ | refine go_false rfl ?_ | refine go_cond rfl (fun h => ?_) (fun h => ?_) | refine ⟨rfl, ?_⟩ | ((first | refine ⟨trivial, ?_⟩ | refine ⟨le_of_ble rfl, ?_⟩) <;> conv => whnf) | fail
      · exfalso; simp at *
      · exact ret_mut0 rfl rfl rfl rfl rfl rfl rfl (report_gr _)
    | some v =>
      have hlt := lt_of_at hx
      have hrow : (xs.map Report.enc)[i]? = some v.enc := by simp [hx]
      have hat := upto_at hyl hrow
      have hset := upto_set (y := (markReport k i).enc) hyl hrow (marksReport_at k hlt)
      have hil : i < (upto ((marksReport k xs.length).map Report.enc) (xs.map Report.enc) i).length := by rw [upto_len hyl]; simpa using hlt
      repeat' first | refine go_seq ?_ | refine go_region ?_ | ((first | refine go_op rfl ?_ | refine go_nil ?_ | refine go_storeBox rfl rfl rfl rfl rfl rfl ?_ | refine go_idxOwn rfl rfl rfl rfl rfl rfl (by simp; omega) ?_ | refine go_storeEl rfl rfl rfl rfl hat rfl rfl rfl ?_ | refine go_storeEl rfl rfl rfl rfl (set_at hil) rfl rfl (List.set_set _) ?_) <;> conv => whnf) | ((first | refine ⟨by kernel_rfl, ?_⟩ | refine go_ret ?_) <;> conv => whnf) | refine go_block ?_ | ((first | refine go_skip ?_ | refine go_exit ?_) <;> conv => whnf) | refine go_true rfl ?_ | refine go_false rfl ?_ | refine go_cond rfl (fun h => ?_) (fun h => ?_) | refine ⟨rfl, ?_⟩ | ((first | refine ⟨trivial, ?_⟩ | refine ⟨le_of_ble rfl, ?_⟩) <;> conv => whnf) | fail
      · refine go_next (i + 1) (by omega) (by omega) (ref_st id rfl ⟨⟨rfl, rfl⟩, rfl, next_i (by omega), trivial⟩ ⟨?_, trivial⟩ (by simp) rfl (by simp [lookM]))
        rw [← hset]; rfl
      · exfalso; simp at *; omega

end Go.Proofs.YtmbaalkeogckbaaGreat

