/- The walks of the laws' own helpers over records. -/
import Derived.Test.YtjebblagiiajaaaDoorMT
namespace Go.Proofs.YtjebblagiiajaaaDoor
open Go Go.Am
set_option maxRecDepth 100000
set_option maxHeartbeats 4000000
attribute [local irreducible] amOps amC opCall opIndexAddr opPick retQ opMake opStore amDraw opAppend opLoad opNilCmp opIndex

structure LogRecord where
  cmd : ByteArray
  reply : ByteArray

def LogRecord.enc (v : LogRecord) : List D := [.str v.cmd, .str v.reply]
def LogRecord.ok (v : LogRecord) : Prop := v.cmd.size ≤ maxLen ∧ v.reply.size ≤ maxLen

theorem logRecord_gr (xs : List LogRecord) : ∀ x ∈ xs.map LogRecord.enc, x.all D.gr = true := by
  intro x hx
  obtain ⟨v, _, rfl⟩ := List.mem_map.1 hx
  rfl
theorem logRecord_one (xs : List LogRecord) : (xs.map LogRecord.enc).all (fun r => r.all D.one) = true := by
  simp only [List.all_map, List.all_eq_true]
  intro v _
  rfl
theorem logRecord_one' (xs : List LogRecord) : ∀ r ∈ xs.map LogRecord.enc, r.length = 2 ∧ r.all D.one = true := by
  intro r hr
  obtain ⟨v, _, rfl⟩ := List.mem_map.1 hr
  exact ⟨rfl, rfl⟩
theorem logRecord_view (xs : List LogRecord) : ((xs.map LogRecord.enc).drop 0).take (xs.map LogRecord.enc).length = xs.map LogRecord.enc := by rw [List.drop_zero, List.take_length]

def LogRecord.beq (v w : LogRecord) : Bool := (v.cmd == w.cmd) && (v.reply == w.reply)

theorem logRecord_self (v : LogRecord) : v.beq v = true := by simp [LogRecord.beq, str_self]

theorem c41 (v w : LogRecord) : CallOk Tryd.prog 41 [.imm (.agg v.enc), .imm (.agg w.enc)] { res := [.imm (.bool (v.beq w))] } := by
  refine callOk_of tyOk Tryd.func41 rfl rfl (le_of_ble rfl) (le_of_ble rfl) (mutOk_imm rfl _) ?_
  repeat' first
    | refine go_seq ?_
    | refine go_region ?_
    | (refine go_op rfl ?_; conv => whnf)
    | (refine go_nil ?_; conv => whnf)
    | (refine go_hit rfl rfl rfl ?_; conv => whnf)
    | (refine go_miss rfl rfl rfl ?_)
    | (refine go_undef rfl rfl rfl ?_)
    | (refine go_splitT rfl rfl rfl (fun h => ?_) (fun h => ?_) <;> conv => whnf)
    | (refine go_splitF rfl rfl rfl (fun h => ?_) (fun h => ?_) <;> conv => whnf)
    | (refine go_storeBox rfl rfl rfl rfl rfl rfl ?_; conv => whnf)
    | (refine go_dop rfl ?_; conv => whnf)
    | (refine go_dhit rfl rfl ?_; conv => whnf)
    | (refine go_dmiss rfl rfl ?_; conv => whnf)
    | (refine go_dundef rfl rfl ?_; conv => whnf)
    | (refine go_dend (by kernel_rfl) ?_; conv => whnf)
    | refine go_draw drawsOk ?_
    | (refine go_pickT rfl ?_; conv => whnf)
    | (refine go_pickF rfl ?_; conv => whnf)
    | (refine go_pick rfl (fun h => ?_) (fun h => ?_) <;> conv => whnf)
    | (refine go_dsplit2 rfl (fun h => ?_) (fun h => ?_) <;> conv => whnf)
    | (refine go_loadB ?_; conv => whnf)
    | (refine ⟨by kernel_rfl, ?_⟩; conv => whnf)
    | (refine go_ret ?_; conv => whnf)
    | refine go_block ?_
    | (refine go_skip ?_; conv => whnf)
    | (refine go_exit ?_; conv => whnf)
    | refine go_true rfl ?_
    | refine go_false rfl ?_
    | refine go_cond rfl (fun h => ?_) (fun h => ?_)
    | refine ⟨rfl, ?_⟩
    | (refine ⟨trivial, ?_⟩; conv => whnf)
    | (refine ⟨le_of_ble rfl, ?_⟩; conv => whnf)
    | fail
  all_goals refine ret_imm rfl rfl rfl rfl ?_ rfl
  all_goals simp_all [LogRecord.beq]

theorem c29 (xs ys : List LogRecord) (hl : xs.length ≤ 1048576) : CallOk Tryd.prog 29 [.imm (.list (xs.map LogRecord.enc)), .imm (.list (ys.map LogRecord.enc))] { res := [.imm (.bool (decide (xs.length = ys.length) && (xs.zip ys).all fun x => x.1.beq x.2))] } := by
  refine callOk_of tyOk Tryd.func29 rfl rfl (le_of_ble rfl) (le_of_ble rfl) (mutOk_imm rfl _) ?_
  repeat' first
    | refine go_seq ?_
    | refine go_region ?_
    | (refine go_op rfl ?_; conv => whnf)
    | (refine go_nil ?_; conv => whnf)
    | (refine go_hit rfl rfl rfl ?_; conv => whnf)
    | (refine go_miss rfl rfl rfl ?_)
    | (refine go_undef rfl rfl rfl ?_)
    | (refine go_splitT rfl rfl rfl (fun h => ?_) (fun h => ?_) <;> conv => whnf)
    | (refine go_splitF rfl rfl rfl (fun h => ?_) (fun h => ?_) <;> conv => whnf)
    | (refine go_storeBox rfl rfl rfl rfl rfl rfl ?_; conv => whnf)
    | (refine go_dop rfl ?_; conv => whnf)
    | (refine go_dhit rfl rfl ?_; conv => whnf)
    | (refine go_dmiss rfl rfl ?_; conv => whnf)
    | (refine go_dundef rfl rfl ?_; conv => whnf)
    | (refine go_dend (by kernel_rfl) ?_; conv => whnf)
    | refine go_draw drawsOk ?_
    | (refine go_pickT rfl ?_; conv => whnf)
    | (refine go_pickF rfl ?_; conv => whnf)
    | (refine go_pick rfl (fun h => ?_) (fun h => ?_) <;> conv => whnf)
    | (refine go_dsplit2 rfl (fun h => ?_) (fun h => ?_) <;> conv => whnf)
    | (refine go_loadB ?_; conv => whnf)
    | (refine ⟨by kernel_rfl, ?_⟩; conv => whnf)
    | (refine go_ret ?_; conv => whnf)
    | refine go_block ?_
    | (refine go_skip ?_; conv => whnf)
    | (refine go_exit ?_; conv => whnf)
    | refine go_true rfl ?_
    | refine go_false rfl ?_
    | refine go_cond rfl (fun h => ?_) (fun h => ?_)
    | refine ⟨rfl, ?_⟩
    | (refine ⟨trivial, ?_⟩; conv => whnf)
    | (refine ⟨le_of_ble rfl, ?_⟩; conv => whnf)
    | fail
  · refine ret_imm rfl rfl rfl rfl ?_ rfl
    simp at h
    simp; omega
  simp at h
  refine go_loop (α := Nat) (fun i => i ≤ xs.length ∧ ((xs.zip ys).take i).all (fun x => x.1.beq x.2) = true) (fun i => xs.length - i) (fun i => st Tryd.f29.ntmps [(0, .imm (.list (xs.map LogRecord.enc))), (1, .imm (.list (ys.map LogRecord.enc))), (5, .imm (.int .i64 (i : Nat)))] [] []) 0
    ⟨Nat.zero_le _, rfl⟩ (ref_st0 rfl ⟨rfl, rfl, rfl, trivial⟩ rfl) ?_
  rintro i ⟨hi, ha⟩
  cases hx : xs[i]? with
  | none =>
    have hge := le_of_at hx
    repeat' first
      | refine go_seq ?_
      | refine go_region ?_
      | (refine go_op rfl ?_; conv => whnf)
      | (refine go_nil ?_; conv => whnf)
      | (refine go_hit rfl rfl rfl ?_; conv => whnf)
      | (refine go_miss rfl rfl rfl ?_)
      | (refine go_undef rfl rfl rfl ?_)
      | (refine go_splitT rfl rfl rfl (fun h => ?_) (fun h => ?_) <;> conv => whnf)
      | (refine go_splitF rfl rfl rfl (fun h => ?_) (fun h => ?_) <;> conv => whnf)
      | (refine go_storeBox rfl rfl rfl rfl rfl rfl ?_; conv => whnf)
      | (refine go_dop rfl ?_; conv => whnf)
      | (refine go_dhit rfl rfl ?_; conv => whnf)
      | (refine go_dmiss rfl rfl ?_; conv => whnf)
      | (refine go_dundef rfl rfl ?_; conv => whnf)
      | (refine go_dend (by kernel_rfl) ?_; conv => whnf)
      | refine go_draw drawsOk ?_
      | (refine go_pickT rfl ?_; conv => whnf)
      | (refine go_pickF rfl ?_; conv => whnf)
      | (refine go_pick rfl (fun h => ?_) (fun h => ?_) <;> conv => whnf)
      | (refine go_dsplit2 rfl (fun h => ?_) (fun h => ?_) <;> conv => whnf)
      | (refine go_loadB ?_; conv => whnf)
      | (refine ⟨by kernel_rfl, ?_⟩; conv => whnf)
      | (refine go_ret ?_; conv => whnf)
      | refine go_block ?_
      | (refine go_skip ?_; conv => whnf)
      | (refine go_exit ?_; conv => whnf)
      | refine go_true rfl ?_
      | refine go_false rfl ?_
      | refine go_cond rfl (fun h => ?_) (fun h => ?_)
      | refine ⟨rfl, ?_⟩
      | (refine ⟨trivial, ?_⟩; conv => whnf)
      | (refine ⟨le_of_ble rfl, ?_⟩; conv => whnf)
      | fail
    · exfalso; simp at *; omega
    · refine ret_imm rfl rfl rfl rfl ?_ rfl
      rw [all_end (by simp; omega) ha]
      simp; omega
  | some v =>
    have hlt := lt_of_at hx
    have hr := row_at LogRecord.enc hx
    obtain ⟨w, hw⟩ : ∃ w, ys[i]? = some w := ⟨_, List.getElem?_eq_getElem (by omega)⟩
    have hr2 := row_at LogRecord.enc hw
    have hz : (xs.zip ys)[i]? = some (v, w) := by rw [List.getElem?_zip_eq_some]; exact ⟨hx, hw⟩
    have hno := fun h => all_not (p := fun x : LogRecord × LogRecord => x.1.beq x.2) hz h
    repeat' first
      | refine go_seq ?_
      | refine go_region ?_
      | (refine go_op rfl ?_; conv => whnf)
      | (refine go_nil ?_; conv => whnf)
      | (refine go_hit rfl rfl rfl ?_; conv => whnf)
      | (refine go_miss rfl rfl rfl ?_)
      | (refine go_undef rfl rfl rfl ?_)
      | (refine go_splitT rfl rfl rfl (fun h => ?_) (fun h => ?_) <;> conv => whnf)
      | (refine go_splitF rfl rfl rfl (fun h => ?_) (fun h => ?_) <;> conv => whnf)
      | (refine go_storeBox rfl rfl rfl rfl rfl rfl ?_; conv => whnf)
      | (refine go_dop rfl ?_; conv => whnf)
      | (refine go_dhit rfl rfl ?_; conv => whnf)
      | (refine go_dmiss rfl rfl ?_; conv => whnf)
      | (refine go_dundef rfl rfl ?_; conv => whnf)
      | (refine go_dend (by kernel_rfl) ?_; conv => whnf)
      | refine go_draw drawsOk ?_
      | (refine go_pickT rfl ?_; conv => whnf)
      | (refine go_pickF rfl ?_; conv => whnf)
      | (refine go_pick rfl (fun h => ?_) (fun h => ?_) <;> conv => whnf)
      | (refine go_call [] (c41 v w) rfl rfl rfl rfl ?_; conv => whnf)
      | (refine go_idx rfl rfl rfl rfl (by omega) (by assumption) rfl ?_; conv => whnf)
      | (refine go_dsplit2 rfl (fun h => ?_) (fun h => ?_) <;> conv => whnf)
      | (refine go_loadB ?_; conv => whnf)
      | (refine ⟨by kernel_rfl, ?_⟩; conv => whnf)
      | (refine go_ret ?_; conv => whnf)
      | refine go_block ?_
      | (refine go_skip ?_; conv => whnf)
      | (refine go_exit ?_; conv => whnf)
      | refine go_true rfl ?_
      | refine go_false rfl ?_
      | refine go_cond rfl (fun h => ?_) (fun h => ?_)
      | refine ⟨rfl, ?_⟩
      | (refine ⟨trivial, ?_⟩; conv => whnf)
      | (refine ⟨le_of_ble rfl, ?_⟩; conv => whnf)
      | fail
    all_goals first
      | (exfalso; simp at h; omega)
      | (exact go_next (i + 1) ⟨by omega, all_next hz ha (by simpa using h)⟩ (by omega) (ref_st0 rfl ⟨rfl, rfl, next_i (by omega), trivial⟩ rfl))
      | (refine ret_imm rfl rfl rfl rfl ?_ rfl
         rw [hno (by simpa using h)]; simp)

theorem c29s (xs : List LogRecord) (hl : xs.length ≤ 1048576) : CallOk Tryd.prog 29 [.imm (.list (xs.map LogRecord.enc)), .imm (.list (xs.map LogRecord.enc))] { res := [.imm (.bool true)] } := by
  have := c29 xs xs hl
  rw [zip_self logRecord_self] at this
  simpa using this

def markLogRecord (k : Int) (j : Nat) : LogRecord := ⟨mText (kAt k (2 * j)), mText (kAt k (2 * j + 1))⟩
def marksLogRecord (k : Int) (n : Nat) : List LogRecord := (List.range n).map (markLogRecord k)
theorem marksLogRecord_len (k : Int) (n : Nat) : ((marksLogRecord k n).map LogRecord.enc).length = n := by simp [marksLogRecord]
theorem marksLogRecord_at (k : Int) {n i : Nat} (h : i < n) : ((marksLogRecord k n).map LogRecord.enc)[i]? = some (markLogRecord k i).enc := by simp [marksLogRecord, h]

theorem c30 (xs : List LogRecord) (k : Int) (hk0 : 0 ≤ k) (hk1 : k ≤ 1073741824) (hl : xs.length ≤ 1048576) : CallOk Tryd.prog 30 [.arr 27 2 (xs.map LogRecord.enc), .imm (.int .i64 k)]
    { res := [.imm (.int .i64 (kAt k (2 * xs.length)))], muts := [.arr 27 2 ((marksLogRecord k xs.length).map LogRecord.enc)] } := by
  refine callOk_of tyOk Tryd.func30 rfl rfl (le_of_ble rfl) (le_of_ble rfl) (mutOk_arr0 rfl (by simp [marksLogRecord])) ?_
  have hyl : ((marksLogRecord k xs.length).map LogRecord.enc).length = (xs.map LogRecord.enc).length := by simp [marksLogRecord]
  repeat' first
    | refine go_seq ?_
    | refine go_region ?_
    | (refine go_op rfl ?_; conv => whnf)
    | (refine go_nil ?_; conv => whnf)
    | (refine go_hit rfl rfl rfl ?_; conv => whnf)
    | (refine go_miss rfl rfl rfl ?_)
    | (refine go_undef rfl rfl rfl ?_)
    | (refine go_splitT rfl rfl rfl (fun h => ?_) (fun h => ?_) <;> conv => whnf)
    | (refine go_splitF rfl rfl rfl (fun h => ?_) (fun h => ?_) <;> conv => whnf)
    | (refine go_storeBox rfl rfl rfl rfl rfl rfl ?_; conv => whnf)
    | (refine go_dop rfl ?_; conv => whnf)
    | (refine go_dhit rfl rfl ?_; conv => whnf)
    | (refine go_dmiss rfl rfl ?_; conv => whnf)
    | (refine go_dundef rfl rfl ?_; conv => whnf)
    | (refine go_dend (by kernel_rfl) ?_; conv => whnf)
    | refine go_draw drawsOk ?_
    | (refine go_pickT rfl ?_; conv => whnf)
    | (refine go_pickF rfl ?_; conv => whnf)
    | (refine go_pick rfl (fun h => ?_) (fun h => ?_) <;> conv => whnf)
    | (refine go_dsplit2 rfl (fun h => ?_) (fun h => ?_) <;> conv => whnf)
    | (refine go_loadB ?_; conv => whnf)
    | (refine ⟨by kernel_rfl, ?_⟩; conv => whnf)
    | (refine go_ret ?_; conv => whnf)
    | refine go_block ?_
    | (refine go_skip ?_; conv => whnf)
    | (refine go_exit ?_; conv => whnf)
    | refine go_true rfl ?_
    | refine go_false rfl ?_
    | refine go_cond rfl (fun h => ?_) (fun h => ?_)
    | refine ⟨rfl, ?_⟩
    | (refine ⟨trivial, ?_⟩; conv => whnf)
    | (refine ⟨le_of_ble rfl, ?_⟩; conv => whnf)
    | fail
  refine go_loop (α := Nat) (fun i => i ≤ xs.length) (fun i => xs.length - i)
    (fun i => st Tryd.f30.ntmps [(0, .own 1000 0 (xs.map LogRecord.enc).length), (1, .imm (.int .i64 (kAt k (2 * i)))), (5, .imm (.int .i64 (i : Nat)))]
      [(1000, .arr 27 2 (upto ((marksLogRecord k xs.length).map LogRecord.enc) (xs.map LogRecord.enc) i))] [1000]) 0 (Nat.zero_le _) ?_ ?_
  · refine ref_st (fun _ => 0) rfl ⟨⟨rfl, rfl⟩, rfl, rfl, trivial⟩ ⟨?_, trivial⟩ (by simp) rfl (by simp [lookM])
    rw [upto_0]; rfl
  · intro i hi
    cases hx : xs[i]? with
    | none =>
      have hge := le_of_at hx
      have hie : i = xs.length := by omega
      rw [upto_end hyl (by simp; omega), hie]
      repeat' first
        | refine go_seq ?_
        | refine go_region ?_
        | (refine go_op rfl ?_; conv => whnf)
        | (refine go_nil ?_; conv => whnf)
        | (refine go_hit rfl rfl rfl ?_; conv => whnf)
        | (refine go_miss rfl rfl rfl ?_)
        | (refine go_undef rfl rfl rfl ?_)
        | (refine go_splitT rfl rfl rfl (fun h => ?_) (fun h => ?_) <;> conv => whnf)
        | (refine go_splitF rfl rfl rfl (fun h => ?_) (fun h => ?_) <;> conv => whnf)
        | (refine go_storeBox rfl rfl rfl rfl rfl rfl ?_; conv => whnf)
        | (refine go_dop rfl ?_; conv => whnf)
        | (refine go_dhit rfl rfl ?_; conv => whnf)
        | (refine go_dmiss rfl rfl ?_; conv => whnf)
        | (refine go_dundef rfl rfl ?_; conv => whnf)
        | (refine go_dend (by kernel_rfl) ?_; conv => whnf)
        | refine go_draw drawsOk ?_
        | (refine go_pickT rfl ?_; conv => whnf)
        | (refine go_pickF rfl ?_; conv => whnf)
        | (refine go_pick rfl (fun h => ?_) (fun h => ?_) <;> conv => whnf)
        | (refine go_dsplit2 rfl (fun h => ?_) (fun h => ?_) <;> conv => whnf)
        | (refine go_loadB ?_; conv => whnf)
        | (refine ⟨by kernel_rfl, ?_⟩; conv => whnf)
        | (refine go_ret ?_; conv => whnf)
        | refine go_block ?_
        | (refine go_skip ?_; conv => whnf)
        | (refine go_exit ?_; conv => whnf)
        | refine go_true rfl ?_
        | refine go_false rfl ?_
        | refine go_cond rfl (fun h => ?_) (fun h => ?_)
        | refine ⟨rfl, ?_⟩
        | (refine ⟨trivial, ?_⟩; conv => whnf)
        | (refine ⟨le_of_ble rfl, ?_⟩; conv => whnf)
        | fail
      · exfalso; simp at *
      · exact ret_mut0 rfl rfl rfl rfl rfl rfl rfl (logRecord_gr _)
    | some v =>
      have hlt := lt_of_at hx
      have hrow : (xs.map LogRecord.enc)[i]? = some v.enc := by simp [hx]
      have hat := upto_at hyl hrow
      have hset := upto_set (y := (markLogRecord k i).enc) hyl hrow (marksLogRecord_at k hlt)
      have hil : i < (upto ((marksLogRecord k xs.length).map LogRecord.enc) (xs.map LogRecord.enc) i).length := by rw [upto_len hyl]; simpa using hlt
      have ht0 : CallOk Tryd.prog 42 [.imm (.int .i64 (kAt k (2 * i + 0)))] { res := [.imm (.str (mText (kAt k (2 * i + 0))))] } := c42 _ (by rw [kAt_eq hk0 _ (by omega)]; omega)
      have ht1 : CallOk Tryd.prog 42 [.imm (.int .i64 (kAt k (2 * i + 1)))] { res := [.imm (.str (mText (kAt k (2 * i + 1))))] } := c42 _ (by rw [kAt_eq hk0 _ (by omega)]; omega)
      repeat' first
        | refine go_seq ?_
        | refine go_region ?_
        | (refine go_op rfl ?_; conv => whnf)
        | (refine go_nil ?_; conv => whnf)
        | (refine go_hit rfl rfl rfl ?_; conv => whnf)
        | (refine go_miss rfl rfl rfl ?_)
        | (refine go_undef rfl rfl rfl ?_)
        | (refine go_splitT rfl rfl rfl (fun h => ?_) (fun h => ?_) <;> conv => whnf)
        | (refine go_splitF rfl rfl rfl (fun h => ?_) (fun h => ?_) <;> conv => whnf)
        | (refine go_storeBox rfl rfl rfl rfl rfl rfl ?_; conv => whnf)
        | (refine go_dop rfl ?_; conv => whnf)
        | (refine go_dhit rfl rfl ?_; conv => whnf)
        | (refine go_dmiss rfl rfl ?_; conv => whnf)
        | (refine go_dundef rfl rfl ?_; conv => whnf)
        | (refine go_dend (by kernel_rfl) ?_; conv => whnf)
        | refine go_draw drawsOk ?_
        | (refine go_pickT rfl ?_; conv => whnf)
        | (refine go_pickF rfl ?_; conv => whnf)
        | (refine go_pick rfl (fun h => ?_) (fun h => ?_) <;> conv => whnf)
        | (refine go_call [] (ht0) rfl rfl rfl rfl ?_; conv => whnf)
        | (refine go_call [] (ht1) rfl rfl rfl rfl ?_; conv => whnf)
        | (refine go_idxOwn rfl rfl rfl rfl rfl rfl (by simp; omega) ?_; conv => whnf)
        | (refine go_storeEl rfl rfl rfl rfl hat rfl rfl rfl ?_; conv => whnf)
        | (refine go_storeEl rfl rfl rfl rfl (set_at hil) rfl rfl (List.set_set _) ?_; conv => whnf)
        | (refine go_dsplit2 rfl (fun h => ?_) (fun h => ?_) <;> conv => whnf)
        | (refine go_loadB ?_; conv => whnf)
        | (refine ⟨by kernel_rfl, ?_⟩; conv => whnf)
        | (refine go_ret ?_; conv => whnf)
        | refine go_block ?_
        | (refine go_skip ?_; conv => whnf)
        | (refine go_exit ?_; conv => whnf)
        | refine go_true rfl ?_
        | refine go_false rfl ?_
        | refine go_cond rfl (fun h => ?_) (fun h => ?_)
        | refine ⟨rfl, ?_⟩
        | (refine ⟨trivial, ?_⟩; conv => whnf)
        | (refine ⟨le_of_ble rfl, ?_⟩; conv => whnf)
        | fail
      · refine go_next (i + 1) (by omega) (by omega) (ref_st id rfl ⟨⟨rfl, rfl⟩, rfl, next_i (by omega), trivial⟩ ⟨?_, trivial⟩ (by simp) rfl (by simp [lookM]))
        rw [← hset]; rfl
      · exfalso; simp at *; omega

theorem c31 (k : Int) (n : Nat) (hk0 : 0 ≤ k) (hk1 : k ≤ 1073741824) (hl : n ≤ 1048576) : CallOk Tryd.prog 31 [.imm (.list ((marksLogRecord k n).map LogRecord.enc)), .imm (.int .i64 k)] { res := [.imm (.int .i64 (kAt k (2 * n)))] } := by
  refine callOk_of tyOk Tryd.func31 rfl rfl (le_of_ble rfl) (le_of_ble rfl) (mutOk_imm rfl _) ?_
  repeat' first
    | refine go_seq ?_
    | refine go_region ?_
    | (refine go_op rfl ?_; conv => whnf)
    | (refine go_nil ?_; conv => whnf)
    | (refine go_hit rfl rfl rfl ?_; conv => whnf)
    | (refine go_miss rfl rfl rfl ?_)
    | (refine go_undef rfl rfl rfl ?_)
    | (refine go_splitT rfl rfl rfl (fun h => ?_) (fun h => ?_) <;> conv => whnf)
    | (refine go_splitF rfl rfl rfl (fun h => ?_) (fun h => ?_) <;> conv => whnf)
    | (refine go_storeBox rfl rfl rfl rfl rfl rfl ?_; conv => whnf)
    | (refine go_dop rfl ?_; conv => whnf)
    | (refine go_dhit rfl rfl ?_; conv => whnf)
    | (refine go_dmiss rfl rfl ?_; conv => whnf)
    | (refine go_dundef rfl rfl ?_; conv => whnf)
    | (refine go_dend (by kernel_rfl) ?_; conv => whnf)
    | refine go_draw drawsOk ?_
    | (refine go_pickT rfl ?_; conv => whnf)
    | (refine go_pickF rfl ?_; conv => whnf)
    | (refine go_pick rfl (fun h => ?_) (fun h => ?_) <;> conv => whnf)
    | (refine go_dsplit2 rfl (fun h => ?_) (fun h => ?_) <;> conv => whnf)
    | (refine go_loadB ?_; conv => whnf)
    | (refine ⟨by kernel_rfl, ?_⟩; conv => whnf)
    | (refine go_ret ?_; conv => whnf)
    | refine go_block ?_
    | (refine go_skip ?_; conv => whnf)
    | (refine go_exit ?_; conv => whnf)
    | refine go_true rfl ?_
    | refine go_false rfl ?_
    | refine go_cond rfl (fun h => ?_) (fun h => ?_)
    | refine ⟨rfl, ?_⟩
    | (refine ⟨trivial, ?_⟩; conv => whnf)
    | (refine ⟨le_of_ble rfl, ?_⟩; conv => whnf)
    | fail
  refine go_loop (α := Nat) (fun i => i ≤ n) (fun i => n - i)
    (fun i => st Tryd.f31.ntmps [(0, .imm (.list ((marksLogRecord k n).map LogRecord.enc))), (1, .imm (.int .i64 (kAt k (2 * i)))), (5, .imm (.int .i64 (i : Nat)))] [] []) 0 (Nat.zero_le _) (ref_st0 rfl ⟨rfl, rfl, rfl, trivial⟩ rfl) ?_
  intro i hi
  by_cases hlt : i < n
  · have hr : ((marksLogRecord k n).map LogRecord.enc)[((i : Nat) : Int).toNat]? = some (markLogRecord k i).enc := marksLogRecord_at k hlt
    have ht0 : CallOk Tryd.prog 42 [.imm (.int .i64 (kAt k (2 * i + 0)))] { res := [.imm (.str (mText (kAt k (2 * i + 0))))] } := c42 _ (by rw [kAt_eq hk0 _ (by omega)]; omega)
    have ht1 : CallOk Tryd.prog 42 [.imm (.int .i64 (kAt k (2 * i + 1)))] { res := [.imm (.str (mText (kAt k (2 * i + 1))))] } := c42 _ (by rw [kAt_eq hk0 _ (by omega)]; omega)
    repeat' first
      | refine go_seq ?_
      | refine go_region ?_
      | (refine go_op rfl ?_; conv => whnf)
      | (refine go_nil ?_; conv => whnf)
      | (refine go_hit rfl rfl rfl ?_; conv => whnf)
      | (refine go_miss rfl rfl rfl ?_)
      | (refine go_undef rfl rfl rfl ?_)
      | (refine go_splitT rfl rfl rfl (fun h => ?_) (fun h => ?_) <;> conv => whnf)
      | (refine go_splitF rfl rfl rfl (fun h => ?_) (fun h => ?_) <;> conv => whnf)
      | (refine go_storeBox rfl rfl rfl rfl rfl rfl ?_; conv => whnf)
      | (refine go_dop rfl ?_; conv => whnf)
      | (refine go_dhit rfl rfl ?_; conv => whnf)
      | (refine go_dmiss rfl rfl ?_; conv => whnf)
      | (refine go_dundef rfl rfl ?_; conv => whnf)
      | (refine go_dend (by kernel_rfl) ?_; conv => whnf)
      | refine go_draw drawsOk ?_
      | (refine go_pickT rfl ?_; conv => whnf)
      | (refine go_pickF rfl ?_; conv => whnf)
      | (refine go_pick rfl (fun h => ?_) (fun h => ?_) <;> conv => whnf)
      | (refine go_call [] (ht0) rfl rfl rfl rfl ?_; conv => whnf)
      | (refine go_call [] (ht1) rfl rfl rfl rfl ?_; conv => whnf)
      | (refine go_idx rfl rfl rfl rfl (by omega) (by assumption) rfl ?_; conv => whnf)
      | (refine go_dsplit2 rfl (fun h => ?_) (fun h => ?_) <;> conv => whnf)
      | (refine go_loadB ?_; conv => whnf)
      | (refine ⟨by kernel_rfl, ?_⟩; conv => whnf)
      | (refine go_ret ?_; conv => whnf)
      | refine go_block ?_
      | (refine go_skip ?_; conv => whnf)
      | (refine go_exit ?_; conv => whnf)
      | refine go_true rfl ?_
      | refine go_false rfl ?_
      | refine go_cond rfl (fun h => ?_) (fun h => ?_)
      | refine ⟨rfl, ?_⟩
      | (refine ⟨trivial, ?_⟩; conv => whnf)
      | (refine ⟨le_of_ble rfl, ?_⟩; conv => whnf)
      | fail
    all_goals first
      | (exfalso; simp [markLogRecord, kAt, nx, str_self] at h; done)
      | (refine go_next (i + 1) (by omega) (by omega) (ref_st0 rfl ⟨rfl, rfl, next_i (by omega), trivial⟩ rfl); done)
      | (exfalso; rw [marksLogRecord_len] at h; simp at h; omega)
  · have hie : i = n := by omega
    subst hie
    repeat' first
      | refine go_seq ?_
      | refine go_region ?_
      | (refine go_op rfl ?_; conv => whnf)
      | (refine go_nil ?_; conv => whnf)
      | (refine go_hit rfl rfl rfl ?_; conv => whnf)
      | (refine go_miss rfl rfl rfl ?_)
      | (refine go_undef rfl rfl rfl ?_)
      | (refine go_splitT rfl rfl rfl (fun h => ?_) (fun h => ?_) <;> conv => whnf)
      | (refine go_splitF rfl rfl rfl (fun h => ?_) (fun h => ?_) <;> conv => whnf)
      | (refine go_storeBox rfl rfl rfl rfl rfl rfl ?_; conv => whnf)
      | (refine go_dop rfl ?_; conv => whnf)
      | (refine go_dhit rfl rfl ?_; conv => whnf)
      | (refine go_dmiss rfl rfl ?_; conv => whnf)
      | (refine go_dundef rfl rfl ?_; conv => whnf)
      | (refine go_dend (by kernel_rfl) ?_; conv => whnf)
      | refine go_draw drawsOk ?_
      | (refine go_pickT rfl ?_; conv => whnf)
      | (refine go_pickF rfl ?_; conv => whnf)
      | (refine go_pick rfl (fun h => ?_) (fun h => ?_) <;> conv => whnf)
      | (refine go_dsplit2 rfl (fun h => ?_) (fun h => ?_) <;> conv => whnf)
      | (refine go_loadB ?_; conv => whnf)
      | (refine ⟨by kernel_rfl, ?_⟩; conv => whnf)
      | (refine go_ret ?_; conv => whnf)
      | refine go_block ?_
      | (refine go_skip ?_; conv => whnf)
      | (refine go_exit ?_; conv => whnf)
      | refine go_true rfl ?_
      | refine go_false rfl ?_
      | refine go_cond rfl (fun h => ?_) (fun h => ?_)
      | refine ⟨rfl, ?_⟩
      | (refine ⟨trivial, ?_⟩; conv => whnf)
      | (refine ⟨le_of_ble rfl, ?_⟩; conv => whnf)
      | fail
    · exfalso; rw [marksLogRecord_len] at h; simp at h
    · exact ret_imm rfl rfl rfl rfl rfl rfl


end Go.Proofs.YtjebblagiiajaaaDoor

