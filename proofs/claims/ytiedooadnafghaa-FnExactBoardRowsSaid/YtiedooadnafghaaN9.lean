/- Messages and rows of boards: the laws' helpers. MADE BY PROGRAM (helpers.py). -/
import Derived.Test.YtiedooadnafghaaN8
namespace Go.Proofs.Ytiedooadnafghaa
open Go Go.Am
set_option maxRecDepth 100000
set_option maxHeartbeats 4000000
attribute [local irreducible] amOps amC opCall opIndexAddr opPick retQ opMake opStore amDraw opAppend opLoad opNilCmp opIndex opSlice

structure Message where
  kind : Int
  line : ByteArray
  stop : ByteArray
  fro : Int
  to : Int
  mins : Int

def Message.enc (v : Message) : List D := [.int .i64 v.kind, .str v.line, .str v.stop, .int .i64 v.fro, .int .i64 v.to, .int .i64 v.mins]
def Message.ok (v : Message) : Prop := i64 v.kind ∧ v.line.size ≤ maxLen ∧ v.stop.size ≤ maxLen ∧ i64 v.fro ∧ i64 v.to ∧ i64 v.mins

theorem message_gr (xs : List Message) : ∀ x ∈ xs.map Message.enc, x.all D.gr = true := by
  intro x hx
  obtain ⟨v, _, rfl⟩ := List.mem_map.1 hx
  rfl
theorem message_one (xs : List Message) : (xs.map Message.enc).all (fun r => r.all D.one) = true := by
  simp only [List.all_map, List.all_eq_true]
  intro _ _
  rfl
theorem message_one' (xs : List Message) : ∀ r ∈ xs.map Message.enc, r.length = 6 ∧ r.all D.one = true := by
  intro r hr
  obtain ⟨v, _, rfl⟩ := List.mem_map.1 hr
  exact ⟨rfl, rfl⟩
theorem message_view (xs : List Message) : ((xs.map Message.enc).drop 0).take (xs.map Message.enc).length = xs.map Message.enc := by rw [List.drop_zero, List.take_length]

def Message.beq (v w : Message) : Bool := decide (v.kind = w.kind) && (v.line == w.line) && (v.stop == w.stop) && decide (v.fro = w.fro) && decide (v.to = w.to) && decide (v.mins = w.mins)

theorem message_self (v : Message) : v.beq v = true := by simp [Message.beq, str_self]

theorem c92 (v w : Message) : CallOk Try.prog 92 [.imm (.agg v.enc), .imm (.agg w.enc)] { res := [.imm (.bool (v.beq w))] } := by
  refine callOk_of tyOk Try.func92 rfl rfl (le_of_ble rfl) (le_of_ble rfl) (mutOk_imm rfl _) ?_
  repeat' first | refine go_seq ?_ | refine go_region ?_ | ((first | refine go_op rfl ?_ | refine go_nil ?_) <;> conv => whnf) | ((first | refine go_loadB ?_ | refine ⟨by kernel_rfl, ?_⟩ | refine go_ret ?_) <;> conv => whnf) | ((first | refine go_skip ?_) <;> conv => whnf) | refine go_true rfl ?_ | refine go_false rfl ?_ | refine go_cond rfl (fun h => ?_) (fun h => ?_) | refine ⟨rfl, ?_⟩ | ((first | refine ⟨trivial, ?_⟩ | refine ⟨le_of_ble rfl, ?_⟩) <;> conv => whnf) | fail
  all_goals refine ret_imm rfl rfl rfl rfl ?_ rfl
  all_goals simp_all [Message.beq]

theorem c41 (xs ys : List Message) (hl : xs.length ≤ 1048576) : CallOk Try.prog 41 [.imm (.list (xs.map Message.enc)), .imm (.list (ys.map Message.enc))] { res := [.imm (.bool (decide (xs.length = ys.length) && (xs.zip ys).all fun x => x.1.beq x.2))] } := by
  refine callOk_of tyOk Try.func41 rfl rfl (le_of_ble rfl) (le_of_ble rfl) (mutOk_imm rfl _) ?_
  repeat' first | refine go_seq ?_ | refine go_region ?_ | refine go_draw drawsOk ?_ | ((first | refine go_op rfl ?_ | refine go_nil ?_ | refine go_dop rfl ?_ | refine go_dend (by kernel_rfl) ?_) <;> conv => whnf) | ((first | refine go_loadB ?_ | refine ⟨by kernel_rfl, ?_⟩ | refine go_ret ?_) <;> conv => whnf) | refine go_block ?_ | ((first | refine go_skip ?_ | refine go_exit ?_) <;> conv => whnf) | refine go_true rfl ?_ | refine go_false rfl ?_ | refine go_cond rfl (fun h => ?_) (fun h => ?_) | refine ⟨rfl, ?_⟩ | ((first | refine ⟨trivial, ?_⟩ | refine ⟨le_of_ble rfl, ?_⟩) <;> conv => whnf) | fail
  · refine ret_imm rfl rfl rfl rfl ?_ rfl
    simp at h
    simp; omega
  simp at h
  refine go_loop (α := Nat) (fun i => i ≤ xs.length ∧ ((xs.zip ys).take i).all (fun x => x.1.beq x.2) = true) (fun i => xs.length - i) (fun i => st Try.f41.ntmps [(0, .imm (.list (xs.map Message.enc))), (1, .imm (.list (ys.map Message.enc))), (5, .imm (.int .i64 (i : Nat)))] [] []) 0
    ⟨Nat.zero_le _, rfl⟩ (ref_st0 rfl ⟨rfl, rfl, rfl, trivial⟩ rfl) ?_
  rintro i ⟨hi, ha⟩
  cases hx : xs[i]? with
  | none =>
    have hge := le_of_at hx
    repeat' first | refine go_seq ?_ | refine go_region ?_ | refine go_draw drawsOk ?_ | ((first | refine go_op rfl ?_ | refine go_nil ?_ | refine go_dop rfl ?_ | refine go_dend (by kernel_rfl) ?_) <;> conv => whnf) | ((first | refine go_loadB ?_ | refine ⟨by kernel_rfl, ?_⟩ | refine go_ret ?_) <;> conv => whnf) | refine go_block ?_ | ((first | refine go_skip ?_ | refine go_exit ?_) <;> conv => whnf) | refine go_true rfl ?_ | refine go_false rfl ?_ | refine go_cond rfl (fun h => ?_) (fun h => ?_) | refine ⟨rfl, ?_⟩ | ((first | refine ⟨trivial, ?_⟩ | refine ⟨le_of_ble rfl, ?_⟩) <;> conv => whnf) | fail
    · exfalso; simp at *; omega
    · refine ret_imm rfl rfl rfl rfl ?_ rfl
      rw [all_end (by simp; omega) ha]
      simp; omega
  | some v =>
    have hlt := lt_of_at hx
    have hr := row_at Message.enc hx
    obtain ⟨w, hw⟩ : ∃ w, ys[i]? = some w := ⟨_, List.getElem?_eq_getElem (by omega)⟩
    have hr2 := row_at Message.enc hw
    have hz : (xs.zip ys)[i]? = some (v, w) := by rw [List.getElem?_zip_eq_some]; exact ⟨hx, hw⟩
    have hno := fun h => all_not (p := fun x : Message × Message => x.1.beq x.2) hz h
    repeat' first | refine go_seq ?_ | refine go_region ?_ | refine go_draw drawsOk ?_ | ((first | refine go_op rfl ?_ | refine go_nil ?_ | refine go_dop rfl ?_ | refine go_dend (by kernel_rfl) ?_ | refine go_call [] (c92 v w) rfl rfl rfl rfl ?_ | refine go_idx rfl rfl rfl rfl (by omega) (by assumption) rfl ?_) <;> conv => whnf) | ((first | refine go_loadB ?_ | refine ⟨by kernel_rfl, ?_⟩ | refine go_ret ?_) <;> conv => whnf) | refine go_block ?_ | ((first | refine go_skip ?_ | refine go_exit ?_) <;> conv => whnf) | refine go_true rfl ?_ | refine go_false rfl ?_ | refine go_cond rfl (fun h => ?_) (fun h => ?_) | refine ⟨rfl, ?_⟩ | ((first | refine ⟨trivial, ?_⟩ | refine ⟨le_of_ble rfl, ?_⟩) <;> conv => whnf) | fail
    all_goals first
      | (exfalso; simp at h; omega)
      | (exact go_next (i + 1) ⟨by omega, all_next hz ha (by simpa using h)⟩ (by omega) (ref_st0 rfl ⟨rfl, rfl, next_i (by omega), trivial⟩ rfl))
      | (refine ret_imm rfl rfl rfl rfl ?_ rfl
         rw [hno (by simpa using h)]; simp)

theorem c41s (xs : List Message) (hl : xs.length ≤ 1048576) : CallOk Try.prog 41 [.imm (.list (xs.map Message.enc)), .imm (.list (xs.map Message.enc))] { res := [.imm (.bool true)] } := by
  have := c41 xs xs hl
  rw [zip_self message_self] at this
  simpa using this

def markMessage (k : Int) (j : Nat) : Message := ⟨kAt k (6 * j), mText (kAt k (6 * j + 1)), mText (kAt k (6 * j + 2)), kAt k (6 * j + 3), kAt k (6 * j + 4), kAt k (6 * j + 5)⟩
def marksMessage (k : Int) (n : Nat) : List Message := (List.range n).map (markMessage k)
theorem marksMessage_len (k : Int) (n : Nat) : ((marksMessage k n).map Message.enc).length = n := by simp [marksMessage]
theorem marksMessage_at (k : Int) {n i : Nat} (h : i < n) : ((marksMessage k n).map Message.enc)[i]? = some (markMessage k i).enc := by simp [marksMessage, h]

theorem c42 (xs : List Message) (k : Int) (hk0 : 0 ≤ k) (hk1 : k ≤ 576460752303423488) (hl : xs.length ≤ 1048576) : CallOk Try.prog 42 [.arr 129 6 (xs.map Message.enc), .imm (.int .i64 k)]
    { res := [.imm (.int .i64 (kAt k (6 * xs.length)))], muts := [.arr 129 6 ((marksMessage k xs.length).map Message.enc)] } := by
  refine callOk_of tyOk Try.func42 rfl rfl (le_of_ble rfl) (le_of_ble rfl) (mutOk_arr0 rfl (by simp [marksMessage])) ?_
  have hyl : ((marksMessage k xs.length).map Message.enc).length = (xs.map Message.enc).length := by simp [marksMessage]
  repeat' first | refine go_seq ?_ | refine go_region ?_ | ((first | refine go_op rfl ?_ | refine go_nil ?_ | refine go_storeBox rfl rfl rfl rfl rfl rfl ?_) <;> conv => whnf) | ((first | refine ⟨by kernel_rfl, ?_⟩ | refine go_ret ?_) <;> conv => whnf) | refine go_block ?_ | ((first | refine go_skip ?_ | refine go_exit ?_) <;> conv => whnf) | refine go_true rfl ?_ | refine go_false rfl ?_ | refine go_cond rfl (fun h => ?_) (fun h => ?_) | refine ⟨rfl, ?_⟩ | ((first | refine ⟨trivial, ?_⟩ | refine ⟨le_of_ble rfl, ?_⟩) <;> conv => whnf) | fail
  refine go_loop (α := Nat) (fun i => i ≤ xs.length) (fun i => xs.length - i)
    (fun i => st Try.f42.ntmps [(0, .own 1000 0 (xs.map Message.enc).length), (1, .imm (.int .i64 (kAt k (6 * i)))), (5, .imm (.int .i64 (i : Nat)))]
      [(1000, .arr 129 6 (upto ((marksMessage k xs.length).map Message.enc) (xs.map Message.enc) i))] [1000]) 0 (Nat.zero_le _) ?_ ?_
  · refine ref_st (fun _ => 0) rfl ⟨⟨rfl, rfl⟩, rfl, rfl, trivial⟩ ⟨?_, trivial⟩ (by simp) rfl (by simp [lookM])
    rw [upto_0]; rfl
  · intro i hi
    cases hx : xs[i]? with
    | none =>
      have hge := le_of_at hx
      have hie : i = xs.length := by omega
      rw [upto_end hyl (by simp; omega), hie]
      repeat' first | refine go_seq ?_ | refine go_region ?_ | ((first | refine go_op rfl ?_ | refine go_nil ?_ | refine go_storeBox rfl rfl rfl rfl rfl rfl ?_) <;> conv => whnf) | ((first | refine ⟨by kernel_rfl, ?_⟩ | refine go_ret ?_) <;> conv => whnf) | refine go_block ?_ | ((first | refine go_skip ?_ | refine go_exit ?_) <;> conv => whnf) | refine go_true rfl ?_ | refine go_false rfl ?_ | refine go_cond rfl (fun h => ?_) (fun h => ?_) | refine ⟨rfl, ?_⟩ | ((first | refine ⟨trivial, ?_⟩ | refine ⟨le_of_ble rfl, ?_⟩) <;> conv => whnf) | fail
      · exfalso; simp at *
      · exact ret_mut0 rfl rfl rfl rfl rfl rfl rfl (message_gr _)
    | some v =>
      have hlt := lt_of_at hx
      have hrow : (xs.map Message.enc)[i]? = some v.enc := by simp [hx]
      have hat := upto_at hyl hrow
      have hset := upto_set (y := (markMessage k i).enc) hyl hrow (marksMessage_at k hlt)
      have hil : i < (upto ((marksMessage k xs.length).map Message.enc) (xs.map Message.enc) i).length := by rw [upto_len hyl]; simpa using hlt
      have ht1 : CallOk Try.prog 93 [.imm (.int .i64 (kAt k (6 * i + 1)))] { res := [.imm (.str (mText (kAt k (6 * i + 1))))] } := c93 _ (by rw [kAt_eq hk0 _ (by omega)]; omega)
      have ht2 : CallOk Try.prog 93 [.imm (.int .i64 (kAt k (6 * i + 2)))] { res := [.imm (.str (mText (kAt k (6 * i + 2))))] } := c93 _ (by rw [kAt_eq hk0 _ (by omega)]; omega)
      repeat' first | refine go_seq ?_ | refine go_region ?_ | ((first | refine go_op rfl ?_ | refine go_nil ?_ | refine go_storeBox rfl rfl rfl rfl rfl rfl ?_ | refine go_call [] (ht1) rfl rfl rfl rfl ?_ | refine go_call [] (ht2) rfl rfl rfl rfl ?_ | refine go_idxOwn rfl rfl rfl rfl rfl rfl (by simp; omega) ?_ | refine go_storeEl rfl rfl rfl rfl hat rfl rfl rfl ?_ | refine go_storeEl rfl rfl rfl rfl (set_at hil) rfl rfl (List.set_set _) ?_) <;> conv => whnf) | ((first | refine ⟨by kernel_rfl, ?_⟩ | refine go_ret ?_) <;> conv => whnf) | refine go_block ?_ | ((first | refine go_skip ?_ | refine go_exit ?_) <;> conv => whnf) | refine go_true rfl ?_ | refine go_false rfl ?_ | refine go_cond rfl (fun h => ?_) (fun h => ?_) | refine ⟨rfl, ?_⟩ | ((first | refine ⟨trivial, ?_⟩ | refine ⟨le_of_ble rfl, ?_⟩) <;> conv => whnf) | fail
      · refine go_next (i + 1) (by omega) (by omega) (ref_st id rfl ⟨⟨rfl, rfl⟩, rfl, next_i (by omega), trivial⟩ ⟨?_, trivial⟩ (by simp) rfl (by simp [lookM]))
        rw [← hset]; rfl
      · exfalso; simp at *; omega

theorem c43 (k : Int) (n : Nat) (hk0 : 0 ≤ k) (hk1 : k ≤ 576460752303423488) (hl : n ≤ 1048576) : CallOk Try.prog 43 [.imm (.list ((marksMessage k n).map Message.enc)), .imm (.int .i64 k)] { res := [.imm (.int .i64 (kAt k (6 * n)))] } := by
  refine callOk_of tyOk Try.func43 rfl rfl (le_of_ble rfl) (le_of_ble rfl) (mutOk_imm rfl _) ?_
  repeat' first | refine go_seq ?_ | refine go_region ?_ | refine go_draw drawsOk ?_ | ((first | refine go_op rfl ?_ | refine go_nil ?_ | refine go_dop rfl ?_ | refine go_dend (by kernel_rfl) ?_) <;> conv => whnf) | ((first | refine go_loadB ?_ | refine ⟨by kernel_rfl, ?_⟩ | refine go_ret ?_) <;> conv => whnf) | refine go_block ?_ | ((first | refine go_skip ?_ | refine go_exit ?_) <;> conv => whnf) | refine go_true rfl ?_ | refine go_false rfl ?_ | refine go_cond rfl (fun h => ?_) (fun h => ?_) | refine ⟨rfl, ?_⟩ | ((first | refine ⟨trivial, ?_⟩ | refine ⟨le_of_ble rfl, ?_⟩) <;> conv => whnf) | fail
  refine go_loop (α := Nat) (fun i => i ≤ n) (fun i => n - i)
    (fun i => st Try.f43.ntmps [(0, .imm (.list ((marksMessage k n).map Message.enc))), (1, .imm (.int .i64 (kAt k (6 * i)))), (5, .imm (.int .i64 (i : Nat)))] [] []) 0 (Nat.zero_le _) (ref_st0 rfl ⟨rfl, rfl, rfl, trivial⟩ rfl) ?_
  intro i hi
  by_cases hlt : i < n
  · have hr : ((marksMessage k n).map Message.enc)[((i : Nat) : Int).toNat]? = some (markMessage k i).enc := marksMessage_at k hlt
    have ht1 : CallOk Try.prog 93 [.imm (.int .i64 (kAt k (6 * i + 1)))] { res := [.imm (.str (mText (kAt k (6 * i + 1))))] } := c93 _ (by rw [kAt_eq hk0 _ (by omega)]; omega)
    have ht2 : CallOk Try.prog 93 [.imm (.int .i64 (kAt k (6 * i + 2)))] { res := [.imm (.str (mText (kAt k (6 * i + 2))))] } := c93 _ (by rw [kAt_eq hk0 _ (by omega)]; omega)
    repeat' first | refine go_seq ?_ | refine go_region ?_ | refine go_draw drawsOk ?_ | ((first | refine go_op rfl ?_ | refine go_nil ?_ | refine go_dop rfl ?_ | refine go_dend (by kernel_rfl) ?_ | refine go_call [] (ht1) rfl rfl rfl rfl ?_ | refine go_call [] (ht2) rfl rfl rfl rfl ?_ | refine go_idx rfl rfl rfl rfl (by omega) (by assumption) rfl ?_) <;> conv => whnf) | ((first | refine go_loadB ?_ | refine ⟨by kernel_rfl, ?_⟩ | refine go_ret ?_) <;> conv => whnf) | refine go_block ?_ | ((first | refine go_skip ?_ | refine go_exit ?_) <;> conv => whnf) | refine go_true rfl ?_ | refine go_false rfl ?_ | refine go_cond rfl (fun h => ?_) (fun h => ?_) | refine ⟨rfl, ?_⟩ | ((first | refine ⟨trivial, ?_⟩ | refine ⟨le_of_ble rfl, ?_⟩) <;> conv => whnf) | fail
    all_goals first
      | (exfalso; simp [markMessage, kAt, nx, str_self] at h; done)
      | (refine go_next (i + 1) (by omega) (by omega) (ref_st0 rfl ⟨rfl, rfl, next_i (by omega), trivial⟩ rfl); done)
      | (exfalso; rw [marksMessage_len] at h; simp at h; omega)
  · have hie : i = n := by omega
    subst hie
    repeat' first | refine go_seq ?_ | refine go_region ?_ | refine go_draw drawsOk ?_ | ((first | refine go_op rfl ?_ | refine go_nil ?_ | refine go_dop rfl ?_ | refine go_dend (by kernel_rfl) ?_) <;> conv => whnf) | ((first | refine go_loadB ?_ | refine ⟨by kernel_rfl, ?_⟩ | refine go_ret ?_) <;> conv => whnf) | refine go_block ?_ | ((first | refine go_skip ?_ | refine go_exit ?_) <;> conv => whnf) | refine go_true rfl ?_ | refine go_false rfl ?_ | refine go_cond rfl (fun h => ?_) (fun h => ?_) | refine ⟨rfl, ?_⟩ | ((first | refine ⟨trivial, ?_⟩ | refine ⟨le_of_ble rfl, ?_⟩) <;> conv => whnf) | fail
    · exfalso; rw [marksMessage_len] at h; simp at h
    · exact ret_imm rfl rfl rfl rfl rfl rfl

structure BoardRow where
  time : Int
  delay : Int
  line : ByteArray
  dest : ByteArray

def BoardRow.enc (v : BoardRow) : List D := [.int .i64 v.time, .int .i64 v.delay, .str v.line, .str v.dest]
def BoardRow.ok (v : BoardRow) : Prop := i64 v.time ∧ i64 v.delay ∧ v.line.size ≤ maxLen ∧ v.dest.size ≤ maxLen

theorem boardRow_gr (xs : List BoardRow) : ∀ x ∈ xs.map BoardRow.enc, x.all D.gr = true := by
  intro x hx
  obtain ⟨v, _, rfl⟩ := List.mem_map.1 hx
  rfl
theorem boardRow_one (xs : List BoardRow) : (xs.map BoardRow.enc).all (fun r => r.all D.one) = true := by
  simp only [List.all_map, List.all_eq_true]
  intro _ _
  rfl
theorem boardRow_one' (xs : List BoardRow) : ∀ r ∈ xs.map BoardRow.enc, r.length = 4 ∧ r.all D.one = true := by
  intro r hr
  obtain ⟨v, _, rfl⟩ := List.mem_map.1 hr
  exact ⟨rfl, rfl⟩
theorem boardRow_view (xs : List BoardRow) : ((xs.map BoardRow.enc).drop 0).take (xs.map BoardRow.enc).length = xs.map BoardRow.enc := by rw [List.drop_zero, List.take_length]

def BoardRow.beq (v w : BoardRow) : Bool := decide (v.time = w.time) && decide (v.delay = w.delay) && (v.line == w.line) && (v.dest == w.dest)

theorem boardRow_self (v : BoardRow) : v.beq v = true := by simp [BoardRow.beq, str_self]

theorem c97 (v w : BoardRow) : CallOk Try.prog 97 [.imm (.agg v.enc), .imm (.agg w.enc)] { res := [.imm (.bool (v.beq w))] } := by
  refine callOk_of tyOk Try.func97 rfl rfl (le_of_ble rfl) (le_of_ble rfl) (mutOk_imm rfl _) ?_
  repeat' first | refine go_seq ?_ | refine go_region ?_ | ((first | refine go_op rfl ?_ | refine go_nil ?_) <;> conv => whnf) | ((first | refine go_loadB ?_ | refine ⟨by kernel_rfl, ?_⟩ | refine go_ret ?_) <;> conv => whnf) | ((first | refine go_skip ?_) <;> conv => whnf) | refine go_true rfl ?_ | refine go_false rfl ?_ | refine go_cond rfl (fun h => ?_) (fun h => ?_) | refine ⟨rfl, ?_⟩ | ((first | refine ⟨trivial, ?_⟩ | refine ⟨le_of_ble rfl, ?_⟩) <;> conv => whnf) | fail
  all_goals refine ret_imm rfl rfl rfl rfl ?_ rfl
  all_goals simp_all [BoardRow.beq]

theorem c46 (xs ys : List BoardRow) (hl : xs.length ≤ 1048576) : CallOk Try.prog 46 [.imm (.list (xs.map BoardRow.enc)), .imm (.list (ys.map BoardRow.enc))] { res := [.imm (.bool (decide (xs.length = ys.length) && (xs.zip ys).all fun x => x.1.beq x.2))] } := by
  refine callOk_of tyOk Try.func46 rfl rfl (le_of_ble rfl) (le_of_ble rfl) (mutOk_imm rfl _) ?_
  repeat' first | refine go_seq ?_ | refine go_region ?_ | refine go_draw drawsOk ?_ | ((first | refine go_op rfl ?_ | refine go_nil ?_ | refine go_dop rfl ?_ | refine go_dend (by kernel_rfl) ?_) <;> conv => whnf) | ((first | refine go_loadB ?_ | refine ⟨by kernel_rfl, ?_⟩ | refine go_ret ?_) <;> conv => whnf) | refine go_block ?_ | ((first | refine go_skip ?_ | refine go_exit ?_) <;> conv => whnf) | refine go_true rfl ?_ | refine go_false rfl ?_ | refine go_cond rfl (fun h => ?_) (fun h => ?_) | refine ⟨rfl, ?_⟩ | ((first | refine ⟨trivial, ?_⟩ | refine ⟨le_of_ble rfl, ?_⟩) <;> conv => whnf) | fail
  · refine ret_imm rfl rfl rfl rfl ?_ rfl
    simp at h
    simp; omega
  simp at h
  refine go_loop (α := Nat) (fun i => i ≤ xs.length ∧ ((xs.zip ys).take i).all (fun x => x.1.beq x.2) = true) (fun i => xs.length - i) (fun i => st Try.f46.ntmps [(0, .imm (.list (xs.map BoardRow.enc))), (1, .imm (.list (ys.map BoardRow.enc))), (5, .imm (.int .i64 (i : Nat)))] [] []) 0
    ⟨Nat.zero_le _, rfl⟩ (ref_st0 rfl ⟨rfl, rfl, rfl, trivial⟩ rfl) ?_
  rintro i ⟨hi, ha⟩
  cases hx : xs[i]? with
  | none =>
    have hge := le_of_at hx
    repeat' first | refine go_seq ?_ | refine go_region ?_ | refine go_draw drawsOk ?_ | ((first | refine go_op rfl ?_ | refine go_nil ?_ | refine go_dop rfl ?_ | refine go_dend (by kernel_rfl) ?_) <;> conv => whnf) | ((first | refine go_loadB ?_ | refine ⟨by kernel_rfl, ?_⟩ | refine go_ret ?_) <;> conv => whnf) | refine go_block ?_ | ((first | refine go_skip ?_ | refine go_exit ?_) <;> conv => whnf) | refine go_true rfl ?_ | refine go_false rfl ?_ | refine go_cond rfl (fun h => ?_) (fun h => ?_) | refine ⟨rfl, ?_⟩ | ((first | refine ⟨trivial, ?_⟩ | refine ⟨le_of_ble rfl, ?_⟩) <;> conv => whnf) | fail
    · exfalso; simp at *; omega
    · refine ret_imm rfl rfl rfl rfl ?_ rfl
      rw [all_end (by simp; omega) ha]
      simp; omega
  | some v =>
    have hlt := lt_of_at hx
    have hr := row_at BoardRow.enc hx
    obtain ⟨w, hw⟩ : ∃ w, ys[i]? = some w := ⟨_, List.getElem?_eq_getElem (by omega)⟩
    have hr2 := row_at BoardRow.enc hw
    have hz : (xs.zip ys)[i]? = some (v, w) := by rw [List.getElem?_zip_eq_some]; exact ⟨hx, hw⟩
    have hno := fun h => all_not (p := fun x : BoardRow × BoardRow => x.1.beq x.2) hz h
    repeat' first | refine go_seq ?_ | refine go_region ?_ | refine go_draw drawsOk ?_ | ((first | refine go_op rfl ?_ | refine go_nil ?_ | refine go_dop rfl ?_ | refine go_dend (by kernel_rfl) ?_ | refine go_call [] (c97 v w) rfl rfl rfl rfl ?_ | refine go_idx rfl rfl rfl rfl (by omega) (by assumption) rfl ?_) <;> conv => whnf) | ((first | refine go_loadB ?_ | refine ⟨by kernel_rfl, ?_⟩ | refine go_ret ?_) <;> conv => whnf) | refine go_block ?_ | ((first | refine go_skip ?_ | refine go_exit ?_) <;> conv => whnf) | refine go_true rfl ?_ | refine go_false rfl ?_ | refine go_cond rfl (fun h => ?_) (fun h => ?_) | refine ⟨rfl, ?_⟩ | ((first | refine ⟨trivial, ?_⟩ | refine ⟨le_of_ble rfl, ?_⟩) <;> conv => whnf) | fail
    all_goals first
      | (exfalso; simp at h; omega)
      | (exact go_next (i + 1) ⟨by omega, all_next hz ha (by simpa using h)⟩ (by omega) (ref_st0 rfl ⟨rfl, rfl, next_i (by omega), trivial⟩ rfl))
      | (refine ret_imm rfl rfl rfl rfl ?_ rfl
         rw [hno (by simpa using h)]; simp)

theorem c46s (xs : List BoardRow) (hl : xs.length ≤ 1048576) : CallOk Try.prog 46 [.imm (.list (xs.map BoardRow.enc)), .imm (.list (xs.map BoardRow.enc))] { res := [.imm (.bool true)] } := by
  have := c46 xs xs hl
  rw [zip_self boardRow_self] at this
  simpa using this

def markBoardRow (k : Int) (j : Nat) : BoardRow := ⟨kAt k (4 * j), kAt k (4 * j + 1), mText (kAt k (4 * j + 2)), mText (kAt k (4 * j + 3))⟩
def marksBoardRow (k : Int) (n : Nat) : List BoardRow := (List.range n).map (markBoardRow k)
theorem marksBoardRow_len (k : Int) (n : Nat) : ((marksBoardRow k n).map BoardRow.enc).length = n := by simp [marksBoardRow]
theorem marksBoardRow_at (k : Int) {n i : Nat} (h : i < n) : ((marksBoardRow k n).map BoardRow.enc)[i]? = some (markBoardRow k i).enc := by simp [marksBoardRow, h]

theorem c47 (xs : List BoardRow) (k : Int) (hk0 : 0 ≤ k) (hk1 : k ≤ 576460752303423488) (hl : xs.length ≤ 1048576) : CallOk Try.prog 47 [.arr 136 4 (xs.map BoardRow.enc), .imm (.int .i64 k)]
    { res := [.imm (.int .i64 (kAt k (4 * xs.length)))], muts := [.arr 136 4 ((marksBoardRow k xs.length).map BoardRow.enc)] } := by
  refine callOk_of tyOk Try.func47 rfl rfl (le_of_ble rfl) (le_of_ble rfl) (mutOk_arr0 rfl (by simp [marksBoardRow])) ?_
  have hyl : ((marksBoardRow k xs.length).map BoardRow.enc).length = (xs.map BoardRow.enc).length := by simp [marksBoardRow]
  repeat' first | refine go_seq ?_ | refine go_region ?_ | ((first | refine go_op rfl ?_ | refine go_nil ?_ | refine go_storeBox rfl rfl rfl rfl rfl rfl ?_) <;> conv => whnf) | ((first | refine ⟨by kernel_rfl, ?_⟩ | refine go_ret ?_) <;> conv => whnf) | refine go_block ?_ | ((first | refine go_skip ?_ | refine go_exit ?_) <;> conv => whnf) | refine go_true rfl ?_ | refine go_false rfl ?_ | refine go_cond rfl (fun h => ?_) (fun h => ?_) | refine ⟨rfl, ?_⟩ | ((first | refine ⟨trivial, ?_⟩ | refine ⟨le_of_ble rfl, ?_⟩) <;> conv => whnf) | fail
  refine go_loop (α := Nat) (fun i => i ≤ xs.length) (fun i => xs.length - i)
    (fun i => st Try.f47.ntmps [(0, .own 1000 0 (xs.map BoardRow.enc).length), (1, .imm (.int .i64 (kAt k (4 * i)))), (5, .imm (.int .i64 (i : Nat)))]
      [(1000, .arr 136 4 (upto ((marksBoardRow k xs.length).map BoardRow.enc) (xs.map BoardRow.enc) i))] [1000]) 0 (Nat.zero_le _) ?_ ?_
  · refine ref_st (fun _ => 0) rfl ⟨⟨rfl, rfl⟩, rfl, rfl, trivial⟩ ⟨?_, trivial⟩ (by simp) rfl (by simp [lookM])
    rw [upto_0]; rfl
  · intro i hi
    cases hx : xs[i]? with
    | none =>
      have hge := le_of_at hx
      have hie : i = xs.length := by omega
      rw [upto_end hyl (by simp; omega), hie]
      repeat' first | refine go_seq ?_ | refine go_region ?_ | ((first | refine go_op rfl ?_ | refine go_nil ?_ | refine go_storeBox rfl rfl rfl rfl rfl rfl ?_) <;> conv => whnf) | ((first | refine ⟨by kernel_rfl, ?_⟩ | refine go_ret ?_) <;> conv => whnf) | refine go_block ?_ | ((first | refine go_skip ?_ | refine go_exit ?_) <;> conv => whnf) | refine go_true rfl ?_ | refine go_false rfl ?_ | refine go_cond rfl (fun h => ?_) (fun h => ?_) | refine ⟨rfl, ?_⟩ | ((first | refine ⟨trivial, ?_⟩ | refine ⟨le_of_ble rfl, ?_⟩) <;> conv => whnf) | fail
      · exfalso; simp at *
      · exact ret_mut0 rfl rfl rfl rfl rfl rfl rfl (boardRow_gr _)
    | some v =>
      have hlt := lt_of_at hx
      have hrow : (xs.map BoardRow.enc)[i]? = some v.enc := by simp [hx]
      have hat := upto_at hyl hrow
      have hset := upto_set (y := (markBoardRow k i).enc) hyl hrow (marksBoardRow_at k hlt)
      have hil : i < (upto ((marksBoardRow k xs.length).map BoardRow.enc) (xs.map BoardRow.enc) i).length := by rw [upto_len hyl]; simpa using hlt
      have ht2 : CallOk Try.prog 93 [.imm (.int .i64 (kAt k (4 * i + 2)))] { res := [.imm (.str (mText (kAt k (4 * i + 2))))] } := c93 _ (by rw [kAt_eq hk0 _ (by omega)]; omega)
      have ht3 : CallOk Try.prog 93 [.imm (.int .i64 (kAt k (4 * i + 3)))] { res := [.imm (.str (mText (kAt k (4 * i + 3))))] } := c93 _ (by rw [kAt_eq hk0 _ (by omega)]; omega)
      repeat' first | refine go_seq ?_ | refine go_region ?_ | ((first | refine go_op rfl ?_ | refine go_nil ?_ | refine go_storeBox rfl rfl rfl rfl rfl rfl ?_ | refine go_call [] (ht2) rfl rfl rfl rfl ?_ | refine go_call [] (ht3) rfl rfl rfl rfl ?_ | refine go_idxOwn rfl rfl rfl rfl rfl rfl (by simp; omega) ?_ | refine go_storeEl rfl rfl rfl rfl hat rfl rfl rfl ?_ | refine go_storeEl rfl rfl rfl rfl (set_at hil) rfl rfl (List.set_set _) ?_) <;> conv => whnf) | ((first | refine ⟨by kernel_rfl, ?_⟩ | refine go_ret ?_) <;> conv => whnf) | refine go_block ?_ | ((first | refine go_skip ?_ | refine go_exit ?_) <;> conv => whnf) | refine go_true rfl ?_ | refine go_false rfl ?_ | refine go_cond rfl (fun h => ?_) (fun h => ?_) | refine ⟨rfl, ?_⟩ | ((first | refine ⟨trivial, ?_⟩ | refine ⟨le_of_ble rfl, ?_⟩) <;> conv => whnf) | fail
      · refine go_next (i + 1) (by omega) (by omega) (ref_st id rfl ⟨⟨rfl, rfl⟩, rfl, next_i (by omega), trivial⟩ ⟨?_, trivial⟩ (by simp) rfl (by simp [lookM]))
        rw [← hset]; rfl
      · exfalso; simp at *; omega

theorem c48 (k : Int) (n : Nat) (hk0 : 0 ≤ k) (hk1 : k ≤ 576460752303423488) (hl : n ≤ 1048576) : CallOk Try.prog 48 [.imm (.list ((marksBoardRow k n).map BoardRow.enc)), .imm (.int .i64 k)] { res := [.imm (.int .i64 (kAt k (4 * n)))] } := by
  refine callOk_of tyOk Try.func48 rfl rfl (le_of_ble rfl) (le_of_ble rfl) (mutOk_imm rfl _) ?_
  repeat' first | refine go_seq ?_ | refine go_region ?_ | refine go_draw drawsOk ?_ | ((first | refine go_op rfl ?_ | refine go_nil ?_ | refine go_dop rfl ?_ | refine go_dend (by kernel_rfl) ?_) <;> conv => whnf) | ((first | refine go_loadB ?_ | refine ⟨by kernel_rfl, ?_⟩ | refine go_ret ?_) <;> conv => whnf) | refine go_block ?_ | ((first | refine go_skip ?_ | refine go_exit ?_) <;> conv => whnf) | refine go_true rfl ?_ | refine go_false rfl ?_ | refine go_cond rfl (fun h => ?_) (fun h => ?_) | refine ⟨rfl, ?_⟩ | ((first | refine ⟨trivial, ?_⟩ | refine ⟨le_of_ble rfl, ?_⟩) <;> conv => whnf) | fail
  refine go_loop (α := Nat) (fun i => i ≤ n) (fun i => n - i)
    (fun i => st Try.f48.ntmps [(0, .imm (.list ((marksBoardRow k n).map BoardRow.enc))), (1, .imm (.int .i64 (kAt k (4 * i)))), (5, .imm (.int .i64 (i : Nat)))] [] []) 0 (Nat.zero_le _) (ref_st0 rfl ⟨rfl, rfl, rfl, trivial⟩ rfl) ?_
  intro i hi
  by_cases hlt : i < n
  · have hr : ((marksBoardRow k n).map BoardRow.enc)[((i : Nat) : Int).toNat]? = some (markBoardRow k i).enc := marksBoardRow_at k hlt
    have ht2 : CallOk Try.prog 93 [.imm (.int .i64 (kAt k (4 * i + 2)))] { res := [.imm (.str (mText (kAt k (4 * i + 2))))] } := c93 _ (by rw [kAt_eq hk0 _ (by omega)]; omega)
    have ht3 : CallOk Try.prog 93 [.imm (.int .i64 (kAt k (4 * i + 3)))] { res := [.imm (.str (mText (kAt k (4 * i + 3))))] } := c93 _ (by rw [kAt_eq hk0 _ (by omega)]; omega)
    repeat' first | refine go_seq ?_ | refine go_region ?_ | refine go_draw drawsOk ?_ | ((first | refine go_op rfl ?_ | refine go_nil ?_ | refine go_dop rfl ?_ | refine go_dend (by kernel_rfl) ?_ | refine go_call [] (ht2) rfl rfl rfl rfl ?_ | refine go_call [] (ht3) rfl rfl rfl rfl ?_ | refine go_idx rfl rfl rfl rfl (by omega) (by assumption) rfl ?_) <;> conv => whnf) | ((first | refine go_loadB ?_ | refine ⟨by kernel_rfl, ?_⟩ | refine go_ret ?_) <;> conv => whnf) | refine go_block ?_ | ((first | refine go_skip ?_ | refine go_exit ?_) <;> conv => whnf) | refine go_true rfl ?_ | refine go_false rfl ?_ | refine go_cond rfl (fun h => ?_) (fun h => ?_) | refine ⟨rfl, ?_⟩ | ((first | refine ⟨trivial, ?_⟩ | refine ⟨le_of_ble rfl, ?_⟩) <;> conv => whnf) | fail
    all_goals first
      | (exfalso; simp [markBoardRow, kAt, nx, str_self] at h; done)
      | (refine go_next (i + 1) (by omega) (by omega) (ref_st0 rfl ⟨rfl, rfl, next_i (by omega), trivial⟩ rfl); done)
      | (exfalso; rw [marksBoardRow_len] at h; simp at h; omega)
  · have hie : i = n := by omega
    subst hie
    repeat' first | refine go_seq ?_ | refine go_region ?_ | refine go_draw drawsOk ?_ | ((first | refine go_op rfl ?_ | refine go_nil ?_ | refine go_dop rfl ?_ | refine go_dend (by kernel_rfl) ?_) <;> conv => whnf) | ((first | refine go_loadB ?_ | refine ⟨by kernel_rfl, ?_⟩ | refine go_ret ?_) <;> conv => whnf) | refine go_block ?_ | ((first | refine go_skip ?_ | refine go_exit ?_) <;> conv => whnf) | refine go_true rfl ?_ | refine go_false rfl ?_ | refine go_cond rfl (fun h => ?_) (fun h => ?_) | refine ⟨rfl, ?_⟩ | ((first | refine ⟨trivial, ?_⟩ | refine ⟨le_of_ble rfl, ?_⟩) <;> conv => whnf) | fail
    · exfalso; rw [marksBoardRow_len] at h; simp at h
    · exact ret_imm rfl rfl rfl rfl rfl rfl

end Go.Proofs.Ytiedooadnafghaa

