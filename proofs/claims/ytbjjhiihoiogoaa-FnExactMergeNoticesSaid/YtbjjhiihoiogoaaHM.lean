/- The walks of the laws' own helpers over messages. -/
import Derived.Test.YtbjjhiihoiogoaaMT
namespace Go.Proofs.Ytbjjhiihoiogoaa
open Go Go.Am
set_option maxRecDepth 100000
set_option maxHeartbeats 4000000
attribute [local irreducible] amOps amC opCall opIndexAddr opPick retQ opMake opStore amDraw opAppend opLoad opNilCmp opIndex

structure Message where
  kind : Int
  line : ByteArray
  stop : ByteArray
  fro : Int
  to : Int
  mins : Int

def Message.enc (v : Message) : List D := [.int .i64 v.kind, .str v.line, .str v.stop, .int .i64 v.fro, .int .i64 v.to, .int .i64 v.mins]
def Message.ok (v : Message) : Prop := i64 v.kind ∧ v.line.size ≤ maxLen ∧ v.stop.size ≤ maxLen ∧ i64 v.fro ∧ i64 v.to ∧ i64 v.mins

theorem message_gr (xs : List Message) : ∀ x ∈ xs.map Message.enc, x.all D.gr = true := by
  intro x hx
  obtain ⟨v, _, rfl⟩ := List.mem_map.1 hx
  rfl
theorem message_one (xs : List Message) : (xs.map Message.enc).all (fun r => r.all D.one) = true := by
  simp only [List.all_map, List.all_eq_true]
  intro _ _
  rfl
theorem message_one' (xs : List Message) : ∀ r ∈ xs.map Message.enc, r.length = 6 ∧ r.all D.one = true := by
  intro r hr
  obtain ⟨v, _, rfl⟩ := List.mem_map.1 hr
  exact ⟨rfl, rfl⟩
theorem message_view (xs : List Message) : ((xs.map Message.enc).drop 0).take (xs.map Message.enc).length = xs.map Message.enc := by rw [List.drop_zero, List.take_length]

theorem c131 (v : Message) : CallOk Try.prog 131 [.imm (.agg v.enc)] { res := [.imm (.agg v.enc)] } := by
  refine callOk_of tyOk Try.func131 rfl rfl (le_of_ble rfl) (le_of_ble rfl) (mutOk_imm rfl _) ?_
  repeat' first | refine go_seq ?_ | refine go_region ?_ | ((first | refine go_op rfl ?_ | refine go_nil ?_ | refine go_storeBox rfl rfl rfl rfl rfl rfl ?_) <;> conv => whnf) | ((first | refine go_loadB ?_ | refine ⟨by kernel_rfl, ?_⟩ | refine go_ret ?_) <;> conv => whnf) | ((first | refine go_skip ?_) <;> conv => whnf) | refine ⟨rfl, ?_⟩ | ((first | refine ⟨trivial, ?_⟩ | refine ⟨le_of_ble rfl, ?_⟩) <;> conv => whnf) | fail
  all_goals exact ret_imm rfl rfl rfl rfl rfl rfl

theorem c55 (xs : List Message) (hl : xs.length ≤ 1048576) : CallOk Try.prog 55 [.imm (.list (xs.map Message.enc))] { res := [.imm (.list (xs.map Message.enc))] } := by
  refine callOk_of tyOk Try.func55 rfl rfl (le_of_ble rfl) (le_of_ble rfl) (mutOk_imm rfl _) ?_
  repeat' first | refine go_seq ?_ | refine go_region ?_ | ((first | refine go_op rfl ?_ | refine go_nil ?_ | refine go_storeBox rfl rfl rfl rfl rfl rfl ?_ | refine go_makeN rfl rfl rfl rfl rfl rfl rfl rfl rfl (by omega) (by simp; omega) ?_) <;> conv => whnf) | ((first | refine go_loadB ?_ | refine ⟨by kernel_rfl, ?_⟩ | refine go_ret ?_) <;> conv => whnf) | refine go_block ?_ | ((first | refine go_skip ?_ | refine go_exit ?_) <;> conv => whnf) | refine go_true rfl ?_ | refine go_false rfl ?_ | refine go_cond rfl (fun h => ?_) (fun h => ?_) | refine ⟨rfl, ?_⟩ | ((first | refine ⟨trivial, ?_⟩ | refine ⟨le_of_ble rfl, ?_⟩) <;> conv => whnf) | fail
  refine go_loop (α := Nat) (fun i => i ≤ xs.length) (fun i => xs.length - i)
    (fun i => st Try.f55.ntmps [(0, .imm (.list (xs.map Message.enc))), (3, .own 1000 0 (xs.map Message.enc).length), (4, .imm (.int .i64 (i : Nat)))] [(1000, .arr 163 6 (fill Message.enc ty163.zero xs i))] []) 0 (Nat.zero_le _) ?_ ?_
  · refine ref_st (fun _ => nid 2 7) rfl ⟨rfl, ⟨rfl, rfl⟩, rfl, trivial⟩ ⟨?_, trivial⟩ (by simp) rfl (by simp)
    show some _ = some _
    rw [← fill_0, List.length_map]
    rfl
  · intro i hi
    cases hx : xs[i]? with
    | none =>
      have hge := le_of_at hx
      repeat' first | refine go_seq ?_ | refine go_region ?_ | ((first | refine go_op rfl ?_ | refine go_nil ?_ | refine go_storeBox rfl rfl rfl rfl rfl rfl ?_) <;> conv => whnf) | ((first | refine go_loadB ?_ | refine ⟨by kernel_rfl, ?_⟩ | refine go_ret ?_) <;> conv => whnf) | refine go_block ?_ | ((first | refine go_skip ?_ | refine go_exit ?_) <;> conv => whnf) | refine go_true rfl ?_ | refine go_false rfl ?_ | refine go_cond rfl (fun h => ?_) (fun h => ?_) | refine ⟨rfl, ?_⟩ | ((first | refine ⟨trivial, ?_⟩ | refine ⟨le_of_ble rfl, ?_⟩) <;> conv => whnf) | fail
      · exfalso; simp at *; omega
      · refine ret_own rfl rfl rfl rfl rfl ?_ (message_gr xs)
        rw [fill_end _ _ _ hge]
        simp [List.take_of_length_le]
    | some v =>
      have hlt := lt_of_at hx
      have hr := row_at Message.enc hx
      repeat' first | refine go_seq ?_ | refine go_region ?_ | ((first | refine go_op rfl ?_ | refine go_nil ?_ | refine go_storeBox rfl rfl rfl rfl rfl rfl ?_ | refine go_call [] (c131 v) rfl rfl rfl rfl ?_ | refine go_idx rfl rfl rfl rfl (by omega) (by assumption) rfl ?_ | refine go_idxOwn rfl rfl rfl rfl rfl rfl (by simp; omega) ?_ | refine go_storeRow rfl rfl rfl rfl (fill_at _ _ hx) rfl rfl (fill_set _ _ hx) ?_) <;> conv => whnf) | ((first | refine go_loadB ?_ | refine ⟨by kernel_rfl, ?_⟩ | refine go_ret ?_) <;> conv => whnf) | refine go_block ?_ | ((first | refine go_skip ?_ | refine go_exit ?_) <;> conv => whnf) | refine go_true rfl ?_ | refine go_false rfl ?_ | refine go_cond rfl (fun h => ?_) (fun h => ?_) | refine ⟨rfl, ?_⟩ | ((first | refine ⟨trivial, ?_⟩ | refine ⟨le_of_ble rfl, ?_⟩) <;> conv => whnf) | fail
      · exact go_next (i + 1) (by omega) (by omega) (ref_st id rfl ⟨rfl, ⟨rfl, rfl⟩, next_i (by omega), trivial⟩ ⟨rfl, trivial⟩ (by simp) rfl (by simp))
      · exfalso; simp at *; omega

theorem c55a (xs : List Message) (hl : xs.length ≤ 1048576) : CallOk Try.prog 55 [.imm (.list (xs.map Message.enc))] { res := [.arr 163 6 (xs.map Message.enc)] } := by
  refine callOk_of tyOk Try.func55 rfl rfl (le_of_ble rfl) (le_of_ble rfl) (mutOk_imm rfl _) ?_
  repeat' first | refine go_seq ?_ | refine go_region ?_ | ((first | refine go_op rfl ?_ | refine go_nil ?_ | refine go_storeBox rfl rfl rfl rfl rfl rfl ?_ | refine go_makeN rfl rfl rfl rfl rfl rfl rfl rfl rfl (by omega) (by simp; omega) ?_) <;> conv => whnf) | ((first | refine go_loadB ?_ | refine ⟨by kernel_rfl, ?_⟩ | refine go_ret ?_) <;> conv => whnf) | refine go_block ?_ | ((first | refine go_skip ?_ | refine go_exit ?_) <;> conv => whnf) | refine go_true rfl ?_ | refine go_false rfl ?_ | refine go_cond rfl (fun h => ?_) (fun h => ?_) | refine ⟨rfl, ?_⟩ | ((first | refine ⟨trivial, ?_⟩ | refine ⟨le_of_ble rfl, ?_⟩) <;> conv => whnf) | fail
  refine go_loop (α := Nat) (fun i => i ≤ xs.length) (fun i => xs.length - i)
    (fun i => st Try.f55.ntmps [(0, .imm (.list (xs.map Message.enc))), (3, .own 1000 0 (xs.map Message.enc).length), (4, .imm (.int .i64 (i : Nat)))] [(1000, .arr 163 6 (fill Message.enc ty163.zero xs i))] []) 0 (Nat.zero_le _) ?_ ?_
  · refine ref_st (fun _ => nid 2 7) rfl ⟨rfl, ⟨rfl, rfl⟩, rfl, trivial⟩ ⟨?_, trivial⟩ (by simp) rfl (by simp)
    show some _ = some _
    rw [← fill_0, List.length_map]
    rfl
  · intro i hi
    cases hx : xs[i]? with
    | none =>
      have hge := le_of_at hx
      repeat' first | refine go_seq ?_ | refine go_region ?_ | ((first | refine go_op rfl ?_ | refine go_nil ?_ | refine go_storeBox rfl rfl rfl rfl rfl rfl ?_) <;> conv => whnf) | ((first | refine go_loadB ?_ | refine ⟨by kernel_rfl, ?_⟩ | refine go_ret ?_) <;> conv => whnf) | refine go_block ?_ | ((first | refine go_skip ?_ | refine go_exit ?_) <;> conv => whnf) | refine go_true rfl ?_ | refine go_false rfl ?_ | refine go_cond rfl (fun h => ?_) (fun h => ?_) | refine ⟨rfl, ?_⟩ | ((first | refine ⟨trivial, ?_⟩ | refine ⟨le_of_ble rfl, ?_⟩) <;> conv => whnf) | fail
      · exfalso; simp at *; omega
      · refine ret_arr rfl rfl rfl rfl rfl ?_ (message_gr xs)
        rw [fill_end _ _ _ hge]
        simp [List.take_of_length_le]
    | some v =>
      have hlt := lt_of_at hx
      have hr := row_at Message.enc hx
      repeat' first | refine go_seq ?_ | refine go_region ?_ | ((first | refine go_op rfl ?_ | refine go_nil ?_ | refine go_storeBox rfl rfl rfl rfl rfl rfl ?_ | refine go_call [] (c131 v) rfl rfl rfl rfl ?_ | refine go_idx rfl rfl rfl rfl (by omega) (by assumption) rfl ?_ | refine go_idxOwn rfl rfl rfl rfl rfl rfl (by simp; omega) ?_ | refine go_storeRow rfl rfl rfl rfl (fill_at _ _ hx) rfl rfl (fill_set _ _ hx) ?_) <;> conv => whnf) | ((first | refine go_loadB ?_ | refine ⟨by kernel_rfl, ?_⟩ | refine go_ret ?_) <;> conv => whnf) | refine go_block ?_ | ((first | refine go_skip ?_ | refine go_exit ?_) <;> conv => whnf) | refine go_true rfl ?_ | refine go_false rfl ?_ | refine go_cond rfl (fun h => ?_) (fun h => ?_) | refine ⟨rfl, ?_⟩ | ((first | refine ⟨trivial, ?_⟩ | refine ⟨le_of_ble rfl, ?_⟩) <;> conv => whnf) | fail
      · exact go_next (i + 1) (by omega) (by omega) (ref_st id rfl ⟨rfl, ⟨rfl, rfl⟩, next_i (by omega), trivial⟩ ⟨rfl, trivial⟩ (by simp) rfl (by simp))
      · exfalso; simp at *; omega

def Message.beq (v w : Message) : Bool := decide (v.kind = w.kind) && (v.line == w.line) && (v.stop == w.stop) && decide (v.fro = w.fro) && decide (v.to = w.to) && decide (v.mins = w.mins)

theorem message_self (v : Message) : v.beq v = true := by simp [Message.beq, str_self]

theorem c137 (v w : Message) : CallOk Try.prog 137 [.imm (.agg v.enc), .imm (.agg w.enc)] { res := [.imm (.bool (v.beq w))] } := by
  refine callOk_of tyOk Try.func137 rfl rfl (le_of_ble rfl) (le_of_ble rfl) (mutOk_imm rfl _) ?_
  repeat' first | refine go_seq ?_ | refine go_region ?_ | ((first | refine go_op rfl ?_ | refine go_nil ?_) <;> conv => whnf) | ((first | refine go_loadB ?_ | refine ⟨by kernel_rfl, ?_⟩ | refine go_ret ?_) <;> conv => whnf) | ((first | refine go_skip ?_) <;> conv => whnf) | refine go_true rfl ?_ | refine go_false rfl ?_ | refine go_cond rfl (fun h => ?_) (fun h => ?_) | refine ⟨rfl, ?_⟩ | ((first | refine ⟨trivial, ?_⟩ | refine ⟨le_of_ble rfl, ?_⟩) <;> conv => whnf) | fail
  all_goals refine ret_imm rfl rfl rfl rfl ?_ rfl
  all_goals simp_all [Message.beq]

theorem c57 (xs ys : List Message) (hl : xs.length ≤ 1048576) : CallOk Try.prog 57 [.imm (.list (xs.map Message.enc)), .imm (.list (ys.map Message.enc))] { res := [.imm (.bool (decide (xs.length = ys.length) && (xs.zip ys).all fun x => x.1.beq x.2))] } := by
  refine callOk_of tyOk Try.func57 rfl rfl (le_of_ble rfl) (le_of_ble rfl) (mutOk_imm rfl _) ?_
  repeat' first | refine go_seq ?_ | refine go_region ?_ | refine go_draw drawsOk ?_ | ((first | refine go_op rfl ?_ | refine go_nil ?_ | refine go_dop rfl ?_ | refine go_dend (by kernel_rfl) ?_) <;> conv => whnf) | ((first | refine go_loadB ?_ | refine ⟨by kernel_rfl, ?_⟩ | refine go_ret ?_) <;> conv => whnf) | refine go_block ?_ | ((first | refine go_skip ?_ | refine go_exit ?_) <;> conv => whnf) | refine go_true rfl ?_ | refine go_false rfl ?_ | refine go_cond rfl (fun h => ?_) (fun h => ?_) | refine ⟨rfl, ?_⟩ | ((first | refine ⟨trivial, ?_⟩ | refine ⟨le_of_ble rfl, ?_⟩) <;> conv => whnf) | fail
  · refine ret_imm rfl rfl rfl rfl ?_ rfl
    simp at h
    simp; omega
  simp at h
  refine go_loop (α := Nat) (fun i => i ≤ xs.length ∧ ((xs.zip ys).take i).all (fun x => x.1.beq x.2) = true) (fun i => xs.length - i) (fun i => st Try.f57.ntmps [(0, .imm (.list (xs.map Message.enc))), (1, .imm (.list (ys.map Message.enc))), (5, .imm (.int .i64 (i : Nat)))] [] []) 0
    ⟨Nat.zero_le _, rfl⟩ (ref_st0 rfl ⟨rfl, rfl, rfl, trivial⟩ rfl) ?_
  rintro i ⟨hi, ha⟩
  cases hx : xs[i]? with
  | none =>
    have hge := le_of_at hx
    repeat' first | refine go_seq ?_ | refine go_region ?_ | refine go_draw drawsOk ?_ | ((first | refine go_op rfl ?_ | refine go_nil ?_ | refine go_dop rfl ?_ | refine go_dend (by kernel_rfl) ?_) <;> conv => whnf) | ((first | refine go_loadB ?_ | refine ⟨by kernel_rfl, ?_⟩ | refine go_ret ?_) <;> conv => whnf) | refine go_block ?_ | ((first | refine go_skip ?_ | refine go_exit ?_) <;> conv => whnf) | refine go_true rfl ?_ | refine go_false rfl ?_ | refine go_cond rfl (fun h => ?_) (fun h => ?_) | refine ⟨rfl, ?_⟩ | ((first | refine ⟨trivial, ?_⟩ | refine ⟨le_of_ble rfl, ?_⟩) <;> conv => whnf) | fail
    · exfalso; simp at *; omega
    · refine ret_imm rfl rfl rfl rfl ?_ rfl
      rw [all_end (by simp; omega) ha]
      simp; omega
  | some v =>
    have hlt := lt_of_at hx
    have hr := row_at Message.enc hx
    obtain ⟨w, hw⟩ : ∃ w, ys[i]? = some w := ⟨_, List.getElem?_eq_getElem (by omega)⟩
    have hr2 := row_at Message.enc hw
    have hz : (xs.zip ys)[i]? = some (v, w) := by rw [List.getElem?_zip_eq_some]; exact ⟨hx, hw⟩
    have hno := fun h => all_not (p := fun x : Message × Message => x.1.beq x.2) hz h
    repeat' first | refine go_seq ?_ | refine go_region ?_ | refine go_draw drawsOk ?_ | ((first | refine go_op rfl ?_ | refine go_nil ?_ | refine go_dop rfl ?_ | refine go_dend (by kernel_rfl) ?_ | refine go_call [] (c137 v w) rfl rfl rfl rfl ?_ | refine go_idx rfl rfl rfl rfl (by omega) (by assumption) rfl ?_) <;> conv => whnf) | ((first | refine go_loadB ?_ | refine ⟨by kernel_rfl, ?_⟩ | refine go_ret ?_) <;> conv => whnf) | refine go_block ?_ | ((first | refine go_skip ?_ | refine go_exit ?_) <;> conv => whnf) | refine go_true rfl ?_ | refine go_false rfl ?_ | refine go_cond rfl (fun h => ?_) (fun h => ?_) | refine ⟨rfl, ?_⟩ | ((first | refine ⟨trivial, ?_⟩ | refine ⟨le_of_ble rfl, ?_⟩) <;> conv => whnf) | fail
    all_goals first
      | (exfalso; simp at h; omega)
      | (exact go_next (i + 1) ⟨by omega, all_next hz ha (by simpa using h)⟩ (by omega) (ref_st0 rfl ⟨rfl, rfl, next_i (by omega), trivial⟩ rfl))
      | (refine ret_imm rfl rfl rfl rfl ?_ rfl
         rw [hno (by simpa using h)]; simp)

theorem c57s (xs : List Message) (hl : xs.length ≤ 1048576) : CallOk Try.prog 57 [.imm (.list (xs.map Message.enc)), .imm (.list (xs.map Message.enc))] { res := [.imm (.bool true)] } := by
  have := c57 xs xs hl
  rw [zip_self message_self] at this
  simpa using this

def markMessage (k : Int) (j : Nat) : Message := ⟨kAt k (6 * j), mText (kAt k (6 * j + 1)), mText (kAt k (6 * j + 2)), kAt k (6 * j + 3), kAt k (6 * j + 4), kAt k (6 * j + 5)⟩
def marksMessage (k : Int) (n : Nat) : List Message := (List.range n).map (markMessage k)
theorem marksMessage_len (k : Int) (n : Nat) : ((marksMessage k n).map Message.enc).length = n := by simp [marksMessage]
theorem marksMessage_at (k : Int) {n i : Nat} (h : i < n) : ((marksMessage k n).map Message.enc)[i]? = some (markMessage k i).enc := by simp [marksMessage, h]

theorem c58 (xs : List Message) (k : Int) (hk0 : 0 ≤ k) (hk1 : k ≤ 576460752303423488) (hl : xs.length ≤ 1048576) : CallOk Try.prog 58 [.arr 163 6 (xs.map Message.enc), .imm (.int .i64 k)]
    { res := [.imm (.int .i64 (kAt k (6 * xs.length)))], muts := [.arr 163 6 ((marksMessage k xs.length).map Message.enc)] } := by
  refine callOk_of tyOk Try.func58 rfl rfl (le_of_ble rfl) (le_of_ble rfl) (mutOk_arr0 rfl (by simp [marksMessage])) ?_
  have hyl : ((marksMessage k xs.length).map Message.enc).length = (xs.map Message.enc).length := by simp [marksMessage]
  repeat' first | refine go_seq ?_ | refine go_region ?_ | ((first | refine go_op rfl ?_ | refine go_nil ?_ | refine go_storeBox rfl rfl rfl rfl rfl rfl ?_) <;> conv => whnf) | ((first | refine ⟨by kernel_rfl, ?_⟩ | refine go_ret ?_) <;> conv => whnf) | refine go_block ?_ | ((first | refine go_skip ?_ | refine go_exit ?_) <;> conv => whnf) | refine go_true rfl ?_ | refine go_false rfl ?_ | refine go_cond rfl (fun h => ?_) (fun h => ?_) | refine ⟨rfl, ?_⟩ | ((first | refine ⟨trivial, ?_⟩ | refine ⟨le_of_ble rfl, ?_⟩) <;> conv => whnf) | fail
  refine go_loop (α := Nat) (fun i => i ≤ xs.length) (fun i => xs.length - i)
    (fun i => st Try.f58.ntmps [(0, .own 1000 0 (xs.map Message.enc).length), (1, .imm (.int .i64 (kAt k (6 * i)))), (5, .imm (.int .i64 (i : Nat)))]
      [(1000, .arr 163 6 (upto ((marksMessage k xs.length).map Message.enc) (xs.map Message.enc) i))] [1000]) 0 (Nat.zero_le _) ?_ ?_
  · refine ref_st (fun _ => 0) rfl ⟨⟨rfl, rfl⟩, rfl, rfl, trivial⟩ ⟨?_, trivial⟩ (by simp) rfl (by simp [lookM])
    rw [upto_0]; rfl
  · intro i hi
    cases hx : xs[i]? with
    | none =>
      have hge := le_of_at hx
      have hie : i = xs.length := by omega
      rw [upto_end hyl (by simp; omega), hie]
      repeat' first | refine go_seq ?_ | refine go_region ?_ | ((first | refine go_op rfl ?_ | refine go_nil ?_ | refine go_storeBox rfl rfl rfl rfl rfl rfl ?_) <;> conv => whnf) | ((first | refine ⟨by kernel_rfl, ?_⟩ | refine go_ret ?_) <;> conv => whnf) | refine go_block ?_ | ((first | refine go_skip ?_ | refine go_exit ?_) <;> conv => whnf) | refine go_true rfl ?_ | refine go_false rfl ?_ | refine go_cond rfl (fun h => ?_) (fun h => ?_) | refine ⟨rfl, ?_⟩ | ((first | refine ⟨trivial, ?_⟩ | refine ⟨le_of_ble rfl, ?_⟩) <;> conv => whnf) | fail
      · exfalso; simp at *
      · exact ret_mut0 rfl rfl rfl rfl rfl rfl rfl (message_gr _)
    | some v =>
      have hlt := lt_of_at hx
      have hrow : (xs.map Message.enc)[i]? = some v.enc := by simp [hx]
      have hat := upto_at hyl hrow
      have hset := upto_set (y := (markMessage k i).enc) hyl hrow (marksMessage_at k hlt)
      have hil : i < (upto ((marksMessage k xs.length).map Message.enc) (xs.map Message.enc) i).length := by rw [upto_len hyl]; simpa using hlt
      have ht1 : CallOk Try.prog 138 [.imm (.int .i64 (kAt k (6 * i + 1)))] { res := [.imm (.str (mText (kAt k (6 * i + 1))))] } := c138 _ (by rw [kAt_eq hk0 _ (by omega)]; omega)
      have ht2 : CallOk Try.prog 138 [.imm (.int .i64 (kAt k (6 * i + 2)))] { res := [.imm (.str (mText (kAt k (6 * i + 2))))] } := c138 _ (by rw [kAt_eq hk0 _ (by omega)]; omega)
      repeat' first | refine go_seq ?_ | refine go_region ?_ | ((first | refine go_op rfl ?_ | refine go_nil ?_ | refine go_storeBox rfl rfl rfl rfl rfl rfl ?_ | refine go_call [] (ht1) rfl rfl rfl rfl ?_ | refine go_call [] (ht2) rfl rfl rfl rfl ?_ | refine go_idxOwn rfl rfl rfl rfl rfl rfl (by simp; omega) ?_ | refine go_storeEl rfl rfl rfl rfl hat rfl rfl rfl ?_ | refine go_storeEl rfl rfl rfl rfl (set_at hil) rfl rfl (List.set_set _) ?_) <;> conv => whnf) | ((first | refine ⟨by kernel_rfl, ?_⟩ | refine go_ret ?_) <;> conv => whnf) | refine go_block ?_ | ((first | refine go_skip ?_ | refine go_exit ?_) <;> conv => whnf) | refine go_true rfl ?_ | refine go_false rfl ?_ | refine go_cond rfl (fun h => ?_) (fun h => ?_) | refine ⟨rfl, ?_⟩ | ((first | refine ⟨trivial, ?_⟩ | refine ⟨le_of_ble rfl, ?_⟩) <;> conv => whnf) | fail
      · refine go_next (i + 1) (by omega) (by omega) (ref_st id rfl ⟨⟨rfl, rfl⟩, rfl, next_i (by omega), trivial⟩ ⟨?_, trivial⟩ (by simp) rfl (by simp [lookM]))
        rw [← hset]; rfl
      · exfalso; simp at *; omega

theorem c59 (k : Int) (n : Nat) (hk0 : 0 ≤ k) (hk1 : k ≤ 576460752303423488) (hl : n ≤ 1048576) : CallOk Try.prog 59 [.imm (.list ((marksMessage k n).map Message.enc)), .imm (.int .i64 k)] { res := [.imm (.int .i64 (kAt k (6 * n)))] } := by
  refine callOk_of tyOk Try.func59 rfl rfl (le_of_ble rfl) (le_of_ble rfl) (mutOk_imm rfl _) ?_
  repeat' first | refine go_seq ?_ | refine go_region ?_ | refine go_draw drawsOk ?_ | ((first | refine go_op rfl ?_ | refine go_nil ?_ | refine go_dop rfl ?_ | refine go_dend (by kernel_rfl) ?_) <;> conv => whnf) | ((first | refine go_loadB ?_ | refine ⟨by kernel_rfl, ?_⟩ | refine go_ret ?_) <;> conv => whnf) | refine go_block ?_ | ((first | refine go_skip ?_ | refine go_exit ?_) <;> conv => whnf) | refine go_true rfl ?_ | refine go_false rfl ?_ | refine go_cond rfl (fun h => ?_) (fun h => ?_) | refine ⟨rfl, ?_⟩ | ((first | refine ⟨trivial, ?_⟩ | refine ⟨le_of_ble rfl, ?_⟩) <;> conv => whnf) | fail
  refine go_loop (α := Nat) (fun i => i ≤ n) (fun i => n - i)
    (fun i => st Try.f59.ntmps [(0, .imm (.list ((marksMessage k n).map Message.enc))), (1, .imm (.int .i64 (kAt k (6 * i)))), (5, .imm (.int .i64 (i : Nat)))] [] []) 0 (Nat.zero_le _) (ref_st0 rfl ⟨rfl, rfl, rfl, trivial⟩ rfl) ?_
  intro i hi
  by_cases hlt : i < n
  · have hr : ((marksMessage k n).map Message.enc)[((i : Nat) : Int).toNat]? = some (markMessage k i).enc := marksMessage_at k hlt
    have ht1 : CallOk Try.prog 138 [.imm (.int .i64 (kAt k (6 * i + 1)))] { res := [.imm (.str (mText (kAt k (6 * i + 1))))] } := c138 _ (by rw [kAt_eq hk0 _ (by omega)]; omega)
    have ht2 : CallOk Try.prog 138 [.imm (.int .i64 (kAt k (6 * i + 2)))] { res := [.imm (.str (mText (kAt k (6 * i + 2))))] } := c138 _ (by rw [kAt_eq hk0 _ (by omega)]; omega)
    repeat' first | refine go_seq ?_ | refine go_region ?_ | refine go_draw drawsOk ?_ | ((first | refine go_op rfl ?_ | refine go_nil ?_ | refine go_dop rfl ?_ | refine go_dend (by kernel_rfl) ?_ | refine go_call [] (ht1) rfl rfl rfl rfl ?_ | refine go_call [] (ht2) rfl rfl rfl rfl ?_ | refine go_idx rfl rfl rfl rfl (by omega) (by assumption) rfl ?_) <;> conv => whnf) | ((first | refine go_loadB ?_ | refine ⟨by kernel_rfl, ?_⟩ | refine go_ret ?_) <;> conv => whnf) | refine go_block ?_ | ((first | refine go_skip ?_ | refine go_exit ?_) <;> conv => whnf) | refine go_true rfl ?_ | refine go_false rfl ?_ | refine go_cond rfl (fun h => ?_) (fun h => ?_) | refine ⟨rfl, ?_⟩ | ((first | refine ⟨trivial, ?_⟩ | refine ⟨le_of_ble rfl, ?_⟩) <;> conv => whnf) | fail
    all_goals first
      | (exfalso; simp [markMessage, kAt, nx, str_self] at h; done)
      | (refine go_next (i + 1) (by omega) (by omega) (ref_st0 rfl ⟨rfl, rfl, next_i (by omega), trivial⟩ rfl); done)
      | (exfalso; rw [marksMessage_len] at h; simp at h; omega)
  · have hie : i = n := by omega
    subst hie
    repeat' first | refine go_seq ?_ | refine go_region ?_ | refine go_draw drawsOk ?_ | ((first | refine go_op rfl ?_ | refine go_nil ?_ | refine go_dop rfl ?_ | refine go_dend (by kernel_rfl) ?_) <;> conv => whnf) | ((first | refine go_loadB ?_ | refine ⟨by kernel_rfl, ?_⟩ | refine go_ret ?_) <;> conv => whnf) | refine go_block ?_ | ((first | refine go_skip ?_ | refine go_exit ?_) <;> conv => whnf) | refine go_true rfl ?_ | refine go_false rfl ?_ | refine go_cond rfl (fun h => ?_) (fun h => ?_) | refine ⟨rfl, ?_⟩ | ((first | refine ⟨trivial, ?_⟩ | refine ⟨le_of_ble rfl, ?_⟩) <;> conv => whnf) | fail
    · exfalso; rw [marksMessage_len] at h; simp at h
    · exact ret_imm rfl rfl rfl rfl rfl rfl

def szMessage (left : Int) (v : Message) : Int :=
  if IntKind.i64.wrap (left - v.line.size) < 0 then -1 else
  if IntKind.i64.wrap (IntKind.i64.wrap (left - v.line.size) - v.stop.size) < 0 then -1 else
  IntKind.i64.wrap (IntKind.i64.wrap (left - v.line.size) - v.stop.size)

theorem c129 (v : Message) (left : Int) : CallOk Try.prog 129 [.imm (.agg v.enc), .imm (.int .i64 left)] { res := [.imm (.int .i64 (szMessage left v))] } := by
  refine callOk_of tyOk Try.func129 rfl rfl (le_of_ble rfl) (le_of_ble rfl) (mutOk_imm rfl _) ?_
  repeat' first | refine go_seq ?_ | refine go_region ?_ | ((first | refine go_op rfl ?_ | refine go_nil ?_) <;> conv => whnf) | ((first | refine go_loadB ?_ | refine ⟨by kernel_rfl, ?_⟩ | refine go_ret ?_) <;> conv => whnf) | ((first | refine go_skip ?_) <;> conv => whnf) | refine go_true rfl ?_ | refine go_false rfl ?_ | refine go_cond rfl (fun h => ?_) (fun h => ?_) | refine ⟨rfl, ?_⟩ | ((first | refine ⟨trivial, ?_⟩ | refine ⟨le_of_ble rfl, ?_⟩) <;> conv => whnf) | fail
  all_goals refine ret_imm rfl rfl rfl rfl ?_ rfl
  all_goals simp only [decide_eq_true_eq, decide_eq_false_iff_not] at *
  all_goals first | (simp_all [szMessage]; done) | (rw [szMessage, if_neg (by omega), if_neg (by omega)])

def szFMessage : Int → List Message → Int
  | a, [] => a
  | a, v :: r => if szMessage a v < 0 then -1 else szFMessage (szMessage a v) r
def szSMessage (left : Int) (xs : List Message) : Int := if IntKind.i64.wrap (left - xs.length) < 0 then -1 else szFMessage (IntKind.i64.wrap (left - xs.length)) xs

theorem szSMessage_len {left : Int} {xs : List Message} (h0 : left ≤ 1048576) (h00 : 0 ≤ left) (hl : xs.length ≤ 9223372036854775807) (h : ¬ szSMessage left xs < 0) : xs.length ≤ 1048576 := by
  unfold szSMessage at h
  have hw : IntKind.i64.wrap (left - (xs.length : Int)) = left - xs.length := by rw [IntKind.wrap_i64]; omega
  rw [hw] at h
  by_cases hn : left - (xs.length : Int) < 0
  · rw [if_pos hn] at h; omega
  · omega

theorem c53 (xs : List Message) (left : Int) (h0 : left ≤ 1048576) (h00 : 0 ≤ left) (hl : xs.length ≤ 9223372036854775807) : CallOk Try.prog 53 [.imm (.list (xs.map Message.enc)), .imm (.int .i64 left)] { res := [.imm (.int .i64 (szSMessage left xs))] } := by
  refine callOk_of tyOk Try.func53 rfl rfl (le_of_ble rfl) (le_of_ble rfl) (mutOk_imm rfl _) ?_
  have hlm : (xs.map Message.enc).length = xs.length := List.length_map _
  have hw : IntKind.i64.wrap (left - (xs.length : Int)) = left - xs.length := by rw [IntKind.wrap_i64]; omega
  by_cases hn : IntKind.i64.wrap (left - (xs.length : Int)) < 0
  · have hm : szSMessage left xs = -1 := by unfold szSMessage; rw [if_pos hn]
    repeat' first | refine go_seq ?_ | refine go_region ?_ | ((first | refine go_op rfl ?_ | refine go_nil ?_) <;> conv => whnf) | ((first | refine go_loadB ?_ | refine ⟨by kernel_rfl, ?_⟩ | refine go_ret ?_) <;> conv => whnf) | refine go_block ?_ | ((first | refine go_skip ?_ | refine go_exit ?_) <;> conv => whnf) | refine go_true rfl ?_ | refine go_false rfl ?_ | refine go_cond rfl (fun h => ?_) (fun h => ?_) | refine ⟨rfl, ?_⟩ | ((first | refine ⟨trivial, ?_⟩ | refine ⟨le_of_ble rfl, ?_⟩) <;> conv => whnf) | fail
    all_goals first
      | exact ret_imm rfl rfl rfl rfl (by rw [hm]) rfl
      | (exfalso; rw [hlm] at h; simp only [decide_eq_false_iff_not] at h; exact h hn)
  · have hm : szSMessage left xs = szFMessage (IntKind.i64.wrap (left - xs.length)) xs := by unfold szSMessage; rw [if_neg hn]
    have hlen : xs.length ≤ 1048576 := by rw [hw] at hn; omega
    repeat' first | refine go_seq ?_ | refine go_region ?_ | ((first | refine go_op rfl ?_ | refine go_nil ?_) <;> conv => whnf) | ((first | refine go_loadB ?_ | refine ⟨by kernel_rfl, ?_⟩ | refine go_ret ?_) <;> conv => whnf) | refine go_block ?_ | ((first | refine go_skip ?_ | refine go_exit ?_) <;> conv => whnf) | refine go_true rfl ?_ | refine go_false rfl ?_ | refine go_cond rfl (fun h => ?_) (fun h => ?_) | refine ⟨rfl, ?_⟩ | ((first | refine ⟨trivial, ?_⟩ | refine ⟨le_of_ble rfl, ?_⟩) <;> conv => whnf) | fail
    · exfalso; rw [hlm] at h; simp only [decide_eq_true_eq] at h; exact hn h
    refine go_loop (α := Nat × Int) (fun x => x.1 ≤ xs.length ∧ szFMessage x.2 (xs.drop x.1) = szSMessage left xs) (fun x => xs.length - x.1)
      (fun x => st Try.f53.ntmps [(0, .imm (.list (xs.map Message.enc))), (1, .imm (.int .i64 x.2)), (5, .imm (.int .i64 (x.1 : Nat)))] [] []) (0, IntKind.i64.wrap (left - (xs.map Message.enc).length)) ⟨Nat.zero_le _, by rw [hlm, hm]; rfl⟩ (ref_st0 rfl ⟨rfl, rfl, rfl, trivial⟩ rfl) ?_
    rintro ⟨i, a⟩ ⟨hi, ha⟩
    simp only at hi ha
    cases hx : xs[i]? with
    | none =>
      have hge := le_of_at hx
      repeat' first | refine go_seq ?_ | refine go_region ?_ | ((first | refine go_op rfl ?_ | refine go_nil ?_) <;> conv => whnf) | ((first | refine go_loadB ?_ | refine ⟨by kernel_rfl, ?_⟩ | refine go_ret ?_) <;> conv => whnf) | refine go_block ?_ | ((first | refine go_skip ?_ | refine go_exit ?_) <;> conv => whnf) | refine go_true rfl ?_ | refine go_false rfl ?_ | refine go_cond rfl (fun h => ?_) (fun h => ?_) | refine ⟨rfl, ?_⟩ | ((first | refine ⟨trivial, ?_⟩ | refine ⟨le_of_ble rfl, ?_⟩) <;> conv => whnf) | fail
      · exfalso; simp at h; omega
      · refine ret_imm rfl rfl rfl rfl ?_ rfl
        rw [← ha, List.drop_eq_nil_of_le hge, szFMessage]
    | some v =>
      have hlt := lt_of_at hx
      have hr := row_at Message.enc hx
      have hd : xs.drop i = v :: xs.drop (i + 1) := by
        rw [List.drop_eq_getElem_cons hlt, (List.getElem?_eq_some_iff.1 hx).2]
      rw [hd, szFMessage] at ha
      repeat' first | refine go_seq ?_ | refine go_region ?_ | ((first | refine go_op rfl ?_ | refine go_nil ?_ | refine go_call [] (c129 v a) rfl rfl rfl rfl ?_ | refine go_idx rfl rfl rfl rfl (by omega) (by assumption) rfl ?_) <;> conv => whnf) | ((first | refine go_loadB ?_ | refine ⟨by kernel_rfl, ?_⟩ | refine go_ret ?_) <;> conv => whnf) | refine go_block ?_ | ((first | refine go_skip ?_ | refine go_exit ?_) <;> conv => whnf) | refine go_true rfl ?_ | refine go_false rfl ?_ | refine go_cond rfl (fun h => ?_) (fun h => ?_) | refine ⟨rfl, ?_⟩ | ((first | refine ⟨trivial, ?_⟩ | refine ⟨le_of_ble rfl, ?_⟩) <;> conv => whnf) | fail
      · refine ret_imm rfl rfl rfl rfl ?_ rfl
        rw [← ha, if_pos (by simpa using h)]
      · rw [if_neg (by simpa using h)] at ha
        exact go_next (i + 1, szMessage a v) ⟨by omega, ha⟩ (by simp only; omega) (ref_st0 rfl ⟨rfl, rfl, next_i (by omega), trivial⟩ rfl)
      · exfalso; simp at h; omega

end Go.Proofs.Ytbjjhiihoiogoaa

