/- Two notices in one: the reference, and the law. -/
import Derived.Test.YtbjjhiihoiogoaaM6
namespace Go.Proofs.Ytbjjhiihoiogoaa
open Go Go.Am
set_option maxRecDepth 100000
set_option maxHeartbeats 4000000
attribute [local irreducible] amOps amC opCall opIndexAddr opPick retQ opMake opStore amDraw opAppend opLoad opNilCmp opIndex opSlice

/-- What the reference asks of the k-th message beside the i-th, m. -/
def badB (i : Nat) (m : Message) (k : Nat) (n : Message) : Bool :=
  if m.kind = 1 then decide (i < k) && (decide (n.kind = 1) && (n.line == m.line)) else decide (k < i) && n.beq m
def keepTo (all : List Message) (i : Nat) (m : Message) : Nat → Bool
  | 0 => true
  | k + 1 => keepTo all i m k && !(match all[k]? with | some n => badB i m k n | none => false)
theorem keepTo_next {all : List Message} {i k : Nat} {m n : Message} (h : all[k]? = some n) : keepTo all i m (k + 1) = (keepTo all i m k && !badB i m k n) := by
  simp only [keepTo, h]
theorem keepTo_false {all : List Message} {i : Nat} {m : Message} : ∀ k, keepTo all i m k = false ↔ ∃ j n, j < k ∧ all[j]? = some n ∧ badB i m j n = true
  | 0 => by simp [keepTo]
  | k + 1 => by
    rw [keepTo, Bool.and_eq_false_iff, keepTo_false k]
    constructor
    · rintro (⟨j, n, h1, h2, h3⟩ | h)
      · exact ⟨j, n, by omega, h2, h3⟩
      · cases hk : all[k]? with
        | none => rw [hk] at h; simp at h
        | some n => rw [hk] at h; exact ⟨k, n, by omega, hk, by simpa using h⟩
    · rintro ⟨j, n, h1, h2, h3⟩
      by_cases hjk : j = k
      · subst hjk
        right
        rw [h2]
        simp [h3]
      · exact .inl ⟨j, n, by omega, h2, h3⟩
theorem beq_comm (m n : Message) : m.beq n = n.beq m := by
  have hs : ∀ a b : ByteArray, (a == b) = (b == a) := fun a b => by
    rw [beq_toListBytes, beq_toListBytes, Bool.eq_iff_iff, beq_iff_eq, beq_iff_eq]
    exact eq_comm
  have hi : ∀ a b : Int, decide (a = b) = decide (b = a) := fun a b => by
    by_cases h : a = b
    · subst h; rfl
    · rw [decide_eq_false h, decide_eq_false (fun e => h e.symm)]
  simp only [Message.beq]
  rw [hi m.kind, hs m.line, hs m.stop, hi m.fro, hi m.to, hi m.mins]
theorem keepTo_gone (all : List Message) (i : Nat) (m : Message) : keepTo all i m all.length = !goneB all i m := by
  cases hg : goneB all i m with
  | true =>
    rw [Bool.not_true, keepTo_false]
    unfold goneB at hg
    by_cases hk : m.kind = 1
    · rw [if_pos hk, List.any_eq_true] at hg
      obtain ⟨n, hn, hl⟩ := hg
      obtain ⟨j, hj⟩ := List.getElem?_of_mem hn
      rw [List.getElem?_drop] at hj
      refine ⟨i + 1 + j, n, (List.getElem?_eq_some_iff.1 hj).1, hj, ?_⟩
      unfold badB
      rw [if_pos hk, decide_eq_true (by omega)]
      simpa [lateB] using hl
    · rw [if_neg hk, List.any_eq_true] at hg
      obtain ⟨n, hn, hl⟩ := hg
      obtain ⟨j, hj⟩ := List.getElem?_of_mem hn
      rw [List.getElem?_take] at hj
      split at hj
      · refine ⟨j, n, (List.getElem?_eq_some_iff.1 hj).1, hj, ?_⟩
        unfold badB
        rw [if_neg hk, decide_eq_true (by omega), beq_comm, hl]
        rfl
      · cases hj
  | false =>
    rw [Bool.not_false]
    cases hkt : keepTo all i m all.length with
    | true => rfl
    | false =>
      exfalso
      rw [keepTo_false] at hkt
      obtain ⟨j, n, h1, h2, h3⟩ := hkt
      unfold goneB at hg
      unfold badB at h3
      by_cases hk : m.kind = 1
      · rw [if_pos hk] at hg h3
        simp only [Bool.and_eq_true, decide_eq_true_eq] at h3
        have hm : n ∈ all.drop (i + 1) := by
          refine List.mem_of_getElem? (i := j - (i + 1)) ?_
          rw [List.getElem?_drop]
          rw [show i + 1 + (j - (i + 1)) = j by omega]
          exact h2
        have := List.any_eq_false.1 hg n hm
        simp [lateB, h3.2.1, h3.2.2] at this
      · rw [if_neg hk] at hg h3
        simp only [Bool.and_eq_true, decide_eq_true_eq] at h3
        have hm : n ∈ all.take i := by
          refine List.mem_of_getElem? (i := j) ?_
          rw [List.getElem?_take, if_pos h3.1]
          exact h2
        have := List.any_eq_false.1 hg n hm
        rw [beq_comm, h3.2] at this
        exact this rfl

theorem c54 (a b : List Message) (ha : a.length ≤ 1048576) (hb : b.length ≤ 1048576) :
    CallOk Try.prog 54 [.imm (.list (a.map Message.enc)), .imm (.list (b.map Message.enc))] { res := [.arr 163 6 ((mnR a b).map Message.enc), .imm (.bool (mnOk a b))] } := by
  refine callOk_of tyOk Try.func54 rfl rfl (le_of_ble rfl) (le_of_ble rfl) (mutOk_imm rfl _) ?_
  have hA := c130 a ha
  have hB := c130 b hb
  unfold mnR
  cases hab : noticeOk a && noticeOk b with
  | false =>
    have hno : mnOk a b = false := by unfold mnOk; rw [hab]; rfl
    rw [hno]
    repeat' first | refine go_seq ?_ | refine go_region ?_ | refine go_miss rfl rfl rfl ?_ | refine go_undef rfl rfl rfl ?_ | refine go_draw drawsOk ?_ | ((first | refine go_op rfl ?_ | refine go_nil ?_ | refine go_hit rfl rfl rfl ?_ | refine go_splitT rfl rfl rfl (fun h => ?_) (fun h => ?_) | refine go_splitF rfl rfl rfl (fun h => ?_) (fun h => ?_) | refine go_dop rfl ?_ | refine go_dhit rfl rfl ?_ | refine go_dmiss rfl rfl ?_ | refine go_dundef rfl rfl ?_ | refine go_dend (by kernel_rfl) ?_ | refine go_pickT rfl ?_ | refine go_pickF rfl ?_ | refine go_pick rfl (fun h => ?_) (fun h => ?_) | refine go_call [] (hA) rfl rfl rfl rfl ?_ | refine go_call [] (hB) rfl rfl rfl rfl ?_) <;> conv => whnf) | ((first | refine go_dsplit2 rfl (fun h => ?_) (fun h => ?_) | refine go_loadB ?_ | refine ⟨by kernel_rfl, ?_⟩ | refine go_ret ?_) <;> conv => whnf) | refine go_block ?_ | ((first | refine go_skip ?_ | refine go_exit ?_) <;> conv => whnf) | refine go_true rfl ?_ | refine go_false rfl ?_ | refine go_cond rfl (fun h => ?_) (fun h => ?_) | refine ⟨rfl, ?_⟩ | ((first | refine ⟨trivial, ?_⟩ | refine ⟨le_of_ble rfl, ?_⟩) <;> conv => whnf) | fail
    all_goals first
      | exact ret_arr2 rfl rfl rfl rfl rfl rfl (by intro r hr; cases hr) rfl rfl rfl
      | (exfalso; simp_all; done)
      | trace_state
  | true =>
  simp only [Bool.and_eq_true] at hab
  obtain ⟨ha1, hb1⟩ := hab
  have ha2 := notice_10 ha1
  have hb2 := notice_10 hb1
  rw [ha1] at hA
  rw [hb1] at hB
  have hno : mnOk a b = noticeOk (mnAll (a ++ b)) := by unfold mnOk; rw [ha1, hb1]; rfl
  rw [hno]
  have ham : (a ++ b).map Message.enc = a.map Message.enc ++ b.map Message.enc := List.map_append
  have haml : ((a ++ b).map Message.enc).length = 0 + (a.map Message.enc).length + (b.map Message.enc).length := by simp
  have hal : (a ++ b).length ≤ 20 := by rw [List.length_append]; omega
  have hml := mnTo_len (a ++ b) (a ++ b).length
  have hO : CallOk Try.prog 130 [.imm (.list ((((mnAll (a ++ b)).map Message.enc).drop 0).take ((mnAll (a ++ b)).map Message.enc).length))] { res := [.imm (.bool (noticeOk (mnAll (a ++ b))))] } := by
    rw [List.drop_zero, List.take_length]
    exact c130 _ (by unfold mnAll; omega)
  repeat' first | refine go_seq ?_ | refine go_region ?_ | refine go_miss rfl rfl rfl ?_ | refine go_undef rfl rfl rfl ?_ | refine go_draw drawsOk ?_ | ((first | refine go_op rfl ?_ | refine go_nil ?_ | refine go_hit rfl rfl rfl ?_ | refine go_splitT rfl rfl rfl (fun h => ?_) (fun h => ?_) | refine go_splitF rfl rfl rfl (fun h => ?_) (fun h => ?_) | refine go_dop rfl ?_ | refine go_dhit rfl rfl ?_ | refine go_dmiss rfl rfl ?_ | refine go_dundef rfl rfl ?_ | refine go_dend (by kernel_rfl) ?_ | refine go_pickT rfl ?_ | refine go_pickF rfl ?_ | refine go_pick rfl (fun h => ?_) (fun h => ?_) | refine go_call [] (hA) rfl rfl rfl rfl ?_ | refine go_call [] (hB) rfl rfl rfl rfl ?_ | refine go_appImm rfl rfl rfl rfl rfl rfl rfl rfl rfl (message_one' _) rfl rfl (by simp; omega) ?_ | refine go_appImm rfl rfl rfl rfl rfl rfl rfl rfl rfl (message_one' _) rfl (by simp) (by simp; omega) ?_) <;> conv => whnf) | ((first | refine go_dsplit2 rfl (fun h => ?_) (fun h => ?_) | refine go_loadB ?_ | refine ⟨by kernel_rfl, ?_⟩ | refine go_ret ?_) <;> conv => whnf) | refine go_block ?_ | ((first | refine go_skip ?_ | refine go_exit ?_) <;> conv => whnf) | refine go_true rfl ?_ | refine go_false rfl ?_ | refine go_cond rfl (fun h => ?_) (fun h => ?_) | refine ⟨rfl, ?_⟩ | ((first | refine ⟨trivial, ?_⟩ | refine ⟨le_of_ble rfl, ?_⟩) <;> conv => whnf) | fail
  all_goals try first
    | (exfalso; simp at h; done)
  generalize hall : a ++ b = all at *
  refine go_loop (α := Nat) (fun i => i ≤ all.length) (fun i => all.length - i)
    (fun i => st Try.f54.ntmps [(6, .own 1001 0 (all.map Message.enc).length), (7, .own 1000 0 ((mnTo all i).map Message.enc).length), (8, .imm (.int .i64 (i : Nat)))]
      [(1000, .arr 163 6 ((mnTo all i).map Message.enc)), (1001, .arr 163 6 (all.map Message.enc))] []) 0 (Nat.zero_le _) ?_ ?_
  · refine ref_st (fun i => if i = 1000 then nid 4 25 else nid 3 24) rfl ⟨⟨?_, rfl⟩, ⟨rfl, rfl⟩, rfl, trivial⟩ ⟨rfl, ?_, trivial⟩ (by simp [nid]) rfl (by simp)
    · show AV.own _ _ _ = AV.own _ _ _
      rw [haml]; rfl
    · show some _ = some _
      rw [ham]; rfl
  intro i hi
  cases hx : all[i]? with
  | none =>
    have hge := le_of_at hx
    have hie : i = all.length := by omega
    subst hie
    rw [show mnTo all all.length = mnAll all from rfl]
    cases hok : noticeOk (mnAll all) with
    | true =>
      rw [hok] at hO
      rw [if_pos rfl]
      repeat' first | refine go_seq ?_ | refine go_region ?_ | refine go_miss rfl rfl rfl ?_ | refine go_undef rfl rfl rfl ?_ | refine go_draw drawsOk ?_ | ((first | refine go_op rfl ?_ | refine go_nil ?_ | refine go_hit rfl rfl rfl ?_ | refine go_splitT rfl rfl rfl (fun h => ?_) (fun h => ?_) | refine go_splitF rfl rfl rfl (fun h => ?_) (fun h => ?_) | refine go_dop rfl ?_ | refine go_dhit rfl rfl ?_ | refine go_dmiss rfl rfl ?_ | refine go_dundef rfl rfl ?_ | refine go_dend (by kernel_rfl) ?_ | refine go_pickT rfl ?_ | refine go_pickF rfl ?_ | refine go_pick rfl (fun h => ?_) (fun h => ?_) | refine go_call [] (hO) rfl rfl rfl rfl ?_) <;> conv => whnf) | ((first | refine go_dsplit2 rfl (fun h => ?_) (fun h => ?_) | refine go_loadB ?_ | refine ⟨by kernel_rfl, ?_⟩ | refine go_ret ?_) <;> conv => whnf) | refine go_block ?_ | ((first | refine go_skip ?_ | refine go_exit ?_) <;> conv => whnf) | refine go_true rfl ?_ | refine go_false rfl ?_ | refine go_cond rfl (fun h => ?_) (fun h => ?_) | refine ⟨rfl, ?_⟩ | ((first | refine ⟨trivial, ?_⟩ | refine ⟨le_of_ble rfl, ?_⟩) <;> conv => whnf) | fail
      all_goals first
        | exact ret_arr2 rfl rfl rfl rfl rfl (by rw [List.drop_zero, List.take_length]) (message_gr _) rfl rfl rfl
        | (exfalso; simp at h; done)
        | (exfalso; have h' := of_decide_eq_false h; omega)
        | (exfalso; have h' := of_decide_eq_true h; omega)
        | (exfalso; rename_i hq; have h' := of_decide_eq_true hq; omega)
        | (exfalso; rename_i hq; have h' := of_decide_eq_false hq; omega)
        | (exfalso; rename_i hq _; have h' := of_decide_eq_true hq; omega)
        | (exfalso; rename_i hq _; have h' := of_decide_eq_false hq; omega)
        | trace_state
    | false =>
      rw [hok] at hO
      rw [if_neg (by simp)]
      repeat' first | refine go_seq ?_ | refine go_region ?_ | refine go_miss rfl rfl rfl ?_ | refine go_undef rfl rfl rfl ?_ | refine go_draw drawsOk ?_ | ((first | refine go_op rfl ?_ | refine go_nil ?_ | refine go_hit rfl rfl rfl ?_ | refine go_splitT rfl rfl rfl (fun h => ?_) (fun h => ?_) | refine go_splitF rfl rfl rfl (fun h => ?_) (fun h => ?_) | refine go_dop rfl ?_ | refine go_dhit rfl rfl ?_ | refine go_dmiss rfl rfl ?_ | refine go_dundef rfl rfl ?_ | refine go_dend (by kernel_rfl) ?_ | refine go_pickT rfl ?_ | refine go_pickF rfl ?_ | refine go_pick rfl (fun h => ?_) (fun h => ?_) | refine go_call [] (hO) rfl rfl rfl rfl ?_) <;> conv => whnf) | ((first | refine go_dsplit2 rfl (fun h => ?_) (fun h => ?_) | refine go_loadB ?_ | refine ⟨by kernel_rfl, ?_⟩ | refine go_ret ?_) <;> conv => whnf) | refine go_block ?_ | ((first | refine go_skip ?_ | refine go_exit ?_) <;> conv => whnf) | refine go_true rfl ?_ | refine go_false rfl ?_ | refine go_cond rfl (fun h => ?_) (fun h => ?_) | refine ⟨rfl, ?_⟩ | ((first | refine ⟨trivial, ?_⟩ | refine ⟨le_of_ble rfl, ?_⟩) <;> conv => whnf) | fail
      all_goals first
        | exact ret_arr2 rfl rfl rfl rfl rfl rfl (by intro r hr; cases hr) rfl rfl rfl
        | (exfalso; simp at h; done)
        | (exfalso; have h' := of_decide_eq_false h; omega)
        | (exfalso; have h' := of_decide_eq_true h; omega)
        | (exfalso; rename_i hq; have h' := of_decide_eq_true hq; omega)
        | (exfalso; rename_i hq; have h' := of_decide_eq_false hq; omega)
        | (exfalso; rename_i hq _; have h' := of_decide_eq_true hq; omega)
        | (exfalso; rename_i hq _; have h' := of_decide_eq_false hq; omega)
        | trace_state
  | some m =>
    have hlt := lt_of_at hx
    have hr : (all.map Message.enc)[i]? = some m.enc := by simp [hx]
    have hnx := mnTo_next hx
    rw [show goneB all i m = !keepTo all i m all.length by rw [keepTo_gone, Bool.not_not]] at hnx
    have hol := mnTo_len all i
    have hb : ((mnTo all i).map Message.enc).length + 1 ≤ 1073741824 := by rw [List.length_map]; omega
    have hone := message_one [m]
    have hil : i < (all.map Message.enc).length := by rw [List.length_map]; omega
    repeat' first | refine go_seq ?_ | refine go_region ?_ | refine go_miss rfl rfl rfl ?_ | refine go_undef rfl rfl rfl ?_ | refine go_draw drawsOk ?_ | ((first | refine go_op rfl ?_ | refine go_nil ?_ | refine go_hit rfl rfl rfl ?_ | refine go_splitT rfl rfl rfl (fun h => ?_) (fun h => ?_) | refine go_splitF rfl rfl rfl (fun h => ?_) (fun h => ?_) | refine go_dop rfl ?_ | refine go_dhit rfl rfl ?_ | refine go_dmiss rfl rfl ?_ | refine go_dundef rfl rfl ?_ | refine go_dend (by kernel_rfl) ?_ | refine go_pickT rfl ?_ | refine go_pickF rfl ?_ | refine go_pick rfl (fun h => ?_) (fun h => ?_)) <;> conv => whnf) | ((first | refine go_dsplit2 rfl (fun h => ?_) (fun h => ?_) | refine go_loadB ?_ | refine ⟨by kernel_rfl, ?_⟩ | refine go_ret ?_) <;> conv => whnf) | refine go_block ?_ | ((first | refine go_skip ?_ | refine go_exit ?_) <;> conv => whnf) | refine go_true rfl ?_ | refine go_false rfl ?_ | refine go_cond rfl (fun h => ?_) (fun h => ?_) | refine ⟨rfl, ?_⟩ | ((first | refine ⟨trivial, ?_⟩ | refine ⟨le_of_ble rfl, ?_⟩) <;> conv => whnf) | fail
    all_goals try first
      | (exfalso; have h' := of_decide_eq_false h; omega)
      | (exfalso; have h' := of_decide_eq_true h; omega)
      | (exfalso; rename_i hq; have h' := of_decide_eq_true hq; omega)
      | (exfalso; rename_i hq; have h' := of_decide_eq_false hq; omega)
      | (exfalso; rename_i hq _; have h' := of_decide_eq_true hq; omega)
      | (exfalso; rename_i hq _; have h' := of_decide_eq_false hq; omega)
    refine go_loop (α := Nat) (fun k => k ≤ all.length) (fun k => all.length - k)
      (fun k => st Try.f54.ntmps [(6, .own 1001 0 (all.map Message.enc).length), (7, .own 1000 0 ((mnTo all i).map Message.enc).length), (8, .imm (.int .i64 (i : Nat))), (9, .imm (.bool (keepTo all i m k))), (10, .imm (.int .i64 (k : Nat)))]
        [(1000, .arr 163 6 ((mnTo all i).map Message.enc)), (1001, .arr 163 6 (all.map Message.enc))] []) 0 (Nat.zero_le _) ?_ ?_
    · exact ref_st id rfl ⟨⟨rfl, rfl⟩, ⟨rfl, rfl⟩, rfl, rfl, rfl, trivial⟩ ⟨rfl, rfl, trivial⟩ (by simp) rfl (by simp)
    intro k hk
    cases hy : all[k]? with
    | none =>
      have hge := le_of_at hy
      have hke : k = all.length := by omega
      subst hke
      cases hq : keepTo all i m all.length with
      | true =>
        rw [hq, if_neg (by simp)] at hnx
        repeat' first | refine go_seq ?_ | refine go_region ?_ | refine go_miss rfl rfl rfl ?_ | refine go_undef rfl rfl rfl ?_ | refine go_draw drawsOk ?_ | ((first | refine go_op rfl ?_ | refine go_nil ?_ | refine go_hit rfl rfl rfl ?_ | refine go_splitT rfl rfl rfl (fun h => ?_) (fun h => ?_) | refine go_splitF rfl rfl rfl (fun h => ?_) (fun h => ?_) | refine go_dop rfl ?_ | refine go_dhit rfl rfl ?_ | refine go_dmiss rfl rfl ?_ | refine go_dundef rfl rfl ?_ | refine go_dend (by kernel_rfl) ?_ | refine go_pickT rfl ?_ | refine go_pickF rfl ?_ | refine go_pick rfl (fun h => ?_) (fun h => ?_) | refine go_idxOwn rfl rfl rfl rfl rfl rfl (by simp; omega) ?_ | refine go_loadEl rfl rfl rfl hr ?_ | refine go_append (rows2 := [m].map Message.enc) rfl rfl rfl rfl rfl rfl rfl rfl rfl rfl rfl rfl hone rfl rfl rfl hb ?_) <;> conv => whnf) | ((first | refine go_dsplit2 rfl (fun h => ?_) (fun h => ?_) | refine go_loadB ?_ | refine ⟨by kernel_rfl, ?_⟩ | refine go_ret ?_) <;> conv => whnf) | refine go_block ?_ | ((first | refine go_skip ?_ | refine go_exit ?_) <;> conv => whnf) | refine go_true rfl ?_ | refine go_false rfl ?_ | refine go_cond rfl (fun h => ?_) (fun h => ?_) | refine ⟨rfl, ?_⟩ | ((first | refine ⟨trivial, ?_⟩ | refine ⟨le_of_ble rfl, ?_⟩) <;> conv => whnf) | fail
        all_goals first
          | (refine go_next (i + 1) (by omega) (by omega) (ref_st (fun i => if i = 1000 then nid 4 97 else 1001) rfl ⟨⟨rfl, rfl⟩, ⟨?_, rfl⟩, next_i (by omega), trivial⟩ ⟨?_, rfl, trivial⟩ (by simp [nid]) rfl (by simp))
             · show AV.own _ _ _ = AV.own _ _ _
               rw [hnx, List.map_append, List.length_append]; try rfl
             · show some _ = some _
               rw [hnx, List.map_append]; try rfl
             done)
          | (exfalso; have h' := of_decide_eq_false h; omega)
          | (exfalso; have h' := of_decide_eq_true h; omega)
          | (exfalso; rename_i hq; have h' := of_decide_eq_true hq; omega)
          | (exfalso; rename_i hq; have h' := of_decide_eq_false hq; omega)
          | (exfalso; rename_i hq _; have h' := of_decide_eq_true hq; omega)
          | (exfalso; rename_i hq _; have h' := of_decide_eq_false hq; omega)
          | (exfalso; simp at h; done)
          | (exfalso; rename_i q1; simp at q1; done)
          | (exfalso; rename_i q1 q2; simp at q1; done)
          | (exfalso; rename_i q1 q2 q3; simp at q1; done)
          | trace_state
      | false =>
        rw [hq, Bool.not_false, if_pos rfl, List.append_nil] at hnx
        repeat' first | refine go_seq ?_ | refine go_region ?_ | refine go_miss rfl rfl rfl ?_ | refine go_undef rfl rfl rfl ?_ | refine go_draw drawsOk ?_ | ((first | refine go_op rfl ?_ | refine go_nil ?_ | refine go_hit rfl rfl rfl ?_ | refine go_splitT rfl rfl rfl (fun h => ?_) (fun h => ?_) | refine go_splitF rfl rfl rfl (fun h => ?_) (fun h => ?_) | refine go_dop rfl ?_ | refine go_dhit rfl rfl ?_ | refine go_dmiss rfl rfl ?_ | refine go_dundef rfl rfl ?_ | refine go_dend (by kernel_rfl) ?_ | refine go_pickT rfl ?_ | refine go_pickF rfl ?_ | refine go_pick rfl (fun h => ?_) (fun h => ?_)) <;> conv => whnf) | ((first | refine go_dsplit2 rfl (fun h => ?_) (fun h => ?_) | refine go_loadB ?_ | refine ⟨by kernel_rfl, ?_⟩ | refine go_ret ?_) <;> conv => whnf) | refine go_block ?_ | ((first | refine go_skip ?_ | refine go_exit ?_) <;> conv => whnf) | refine go_true rfl ?_ | refine go_false rfl ?_ | refine go_cond rfl (fun h => ?_) (fun h => ?_) | refine ⟨rfl, ?_⟩ | ((first | refine ⟨trivial, ?_⟩ | refine ⟨le_of_ble rfl, ?_⟩) <;> conv => whnf) | fail
        all_goals first
          | (refine go_next (i + 1) (by omega) (by omega) (ref_st id rfl ⟨⟨rfl, rfl⟩, ⟨?_, rfl⟩, next_i (by omega), trivial⟩ ⟨?_, rfl, trivial⟩ (by simp) rfl (by simp))
             · show AV.own _ _ _ = AV.own _ _ _
               rw [hnx]; try rfl
             · show some _ = some _
               rw [hnx]; try rfl
             done)
          | (exfalso; have h' := of_decide_eq_false h; omega)
          | (exfalso; have h' := of_decide_eq_true h; omega)
          | (exfalso; rename_i hq; have h' := of_decide_eq_true hq; omega)
          | (exfalso; rename_i hq; have h' := of_decide_eq_false hq; omega)
          | (exfalso; rename_i hq _; have h' := of_decide_eq_true hq; omega)
          | (exfalso; rename_i hq _; have h' := of_decide_eq_false hq; omega)
          | (exfalso; simp at h; done)
          | (exfalso; rename_i q1; simp at q1; done)
          | (exfalso; rename_i q1 q2; simp at q1; done)
          | (exfalso; rename_i q1 q2 q3; simp at q1; done)
          | trace_state
    | some n =>
      have hlt2 := lt_of_at hy
      have hr2 : (all.map Message.enc)[k]? = some n.enc := by simp [hy]
      have hkl : k < (all.map Message.enc).length := by rw [List.length_map]; omega
      have hkx := keepTo_next (i := i) (m := m) hy
      generalize keepTo all i m k = q at *
      by_cases hkd : m.kind = 1
      · skip
        repeat' first | refine go_seq ?_ | refine go_region ?_ | refine go_miss rfl rfl rfl ?_ | refine go_undef rfl rfl rfl ?_ | refine go_draw drawsOk ?_ | ((first | refine go_op rfl ?_ | refine go_nil ?_ | refine go_hit rfl rfl rfl ?_ | refine go_splitT rfl rfl rfl (fun h => ?_) (fun h => ?_) | refine go_splitF rfl rfl rfl (fun h => ?_) (fun h => ?_) | refine go_dop rfl ?_ | refine go_dhit rfl rfl ?_ | refine go_dmiss rfl rfl ?_ | refine go_dundef rfl rfl ?_ | refine go_dend (by kernel_rfl) ?_ | refine go_pickT rfl ?_ | refine go_pickF rfl ?_ | refine go_pick rfl (fun h => ?_) (fun h => ?_) | refine go_idxOwn rfl rfl rfl rfl rfl rfl hil ?_ | refine go_loadEl rfl rfl rfl hr ?_ | refine go_idxOwn rfl rfl rfl rfl rfl rfl hkl ?_ | refine go_loadEl rfl rfl rfl hr2 ?_) <;> conv => whnf) | ((first | refine go_dsplit2 rfl (fun h => ?_) (fun h => ?_) | refine go_loadB ?_ | refine ⟨by kernel_rfl, ?_⟩ | refine go_ret ?_) <;> conv => whnf) | refine go_block ?_ | ((first | refine go_skip ?_ | refine go_exit ?_) <;> conv => whnf) | refine go_true rfl ?_ | refine go_false rfl ?_ | refine go_cond rfl (fun h => ?_) (fun h => ?_) | refine ⟨rfl, ?_⟩ | ((first | refine ⟨trivial, ?_⟩ | refine ⟨le_of_ble rfl, ?_⟩) <;> conv => whnf) | fail
        all_goals first
          | (refine go_next (k + 1) (by omega) (by omega) (ref_st id rfl ⟨⟨rfl, rfl⟩, ⟨rfl, rfl⟩, rfl, ?_, next_i (by omega), trivial⟩ ⟨rfl, rfl, trivial⟩ (by simp) rfl (by simp))
             show AV.imm _ = AV.imm _
             rw [hkx]
             simp_all [badB]
             done)
          | (refine go_next (k + 1) (by omega) (by omega) (ref_st id rfl ⟨⟨rfl, rfl⟩, ⟨rfl, rfl⟩, rfl, ?_, next_i (by omega), trivial⟩ ⟨rfl, rfl, trivial⟩ (by simp) rfl (by simp))
             show AV.imm _ = AV.imm _
             rw [hkx]
             simp_all [badB, Message.beq, Bool.and_assoc]
             done)
          | (exfalso; have h' := of_decide_eq_false h; omega)
          | (exfalso; have h' := of_decide_eq_true h; omega)
          | (exfalso; rename_i hq; have h' := of_decide_eq_true hq; omega)
          | (exfalso; rename_i hq; have h' := of_decide_eq_false hq; omega)
          | (exfalso; rename_i hq _; have h' := of_decide_eq_true hq; omega)
          | (exfalso; rename_i hq _; have h' := of_decide_eq_false hq; omega)
          | (exfalso; simp at h; done)
          | (exfalso; rename_i q1; simp at q1; done)
          | trace_state
      · skip
        repeat' first | refine go_seq ?_ | refine go_region ?_ | refine go_miss rfl rfl rfl ?_ | refine go_undef rfl rfl rfl ?_ | refine go_draw drawsOk ?_ | ((first | refine go_op rfl ?_ | refine go_nil ?_ | refine go_hit rfl rfl rfl ?_ | refine go_splitT rfl rfl rfl (fun h => ?_) (fun h => ?_) | refine go_splitF rfl rfl rfl (fun h => ?_) (fun h => ?_) | refine go_dop rfl ?_ | refine go_dhit rfl rfl ?_ | refine go_dmiss rfl rfl ?_ | refine go_dundef rfl rfl ?_ | refine go_dend (by kernel_rfl) ?_ | refine go_pickT rfl ?_ | refine go_pickF rfl ?_ | refine go_pick rfl (fun h => ?_) (fun h => ?_) | refine go_idxOwn rfl rfl rfl rfl rfl rfl hil ?_ | refine go_loadEl rfl rfl rfl hr ?_ | refine go_idxOwn rfl rfl rfl rfl rfl rfl hkl ?_ | refine go_loadEl rfl rfl rfl hr2 ?_) <;> conv => whnf) | ((first | refine go_dsplit2 rfl (fun h => ?_) (fun h => ?_) | refine go_loadB ?_ | refine ⟨by kernel_rfl, ?_⟩ | refine go_ret ?_) <;> conv => whnf) | refine go_block ?_ | ((first | refine go_skip ?_ | refine go_exit ?_) <;> conv => whnf) | refine go_true rfl ?_ | refine go_false rfl ?_ | refine go_cond rfl (fun h => ?_) (fun h => ?_) | refine ⟨rfl, ?_⟩ | ((first | refine ⟨trivial, ?_⟩ | refine ⟨le_of_ble rfl, ?_⟩) <;> conv => whnf) | fail
        all_goals first
          | (refine go_next (k + 1) (by omega) (by omega) (ref_st id rfl ⟨⟨rfl, rfl⟩, ⟨rfl, rfl⟩, rfl, ?_, next_i (by omega), trivial⟩ ⟨rfl, rfl, trivial⟩ (by simp) rfl (by simp))
             show AV.imm _ = AV.imm _
             rw [hkx]
             simp_all [badB]
             done)
          | (refine go_next (k + 1) (by omega) (by omega) (ref_st id rfl ⟨⟨rfl, rfl⟩, ⟨rfl, rfl⟩, rfl, ?_, next_i (by omega), trivial⟩ ⟨rfl, rfl, trivial⟩ (by simp) rfl (by simp))
             show AV.imm _ = AV.imm _
             rw [hkx]
             simp_all [badB, Message.beq, Bool.and_assoc]
             done)
          | (exfalso; have h' := of_decide_eq_false h; omega)
          | (exfalso; have h' := of_decide_eq_true h; omega)
          | (exfalso; rename_i hq; have h' := of_decide_eq_true hq; omega)
          | (exfalso; rename_i hq; have h' := of_decide_eq_false hq; omega)
          | (exfalso; rename_i hq _; have h' := of_decide_eq_true hq; omega)
          | (exfalso; rename_i hq _; have h' := of_decide_eq_false hq; omega)
          | (exfalso; simp at h; done)
          | (exfalso; rename_i q1; simp at q1; done)
          | trace_state
end Go.Proofs.Ytbjjhiihoiogoaa

