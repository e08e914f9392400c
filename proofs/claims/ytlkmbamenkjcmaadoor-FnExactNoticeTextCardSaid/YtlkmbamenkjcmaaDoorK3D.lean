/- The walks of a notice's text, and the law of NoticeText, walked. -/
import Derived.Test.YtlkmbamenkjcmaaDoorK2D
import Derived.Test.YtlkmbamenkjcmaaDoorM4D
import Derived.Test.YtlkmbamenkjcmaaDoorAmJ
namespace Go.Proofs.YtlkmbamenkjcmaaDoor
open Go Go.Am
set_option maxRecDepth 100000
set_option maxHeartbeats 4000000
attribute [local irreducible] amOps amC opCall opIndexAddr opPick retQ opMake opStore amDraw opAppend opLoad opNilCmp opIndex opSlice

theorem txt_len {m : Message} (h : msgOk m = true) : (txt m).length ≤ 3000 := by
  obtain ⟨⟨pl, ps, pf, pt, pm⟩, _⟩ := parts_of h
  have hl := bytes_len m.line
  have hs := bytes_len m.stop
  have hcl : (clockL m.fro.toNat).length = 5 := rfl
  have hct : (clockL m.to.toNat).length = 5 := rfl
  have hn : (numT m.mins.toNat).length ≤ 3 + 1 := Lg.num_len 3 m.mins.toNat (by omega)
  unfold txt
  split
  · split
    · unfold txt_d1; simp only [List.length_append, List.length_cons, List.length_nil]; omega
    · unfold txt_dn; simp only [List.length_append, List.length_cons, List.length_nil]; omega
  · split
    · unfold txt_c; simp only [List.length_append, List.length_cons, List.length_nil]; omega
    · split
      · unfold txt_s; simp only [List.length_append, List.length_cons, List.length_nil]; omega
      · split
        · unfold txt_r; simp only [List.length_append, List.length_cons, List.length_nil]; omega
        · unfold txt_w; simp only [List.length_append, List.length_cons, List.length_nil]; omega

def accL (xs : List Message) (i : Nat) : List UInt8 := Lib.join ((xs.take i).map txt) [32]
theorem tail_snoc (sep : List UInt8) (r : List (List UInt8)) (y : List UInt8) : Lib.joinTail sep (r ++ [y]) = Lib.joinTail sep r ++ (sep ++ y) := by simp [Lib.joinTail]
theorem join_snoc (r : List (List UInt8)) (y sep : List UInt8) (h : r ≠ []) : Lib.join (r ++ [y]) sep = Lib.join r sep ++ (sep ++ y) := by
  cases r with
  | nil => exact absurd rfl h
  | cons x r => rw [List.cons_append, Lib.join_cons, Lib.join_cons, tail_snoc, List.append_assoc]
theorem acc_first {xs : List Message} {v : Message} (h : xs[0]? = some v) : accL xs 1 = txt v := by
  unfold accL
  rw [List.take_add_one, h]
  simp [Lib.join_one]
theorem acc_next {xs : List Message} {i : Nat} {v : Message} (h : xs[i]? = some v) (hi : i ≠ 0) : accL xs (i + 1) = accL xs i ++ ([32] ++ txt v) := by
  unfold accL
  rw [List.take_add_one, h]
  simp only [Option.toList_some, List.map_append, List.map_cons, List.map_nil]
  refine join_snoc _ _ _ fun e => ?_
  have := congrArg List.length e
  have hl := lt_of_at h
  rw [List.length_map, List.length_take, Nat.min_eq_left (by omega)] at this
  exact hi this

def ntR (xs : List Message) : List UInt8 := if noticeOk xs then Lib.join (xs.map txt) [32] else []
theorem acc_end {xs : List Message} {i : Nat} (h : xs.length ≤ i) : accL xs i = Lib.join (xs.map txt) [32] := by unfold accL; rw [List.take_of_length_le h]
theorem notice_of {xs : List Message} (h : noticeOk xs = true) : xs.length ≤ 10 ∧ ∀ v ∈ xs, msgOk v = true := by
  unfold noticeOk at h
  simp only [Bool.and_eq_true, decide_eq_true_eq] at h
  exact ⟨h.1, List.all_eq_true.1 h.2⟩

theorem c11 (xs : List Message) (hl : xs.length ≤ 1048576) : CallOk Tryd.prog 11 [.imm (.list (xs.map Message.enc))] { res := [.imm (.str (ofL (ntR xs))), .imm (.bool (noticeOk xs))] } := by
  refine callOk_of tyOk Tryd.func11 rfl rfl (le_of_ble rfl) (le_of_ble rfl) (mutOk_imm rfl _) ?_
  have hg := c23 xs hl
  cases hv : noticeOk xs with
  | false =>
    have hr : ntR xs = [] := by unfold ntR; rw [hv]; rfl
    rw [hv] at hg
    rw [hr]
    repeat' first
      | refine go_seq ?_
      | refine go_region ?_
      | (refine go_op rfl ?_; conv => whnf)
      | (refine go_nil ?_; conv => whnf)
      | (refine go_hit rfl rfl rfl ?_; conv => whnf)
      | (refine go_miss rfl rfl rfl ?_)
      | (refine go_undef rfl rfl rfl ?_)
      | (refine go_splitT rfl rfl rfl (fun h => ?_) (fun h => ?_) <;> conv => whnf)
      | (refine go_splitF rfl rfl rfl (fun h => ?_) (fun h => ?_) <;> conv => whnf)
      | (refine go_storeBox rfl rfl rfl rfl rfl rfl ?_; conv => whnf)
      | (refine go_dop rfl ?_; conv => whnf)
      | (refine go_dhit rfl rfl ?_; conv => whnf)
      | (refine go_dmiss rfl rfl ?_; conv => whnf)
      | (refine go_dundef rfl rfl ?_; conv => whnf)
      | (refine go_dend (by kernel_rfl) ?_; conv => whnf)
      | refine go_draw drawsOk ?_
      | (refine go_pickT rfl ?_; conv => whnf)
      | (refine go_pickF rfl ?_; conv => whnf)
      | (refine go_pick rfl (fun h => ?_) (fun h => ?_) <;> conv => whnf)
      | (refine go_call [] (hg) rfl rfl rfl rfl ?_; conv => whnf)
      | (refine go_dsplit2 rfl (fun h => ?_) (fun h => ?_) <;> conv => whnf)
      | (refine go_loadB ?_; conv => whnf)
      | (refine ⟨by kernel_rfl, ?_⟩; conv => whnf)
      | (refine go_ret ?_; conv => whnf)
      | refine go_block ?_
      | (refine go_skip ?_; conv => whnf)
      | (refine go_exit ?_; conv => whnf)
      | refine go_true rfl ?_
      | refine go_false rfl ?_
      | refine go_cond rfl (fun h => ?_) (fun h => ?_)
      | refine ⟨rfl, ?_⟩
      | (refine ⟨trivial, ?_⟩; conv => whnf)
      | (refine ⟨le_of_ble rfl, ?_⟩; conv => whnf)
      | fail
    all_goals exact ret_imm2 rfl rfl rfl rfl rfl rfl rfl rfl
  | true =>
    obtain ⟨h10, hok⟩ := notice_of hv
    have hr : ntR xs = Lib.join (xs.map txt) [32] := by unfold ntR; rw [hv]; rfl
    rw [hv] at hg
    rw [hr]
    repeat' first
      | refine go_seq ?_
      | refine go_region ?_
      | (refine go_op rfl ?_; conv => whnf)
      | (refine go_nil ?_; conv => whnf)
      | (refine go_hit rfl rfl rfl ?_; conv => whnf)
      | (refine go_miss rfl rfl rfl ?_)
      | (refine go_undef rfl rfl rfl ?_)
      | (refine go_splitT rfl rfl rfl (fun h => ?_) (fun h => ?_) <;> conv => whnf)
      | (refine go_splitF rfl rfl rfl (fun h => ?_) (fun h => ?_) <;> conv => whnf)
      | (refine go_storeBox rfl rfl rfl rfl rfl rfl ?_; conv => whnf)
      | (refine go_dop rfl ?_; conv => whnf)
      | (refine go_dhit rfl rfl ?_; conv => whnf)
      | (refine go_dmiss rfl rfl ?_; conv => whnf)
      | (refine go_dundef rfl rfl ?_; conv => whnf)
      | (refine go_dend (by kernel_rfl) ?_; conv => whnf)
      | refine go_draw drawsOk ?_
      | (refine go_pickT rfl ?_; conv => whnf)
      | (refine go_pickF rfl ?_; conv => whnf)
      | (refine go_pick rfl (fun h => ?_) (fun h => ?_) <;> conv => whnf)
      | (refine go_call [] (hg) rfl rfl rfl rfl ?_; conv => whnf)
      | (refine go_dsplit2 rfl (fun h => ?_) (fun h => ?_) <;> conv => whnf)
      | (refine go_loadB ?_; conv => whnf)
      | (refine ⟨by kernel_rfl, ?_⟩; conv => whnf)
      | (refine go_ret ?_; conv => whnf)
      | refine go_block ?_
      | (refine go_skip ?_; conv => whnf)
      | (refine go_exit ?_; conv => whnf)
      | refine go_true rfl ?_
      | refine go_false rfl ?_
      | refine go_cond rfl (fun h => ?_) (fun h => ?_)
      | refine ⟨rfl, ?_⟩
      | (refine ⟨trivial, ?_⟩; conv => whnf)
      | (refine ⟨le_of_ble rfl, ?_⟩; conv => whnf)
      | fail
    refine go_loop (α := Nat) (fun i => i ≤ xs.length ∧ (accL xs i).length ≤ 3100 * i) (fun i => xs.length - i)
      (fun i => st Tryd.f11.ntmps [(0, .imm (.list (xs.map Message.enc))), (4, .imm (.str (ofL (accL xs i)))), (5, .imm (.int .i64 (i : Nat)))] [] []) 0 ⟨Nat.zero_le _, Nat.le_refl _⟩
      (ref_st0 rfl ⟨rfl, rfl, rfl, trivial⟩ rfl) ?_
    rintro i ⟨hi, ha⟩
    cases hx : xs[i]? with
    | none =>
      have hge := le_of_at hx
      rw [acc_end hge]
      repeat' first
        | refine go_seq ?_
        | refine go_region ?_
        | (refine go_op rfl ?_; conv => whnf)
        | (refine go_nil ?_; conv => whnf)
        | (refine go_hit rfl rfl rfl ?_; conv => whnf)
        | (refine go_miss rfl rfl rfl ?_)
        | (refine go_undef rfl rfl rfl ?_)
        | (refine go_splitT rfl rfl rfl (fun h => ?_) (fun h => ?_) <;> conv => whnf)
        | (refine go_splitF rfl rfl rfl (fun h => ?_) (fun h => ?_) <;> conv => whnf)
        | (refine go_storeBox rfl rfl rfl rfl rfl rfl ?_; conv => whnf)
        | (refine go_dop rfl ?_; conv => whnf)
        | (refine go_dhit rfl rfl ?_; conv => whnf)
        | (refine go_dmiss rfl rfl ?_; conv => whnf)
        | (refine go_dundef rfl rfl ?_; conv => whnf)
        | (refine go_dend (by kernel_rfl) ?_; conv => whnf)
        | refine go_draw drawsOk ?_
        | (refine go_pickT rfl ?_; conv => whnf)
        | (refine go_pickF rfl ?_; conv => whnf)
        | (refine go_pick rfl (fun h => ?_) (fun h => ?_) <;> conv => whnf)
        | (refine go_dsplit2 rfl (fun h => ?_) (fun h => ?_) <;> conv => whnf)
        | (refine go_loadB ?_; conv => whnf)
        | (refine ⟨by kernel_rfl, ?_⟩; conv => whnf)
        | (refine go_ret ?_; conv => whnf)
        | refine go_block ?_
        | (refine go_skip ?_; conv => whnf)
        | (refine go_exit ?_; conv => whnf)
        | refine go_true rfl ?_
        | refine go_false rfl ?_
        | refine go_cond rfl (fun h => ?_) (fun h => ?_)
        | refine ⟨rfl, ?_⟩
        | (refine ⟨trivial, ?_⟩; conv => whnf)
        | (refine ⟨le_of_ble rfl, ?_⟩; conv => whnf)
        | fail
      all_goals first
        | exact ret_imm2 rfl rfl rfl rfl rfl rfl rfl rfl
        | (exfalso; rename_i hq; simp at hq; omega)
        | (exfalso; simp at h; omega)
        | trace_state
    | some v =>
      have hlt := lt_of_at hx
      have hrw := row_at Message.enc hx
      have hmo := hok v (List.mem_of_getElem? hx)
      have ht := c20 v hmo
      have htl := txt_len hmo
      have hml : ((xs.map Message.enc).length : Int) = xs.length := by rw [List.length_map]
      by_cases hi0 : i = 0
      · subst hi0
        have hn := acc_first hx
        have he : ofL (accL xs 0) ++ ofL (txt v) = ofL (accL xs 1) := by rw [ofL_app, hn]; rfl
        repeat' first
          | refine go_seq ?_
          | refine go_region ?_
          | (refine go_op rfl ?_; conv => whnf)
          | (refine go_nil ?_; conv => whnf)
          | (refine go_hit rfl rfl rfl ?_; conv => whnf)
          | (refine go_miss rfl rfl rfl ?_)
          | (refine go_undef rfl rfl rfl ?_)
          | (refine go_splitT rfl rfl rfl (fun h => ?_) (fun h => ?_) <;> conv => whnf)
          | (refine go_splitF rfl rfl rfl (fun h => ?_) (fun h => ?_) <;> conv => whnf)
          | (refine go_storeBox rfl rfl rfl rfl rfl rfl ?_; conv => whnf)
          | (refine go_dop rfl ?_; conv => whnf)
          | (refine go_dhit rfl rfl ?_; conv => whnf)
          | (refine go_dmiss rfl rfl ?_; conv => whnf)
          | (refine go_dundef rfl rfl ?_; conv => whnf)
          | (refine go_dend (by kernel_rfl) ?_; conv => whnf)
          | refine go_draw drawsOk ?_
          | (refine go_pickT rfl ?_; conv => whnf)
          | (refine go_pickF rfl ?_; conv => whnf)
          | (refine go_pick rfl (fun h => ?_) (fun h => ?_) <;> conv => whnf)
          | (refine go_call [] (ht) rfl rfl rfl rfl ?_; conv => whnf)
          | (refine go_idx rfl rfl rfl rfl (by omega) hrw rfl ?_; conv => whnf)
          | (refine ⟨by simp only [ByteArray.size_append, ofL_size, szLit, List.length_cons, List.length_nil]; omega, ?_⟩; conv => whnf)
          | (refine go_dsplit2 rfl (fun h => ?_) (fun h => ?_) <;> conv => whnf)
          | (refine go_loadB ?_; conv => whnf)
          | (refine ⟨by kernel_rfl, ?_⟩; conv => whnf)
          | (refine go_ret ?_; conv => whnf)
          | refine go_block ?_
          | (refine go_skip ?_; conv => whnf)
          | (refine go_exit ?_; conv => whnf)
          | refine go_true rfl ?_
          | refine go_false rfl ?_
          | refine go_cond rfl (fun h => ?_) (fun h => ?_)
          | refine ⟨rfl, ?_⟩
          | (refine ⟨trivial, ?_⟩; conv => whnf)
          | (refine ⟨le_of_ble rfl, ?_⟩; conv => whnf)
          | fail
        all_goals first
          | (exfalso; simp at h; done)
          | (exfalso; have h' := of_decide_eq_false h; omega)
          | (exfalso; simp at h; omega)
          | exact go_next 1 ⟨by omega, by rw [hn]; omega⟩ (by omega) (ref_st0 rfl ⟨rfl, congrArg (fun z => AV.imm (D.str z)) he, next_i (by omega), trivial⟩ rfl)
          | trace_state
      · have hn := acc_next hx hi0
        have he : ofL (accL xs i) ++ ofL [32] ++ ofL (txt v) = ofL (accL xs (i + 1)) := by rw [ofL_app, ofL_app, hn, List.append_assoc]
        repeat' first
          | refine go_seq ?_
          | refine go_region ?_
          | (refine go_op rfl ?_; conv => whnf)
          | (refine go_nil ?_; conv => whnf)
          | (refine go_hit rfl rfl rfl ?_; conv => whnf)
          | (refine go_miss rfl rfl rfl ?_)
          | (refine go_undef rfl rfl rfl ?_)
          | (refine go_splitT rfl rfl rfl (fun h => ?_) (fun h => ?_) <;> conv => whnf)
          | (refine go_splitF rfl rfl rfl (fun h => ?_) (fun h => ?_) <;> conv => whnf)
          | (refine go_storeBox rfl rfl rfl rfl rfl rfl ?_; conv => whnf)
          | (refine go_dop rfl ?_; conv => whnf)
          | (refine go_dhit rfl rfl ?_; conv => whnf)
          | (refine go_dmiss rfl rfl ?_; conv => whnf)
          | (refine go_dundef rfl rfl ?_; conv => whnf)
          | (refine go_dend (by kernel_rfl) ?_; conv => whnf)
          | refine go_draw drawsOk ?_
          | (refine go_pickT rfl ?_; conv => whnf)
          | (refine go_pickF rfl ?_; conv => whnf)
          | (refine go_pick rfl (fun h => ?_) (fun h => ?_) <;> conv => whnf)
          | (refine go_call [] (ht) rfl rfl rfl rfl ?_; conv => whnf)
          | (refine go_idx rfl rfl rfl rfl (by omega) hrw rfl ?_; conv => whnf)
          | (refine ⟨by simp only [ByteArray.size_append, ofL_size, szLit, List.length_cons, List.length_nil]; omega, ?_⟩; conv => whnf)
          | (refine go_dsplit2 rfl (fun h => ?_) (fun h => ?_) <;> conv => whnf)
          | (refine go_loadB ?_; conv => whnf)
          | (refine ⟨by kernel_rfl, ?_⟩; conv => whnf)
          | (refine go_ret ?_; conv => whnf)
          | refine go_block ?_
          | (refine go_skip ?_; conv => whnf)
          | (refine go_exit ?_; conv => whnf)
          | refine go_true rfl ?_
          | refine go_false rfl ?_
          | refine go_cond rfl (fun h => ?_) (fun h => ?_)
          | refine ⟨rfl, ?_⟩
          | (refine ⟨trivial, ?_⟩; conv => whnf)
          | (refine ⟨le_of_ble rfl, ?_⟩; conv => whnf)
          | fail
        all_goals first
          | (exfalso; simp at h; omega)
          | exact go_next (i + 1) ⟨by omega, by rw [hn]; simp only [List.length_append, List.length_cons, List.length_nil]; omega⟩ (by omega) (ref_st0 rfl ⟨rfl, congrArg (fun z => AV.imm (D.str z)) he, next_i (by omega), trivial⟩ rfl)
          | trace_state

def txtRow (m : Message) : List D := [.str (ofL (txt m))]
theorem txt_rows (xs : List Message) : xs.map txtRow = (xs.map fun m => ofL (txt m)).map fun s => [D.str s] := by rw [List.map_map]; rfl
theorem join_bytes (xs : List Message) : (xs.map fun m => ofL (txt m)).map (·.data.toList) = xs.map txt := by rw [List.map_map]; rfl
theorem acc_len {xs : List Message} (hok : ∀ v ∈ xs, msgOk v = true) : ∀ i, (accL xs i).length ≤ 3100 * i
  | 0 => Nat.le_refl _
  | i + 1 => by
    have ih := acc_len hok i
    cases hx : xs[i]? with
    | none =>
      have hge := le_of_at hx
      rw [acc_end (by omega), ← acc_end hge]
      omega
    | some v =>
      have htl := txt_len (hok v (List.mem_of_getElem? hx))
      by_cases hi0 : i = 0
      · subst hi0
        rw [acc_first hx]; omega
      · rw [acc_next hx hi0]
        simp only [List.length_append, List.length_cons, List.length_nil]; omega

theorem c13 (xs : List Message) (hl : xs.length ≤ 1048576) : CallOk Tryd.prog 13 [.imm (.list (xs.map Message.enc))] { res := [.imm (.str (ofL (ntR xs))), .imm (.bool (noticeOk xs))] } := by
  refine callOk_of tyOk Tryd.func13 rfl rfl (le_of_ble rfl) (le_of_ble rfl) (mutOk_imm rfl _) ?_
  have hg := c24 xs hl
  have hll : (xs.map Message.enc).length = xs.length := List.length_map _
  cases hv : noticeOk xs with
  | false =>
    have hr : ntR xs = [] := by unfold ntR; rw [hv]; rfl
    rw [hv] at hg
    rw [hr]
    repeat' first
      | refine go_seq ?_
      | refine go_region ?_
      | (refine go_op rfl ?_; conv => whnf)
      | (refine go_nil ?_; conv => whnf)
      | (refine go_hit rfl rfl rfl ?_; conv => whnf)
      | (refine go_miss rfl rfl rfl ?_)
      | (refine go_undef rfl rfl rfl ?_)
      | (refine go_splitT rfl rfl rfl (fun h => ?_) (fun h => ?_) <;> conv => whnf)
      | (refine go_splitF rfl rfl rfl (fun h => ?_) (fun h => ?_) <;> conv => whnf)
      | (refine go_storeBox rfl rfl rfl rfl rfl rfl ?_; conv => whnf)
      | (refine go_dop rfl ?_; conv => whnf)
      | (refine go_dhit rfl rfl ?_; conv => whnf)
      | (refine go_dmiss rfl rfl ?_; conv => whnf)
      | (refine go_dundef rfl rfl ?_; conv => whnf)
      | (refine go_dend (by kernel_rfl) ?_; conv => whnf)
      | refine go_draw drawsOk ?_
      | (refine go_pickT rfl ?_; conv => whnf)
      | (refine go_pickF rfl ?_; conv => whnf)
      | (refine go_pick rfl (fun h => ?_) (fun h => ?_) <;> conv => whnf)
      | (refine go_call [] (hg) rfl rfl rfl rfl ?_; conv => whnf)
      | (refine go_dsplit2 rfl (fun h => ?_) (fun h => ?_) <;> conv => whnf)
      | (refine go_loadB ?_; conv => whnf)
      | (refine ⟨by kernel_rfl, ?_⟩; conv => whnf)
      | (refine go_ret ?_; conv => whnf)
      | refine go_block ?_
      | (refine go_skip ?_; conv => whnf)
      | (refine go_exit ?_; conv => whnf)
      | refine go_true rfl ?_
      | refine go_false rfl ?_
      | refine go_cond rfl (fun h => ?_) (fun h => ?_)
      | refine ⟨rfl, ?_⟩
      | (refine ⟨trivial, ?_⟩; conv => whnf)
      | (refine ⟨le_of_ble rfl, ?_⟩; conv => whnf)
      | fail
    all_goals exact ret_imm2 rfl rfl rfl rfl rfl rfl rfl rfl
  | true =>
    obtain ⟨h10, hok⟩ := notice_of hv
    have hr : ntR xs = Lib.join (xs.map txt) [32] := by unfold ntR; rw [hv]; rfl
    have hjl := acc_len hok xs.length
    rw [acc_end (Nat.le_refl _)] at hjl
    have hj : CallOk Tryd.prog 25 [.imm (.list (((xs.map txtRow).drop 0).take (xs.map Message.enc).length)), .imm (.str ⟨#[32]⟩)] { res := [.imm (.str (ofL (Lib.join (xs.map txt) [32])))] } := by
      rw [List.drop_zero, List.take_of_length_le (by simp), txt_rows]
      have := callOk_join (ρ := lays156_ren) lays156 Builder_Extra_156 ⟨_, Tryd.func25, rfl, rfl⟩ (xs.map fun m => ofL (txt m)) ⟨#[32]⟩ (by simp; omega) (by rw [join_bytes]; show (Lib.join (xs.map txt) [32]).length ≤ _; omega)
      rw [join_bytes] at this
      exact this
    rw [hv] at hg
    rw [hr]
    repeat' first
      | refine go_seq ?_
      | refine go_region ?_
      | (refine go_op rfl ?_; conv => whnf)
      | (refine go_nil ?_; conv => whnf)
      | (refine go_hit rfl rfl rfl ?_; conv => whnf)
      | (refine go_miss rfl rfl rfl ?_)
      | (refine go_undef rfl rfl rfl ?_)
      | (refine go_splitT rfl rfl rfl (fun h => ?_) (fun h => ?_) <;> conv => whnf)
      | (refine go_splitF rfl rfl rfl (fun h => ?_) (fun h => ?_) <;> conv => whnf)
      | (refine go_storeBox rfl rfl rfl rfl rfl rfl ?_; conv => whnf)
      | (refine go_dop rfl ?_; conv => whnf)
      | (refine go_dhit rfl rfl ?_; conv => whnf)
      | (refine go_dmiss rfl rfl ?_; conv => whnf)
      | (refine go_dundef rfl rfl ?_; conv => whnf)
      | (refine go_dend (by kernel_rfl) ?_; conv => whnf)
      | refine go_draw drawsOk ?_
      | (refine go_pickT rfl ?_; conv => whnf)
      | (refine go_pickF rfl ?_; conv => whnf)
      | (refine go_pick rfl (fun h => ?_) (fun h => ?_) <;> conv => whnf)
      | (refine go_call [] (hg) rfl rfl rfl rfl ?_; conv => whnf)
      | (refine go_makeN rfl rfl rfl rfl rfl rfl rfl rfl rfl (by omega) (by rw [hll]; omega) ?_; conv => whnf)
      | (refine go_dsplit2 rfl (fun h => ?_) (fun h => ?_) <;> conv => whnf)
      | (refine go_loadB ?_; conv => whnf)
      | (refine ⟨by kernel_rfl, ?_⟩; conv => whnf)
      | (refine go_ret ?_; conv => whnf)
      | refine go_block ?_
      | (refine go_skip ?_; conv => whnf)
      | (refine go_exit ?_; conv => whnf)
      | refine go_true rfl ?_
      | refine go_false rfl ?_
      | refine go_cond rfl (fun h => ?_) (fun h => ?_)
      | refine ⟨rfl, ?_⟩
      | (refine ⟨trivial, ?_⟩; conv => whnf)
      | (refine ⟨le_of_ble rfl, ?_⟩; conv => whnf)
      | fail
    refine go_loop (α := Nat) (fun i => i ≤ xs.length) (fun i => xs.length - i)
      (fun i => st Tryd.f13.ntmps [(4, .own 1000 0 (xs.map Message.enc).length), (13, .imm (.list (xs.map Message.enc))), (14, .imm (.int .i64 (xs.map Message.enc).length)), (15, .imm (.int .i64 (i : Nat)))]
        [(1000, .arr 9 1 (fill txtRow ty9.zero xs i))] []) 0 (Nat.zero_le _) ?_ ?_
    · refine ref_st (fun _ => nid 3 12) rfl ⟨⟨rfl, rfl⟩, rfl, rfl, rfl, trivial⟩ ⟨?_, trivial⟩ (by simp) rfl (by simp)
      show some _ = some _
      rw [← fill_0, List.length_map]
      rfl
    · intro i hi
      cases hx : xs[i]? with
      | none =>
        have hge := le_of_at hx
        rw [fill_end _ _ _ hge]
        repeat' first
          | refine go_seq ?_
          | refine go_region ?_
          | (refine go_op rfl ?_; conv => whnf)
          | (refine go_nil ?_; conv => whnf)
          | (refine go_hit rfl rfl rfl ?_; conv => whnf)
          | (refine go_miss rfl rfl rfl ?_)
          | (refine go_undef rfl rfl rfl ?_)
          | (refine go_splitT rfl rfl rfl (fun h => ?_) (fun h => ?_) <;> conv => whnf)
          | (refine go_splitF rfl rfl rfl (fun h => ?_) (fun h => ?_) <;> conv => whnf)
          | (refine go_storeBox rfl rfl rfl rfl rfl rfl ?_; conv => whnf)
          | (refine go_dop rfl ?_; conv => whnf)
          | (refine go_dhit rfl rfl ?_; conv => whnf)
          | (refine go_dmiss rfl rfl ?_; conv => whnf)
          | (refine go_dundef rfl rfl ?_; conv => whnf)
          | (refine go_dend (by kernel_rfl) ?_; conv => whnf)
          | refine go_draw drawsOk ?_
          | (refine go_pickT rfl ?_; conv => whnf)
          | (refine go_pickF rfl ?_; conv => whnf)
          | (refine go_pick rfl (fun h => ?_) (fun h => ?_) <;> conv => whnf)
          | (refine go_call [] (hj) rfl rfl rfl rfl ?_; conv => whnf)
          | (refine go_dsplit2 rfl (fun h => ?_) (fun h => ?_) <;> conv => whnf)
          | (refine go_loadB ?_; conv => whnf)
          | (refine ⟨by kernel_rfl, ?_⟩; conv => whnf)
          | (refine go_ret ?_; conv => whnf)
          | refine go_block ?_
          | (refine go_skip ?_; conv => whnf)
          | (refine go_exit ?_; conv => whnf)
          | refine go_true rfl ?_
          | refine go_false rfl ?_
          | refine go_cond rfl (fun h => ?_) (fun h => ?_)
          | refine ⟨rfl, ?_⟩
          | (refine ⟨trivial, ?_⟩; conv => whnf)
          | (refine ⟨le_of_ble rfl, ?_⟩; conv => whnf)
          | fail
        all_goals first
          | (exfalso; simp at h; omega)
          | exact ret_imm2 rfl rfl rfl rfl rfl rfl rfl rfl
          | trace_state
      | some v =>
        have hlt := lt_of_at hx
        have hrw := row_at Message.enc hx
        have ht := c22 v (hok v (List.mem_of_getElem? hx))
        repeat' first
          | refine go_seq ?_
          | refine go_region ?_
          | (refine go_op rfl ?_; conv => whnf)
          | (refine go_nil ?_; conv => whnf)
          | (refine go_hit rfl rfl rfl ?_; conv => whnf)
          | (refine go_miss rfl rfl rfl ?_)
          | (refine go_undef rfl rfl rfl ?_)
          | (refine go_splitT rfl rfl rfl (fun h => ?_) (fun h => ?_) <;> conv => whnf)
          | (refine go_splitF rfl rfl rfl (fun h => ?_) (fun h => ?_) <;> conv => whnf)
          | (refine go_storeBox rfl rfl rfl rfl rfl rfl ?_; conv => whnf)
          | (refine go_dop rfl ?_; conv => whnf)
          | (refine go_dhit rfl rfl ?_; conv => whnf)
          | (refine go_dmiss rfl rfl ?_; conv => whnf)
          | (refine go_dundef rfl rfl ?_; conv => whnf)
          | (refine go_dend (by kernel_rfl) ?_; conv => whnf)
          | refine go_draw drawsOk ?_
          | (refine go_pickT rfl ?_; conv => whnf)
          | (refine go_pickF rfl ?_; conv => whnf)
          | (refine go_pick rfl (fun h => ?_) (fun h => ?_) <;> conv => whnf)
          | (refine go_call [] (ht) rfl rfl rfl rfl ?_; conv => whnf)
          | (refine go_idx rfl rfl rfl rfl (by omega) (by assumption) rfl ?_; conv => whnf)
          | (refine go_idxOwn rfl rfl rfl rfl rfl rfl (by rw [hll]; omega) ?_; conv => whnf)
          | (refine go_storeRow rfl rfl rfl rfl (fill_at _ _ hx) rfl rfl (fill_set txtRow _ hx) ?_; conv => whnf)
          | (refine go_dsplit2 rfl (fun h => ?_) (fun h => ?_) <;> conv => whnf)
          | (refine go_loadB ?_; conv => whnf)
          | (refine ⟨by kernel_rfl, ?_⟩; conv => whnf)
          | (refine go_ret ?_; conv => whnf)
          | refine go_block ?_
          | (refine go_skip ?_; conv => whnf)
          | (refine go_exit ?_; conv => whnf)
          | refine go_true rfl ?_
          | refine go_false rfl ?_
          | refine go_cond rfl (fun h => ?_) (fun h => ?_)
          | refine ⟨rfl, ?_⟩
          | (refine ⟨trivial, ?_⟩; conv => whnf)
          | (refine ⟨le_of_ble rfl, ?_⟩; conv => whnf)
          | fail
        all_goals first
          | exact go_next (i + 1) (by omega) (by omega) (ref_st id rfl ⟨⟨rfl, rfl⟩, rfl, rfl, next_i (by omega), trivial⟩ ⟨rfl, trivial⟩ (by simp) rfl (by simp))
          | (exfalso; simp at h; omega)
          | trace_state
end Go.Proofs.YtlkmbamenkjcmaaDoor

