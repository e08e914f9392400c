/- Times from texts, the draws of FnClock, and the law. -/
import Derived.Test.YtobnoplkpmdeiaaC3
import Derived.Test.YtobnoplkpmdeiaaAmC
namespace Go.Proofs.Ytobnoplkpmdeiaa
open Go Go.Am
set_option maxRecDepth 100000
set_option maxHeartbeats 4000000
attribute [local irreducible] amOps amC opCall opIndexAddr opPick retQ opMake opStore amDraw opAppend opLoad opNilCmp opIndex opSlice

def parR (l : List UInt8) : Int := match parseL l with | some t => (t : Int) | none => 0
def parOk (l : List UInt8) : Bool := (parseL l).isSome
def ixs : List Int := [0, 1, 3, 4]

theorem four_at (a b c d e : UInt8) : ∀ j : Nat, j < 4 → ∃ (i : Int) (x : UInt8), [D.int .i64 0, D.int .i64 1, D.int .i64 3, D.int .i64 4][j]? = some (D.int .i64 i) ∧ [a, b, d, e][j]? = some x ∧ 0 ≤ i ∧ (ofL [a, b, c, d, e]).data.toList[i.toNat]? = some x
  | 0, _ => ⟨0, a, rfl, rfl, by omega, rfl⟩
  | 1, _ => ⟨1, b, rfl, rfl, by omega, rfl⟩
  | 2, _ => ⟨3, d, rfl, rfl, by omega, rfl⟩
  | 3, _ => ⟨4, e, rfl, rfl, by omega, rfl⟩
  | j + 4, h => by omega
theorem digit_val {x : UInt8} (h : digitB x = true) : IntKind.i64.wrap (IntKind.u8.wrap ((x.toNat : Int) - 48)) = ((x.toNat - 48 : Nat) : Int) ∧ x.toNat - 48 ≤ 9 := by
  unfold digitB at h
  simp only [Bool.and_eq_true, decide_eq_true_eq] at h
  have e1 : IntKind.u8.wrap ((x.toNat : Int) - 48) = (x.toNat : Int) - 48 := by
    have : IntKind.u8.wrap ((x.toNat : Int) - 48) = ((x.toNat : Int) - 48) % 256 := by simp [IntKind.wrap, IntKind.bits, IntKind.signed]
    rw [this]; omega
  rw [e1, wrap_small (by omega) (by omega)]
  exact ⟨by omega, by omega⟩

theorem c8 (l : List UInt8) (hl : l.length ≤ 1000000) : CallOk Try.prog 8 [.imm (.str (ofL l))] { res := [.imm (.int .i64 (parR l)), .imm (.bool (parOk l))] } := by
  refine callOk_of tyOk Try.func8 rfl rfl (le_of_ble rfl) (le_of_ble rfl) (mutOk_imm rfl _) ?_
  have hsz : ((ofL l).size : Int) = l.length := by rw [ofL_size]
  by_cases h5 : l.length = 5
  case neg =>
    have hp : parseL l = none := by
      match l, h5 with
      | [], _ => rfl
      | [a], _ => rfl
      | [a, b], _ => rfl
      | [a, b, c], _ => rfl
      | [a, b, c, d], _ => rfl
      | a :: b :: c :: d :: e :: f :: r, _ => rfl
      | [a, b, c, d, e], h => exact absurd rfl h
    have hr : parR l = 0 := by unfold parR; rw [hp]
    have ho : parOk l = false := by unfold parOk; rw [hp]; rfl
    rw [hr, ho]
    repeat' first | refine go_seq ?_ | refine go_region ?_ | refine go_miss rfl rfl rfl ?_ | refine go_undef rfl rfl rfl ?_ | refine go_draw drawsOk ?_ | ((first | refine go_op rfl ?_ | refine go_nil ?_ | refine go_hit rfl rfl rfl ?_ | refine go_splitT rfl rfl rfl (fun h => ?_) (fun h => ?_) | refine go_splitF rfl rfl rfl (fun h => ?_) (fun h => ?_) | refine go_dop rfl ?_ | refine go_dhit rfl rfl ?_ | refine go_dmiss rfl rfl ?_ | refine go_dundef rfl rfl ?_ | refine go_dend (by kernel_rfl) ?_ | refine go_pickT rfl ?_ | refine go_pickF rfl ?_ | refine go_pick rfl (fun h => ?_) (fun h => ?_)) <;> conv => whnf) | ((first | refine go_dsplit2 rfl (fun h => ?_) (fun h => ?_) | refine ⟨by kernel_rfl, ?_⟩ | refine go_ret ?_) <;> conv => whnf) | refine go_block ?_ | ((first | refine go_skip ?_ | refine go_exit ?_) <;> conv => whnf) | refine go_true rfl ?_ | refine go_false rfl ?_ | refine go_cond rfl (fun h => ?_) (fun h => ?_) | refine ⟨rfl, ?_⟩ | ((first | refine ⟨trivial, ?_⟩ | refine ⟨le_of_ble rfl, ?_⟩) <;> conv => whnf) | fail
    all_goals first
      | exact ret_imm2 rfl rfl rfl rfl rfl rfl rfl rfl
      | (exfalso; have h' := h; simp [hsz] at h'; omega)
      | trace_state
  match l, h5 with
  | [a, b, c, d, e], _ =>
  have gc : (ofL [a, b, c, d, e]).data.toList[((2 : Int)).toNat]? = some c := rfl
  have ga : (ofL [a, b, c, d, e]).data.toList[((0 : Int)).toNat]? = some a := rfl
  have gb : (ofL [a, b, c, d, e]).data.toList[((1 : Int)).toNat]? = some b := rfl
  have gd : (ofL [a, b, c, d, e]).data.toList[((3 : Int)).toNat]? = some d := rfl
  have ge : (ofL [a, b, c, d, e]).data.toList[((4 : Int)).toNat]? = some e := rfl
  have hoc : parOk [a, b, c, d, e] = fiveOk a b c d e := by
    show (if fiveOk a b c d e = true then some (hm a b d e) else none).isSome = _
    cases fiveOk a b c d e <;> rfl
  have hrc : parR [a, b, c, d, e] = if fiveOk a b c d e then (hm a b d e : Int) else 0 := by
    show (match (if fiveOk a b c d e = true then some (hm a b d e) else none) with | some t => (t : Int) | none => 0) = _
    cases fiveOk a b c d e <;> rfl
  rw [hoc, hrc]
  by_cases hc : c.toNat = 58
  case neg =>
    have hf : fiveOk a b c d e = false := by unfold fiveOk; rw [decide_eq_false hc]; rfl
    rw [hf]
    repeat' first | refine go_seq ?_ | refine go_region ?_ | refine go_miss rfl rfl rfl ?_ | refine go_undef rfl rfl rfl ?_ | refine go_draw drawsOk ?_ | ((first | refine go_op rfl ?_ | refine go_nil ?_ | refine go_hit rfl rfl rfl ?_ | refine go_splitT rfl rfl rfl (fun h => ?_) (fun h => ?_) | refine go_splitF rfl rfl rfl (fun h => ?_) (fun h => ?_) | refine go_dop rfl ?_ | refine go_dhit rfl rfl ?_ | refine go_dmiss rfl rfl ?_ | refine go_dundef rfl rfl ?_ | refine go_dend (by kernel_rfl) ?_ | refine go_pickT rfl ?_ | refine go_pickF rfl ?_ | refine go_pick rfl (fun h => ?_) (fun h => ?_) | refine go_idxStr (i := 2) rfl rfl rfl (by omega) gc ?_) <;> conv => whnf) | ((first | refine go_dsplit2 rfl (fun h => ?_) (fun h => ?_) | refine ⟨by kernel_rfl, ?_⟩ | refine go_ret ?_) <;> conv => whnf) | refine go_block ?_ | ((first | refine go_skip ?_ | refine go_exit ?_) <;> conv => whnf) | refine go_true rfl ?_ | refine go_false rfl ?_ | refine go_cond rfl (fun h => ?_) (fun h => ?_) | refine ⟨rfl, ?_⟩ | ((first | refine ⟨trivial, ?_⟩ | refine ⟨le_of_ble rfl, ?_⟩) <;> conv => whnf) | fail
    all_goals first
      | exact ret_imm2 rfl rfl rfl rfl rfl rfl rfl rfl
      | (exfalso; simp at h; omega)
      | (exfalso; simp at h; done)
      | trace_state
  have hcd : (c.toNat : Int) = 58 := by omega
  repeat' first | refine go_seq ?_ | refine go_region ?_ | refine go_miss rfl rfl rfl ?_ | refine go_undef rfl rfl rfl ?_ | refine go_draw drawsOk ?_ | ((first | refine go_op rfl ?_ | refine go_nil ?_ | refine go_hit rfl rfl rfl ?_ | refine go_splitT rfl rfl rfl (fun h => ?_) (fun h => ?_) | refine go_splitF rfl rfl rfl (fun h => ?_) (fun h => ?_) | refine go_dop rfl ?_ | refine go_dhit rfl rfl ?_ | refine go_dmiss rfl rfl ?_ | refine go_dundef rfl rfl ?_ | refine go_dend (by kernel_rfl) ?_ | refine go_pickT rfl ?_ | refine go_pickF rfl ?_ | refine go_pick rfl (fun h => ?_) (fun h => ?_) | refine go_idxStr (i := 2) rfl rfl rfl (by omega) gc ?_) <;> conv => whnf) | ((first | refine go_dsplit2 rfl (fun h => ?_) (fun h => ?_) | refine ⟨by kernel_rfl, ?_⟩ | refine go_ret ?_) <;> conv => whnf) | refine go_block ?_ | ((first | refine go_skip ?_ | refine go_exit ?_) <;> conv => whnf) | refine go_true rfl ?_ | refine go_false rfl ?_ | refine go_cond rfl (fun h => ?_) (fun h => ?_) | refine ⟨rfl, ?_⟩ | ((first | refine ⟨trivial, ?_⟩ | refine ⟨le_of_ble rfl, ?_⟩) <;> conv => whnf) | fail
  all_goals try first
    | (exfalso; simp at h; omega)
    | (exfalso; simp at h; done)
  refine go_loop (α := Nat) (fun j => j ≤ 4 ∧ ([a, b, d, e].take j).all digitB = true) (fun j => 4 - j)
    (fun j => st Try.f8.ntmps [(0, .imm (.str (ofL [a, b, c, d, e]))), (15, .imm (.agg [.int .i64 0, .int .i64 1, .int .i64 3, .int .i64 4])), (16, .imm (.int .i64 (j : Nat)))] [] []) 0 ⟨by omega, rfl⟩ (ref_st0 rfl ⟨rfl, rfl, rfl, trivial⟩ rfl) ?_
  rintro j ⟨hj, hall⟩
  by_cases hj4 : j < 4
  · obtain ⟨i, x, hi, hx, hi0, hb⟩ := four_at a b c d e j hj4
    have hi' : [D.int .i64 0, D.int .i64 1, D.int .i64 3, D.int .i64 4][((j : Nat) : Int).toNat * 1]? = some (D.int .i64 i) := by rw [Nat.mul_one]; exact hi
    cases hdx : digitB x with
    | false =>
      have hf : fiveOk a b c d e = false := by
        have hmem : x ∈ [a, b, d, e] := List.mem_of_getElem? hx
        simp only [List.mem_cons, List.not_mem_nil, or_false] at hmem
        unfold fiveOk
        rcases hmem with rfl | rfl | rfl | rfl <;> rw [hdx] <;> simp
      rw [hf]
      have hlt : ¬ (48 ≤ (x.toNat : Int) ∧ (x.toNat : Int) ≤ 57) := fun h => by
        have : digitB x = true := by unfold digitB; simp only [Bool.and_eq_true, decide_eq_true_eq]; omega
        rw [this] at hdx; cases hdx
      repeat' first | refine go_seq ?_ | refine go_region ?_ | refine go_miss rfl rfl rfl ?_ | refine go_undef rfl rfl rfl ?_ | refine go_draw drawsOk ?_ | ((first | refine go_op rfl ?_ | refine go_nil ?_ | refine go_hit rfl rfl rfl ?_ | refine go_splitT rfl rfl rfl (fun h => ?_) (fun h => ?_) | refine go_splitF rfl rfl rfl (fun h => ?_) (fun h => ?_) | refine go_dop rfl ?_ | refine go_dhit rfl rfl ?_ | refine go_dmiss rfl rfl ?_ | refine go_dundef rfl rfl ?_ | refine go_dend (by kernel_rfl) ?_ | refine go_pickT rfl ?_ | refine go_pickF rfl ?_ | refine go_pick rfl (fun h => ?_) (fun h => ?_) | refine go_idxArr rfl rfl rfl rfl (by omega) (by omega) rfl hi' ?_ | refine go_idxStr rfl rfl rfl hi0 hb ?_) <;> conv => whnf) | ((first | refine go_dsplit2 rfl (fun h => ?_) (fun h => ?_) | refine ⟨by kernel_rfl, ?_⟩ | refine go_ret ?_) <;> conv => whnf) | refine go_block ?_ | ((first | refine go_skip ?_ | refine go_exit ?_) <;> conv => whnf) | refine go_true rfl ?_ | refine go_false rfl ?_ | refine go_cond rfl (fun h => ?_) (fun h => ?_) | refine ⟨rfl, ?_⟩ | ((first | refine ⟨trivial, ?_⟩ | refine ⟨le_of_ble rfl, ?_⟩) <;> conv => whnf) | fail
      all_goals first
        | exact ret_imm2 rfl rfl rfl rfl rfl rfl rfl rfl
        | (exfalso; have h' := of_decide_eq_false h; omega)
        | (exfalso; have h' := of_decide_eq_true h; omega)
        | (exfalso; rename_i hq; have h' := of_decide_eq_true hq; omega)
        | (exfalso; rename_i hq; have h' := of_decide_eq_false hq; omega)
        | (exfalso; rename_i hq _; have h' := of_decide_eq_true hq; omega)
        | (exfalso; rename_i hq _; have h' := of_decide_eq_false hq; omega)
        | (exfalso; rename_i hq; have h1 := of_decide_eq_false hq; have h2 := of_decide_eq_false h; omega)
        | (exfalso; rename_i hq; have h1 := of_decide_eq_true hq; omega)
        | (exfalso; have h1 := of_decide_eq_true h; omega)
        | trace_state
    | true =>
      have hall' := all_next hx hall hdx
      have hin : 48 ≤ (x.toNat : Int) ∧ (x.toNat : Int) ≤ 57 := by
        unfold digitB at hdx; simp only [Bool.and_eq_true, decide_eq_true_eq] at hdx; omega
      repeat' first | refine go_seq ?_ | refine go_region ?_ | refine go_miss rfl rfl rfl ?_ | refine go_undef rfl rfl rfl ?_ | refine go_draw drawsOk ?_ | ((first | refine go_op rfl ?_ | refine go_nil ?_ | refine go_hit rfl rfl rfl ?_ | refine go_splitT rfl rfl rfl (fun h => ?_) (fun h => ?_) | refine go_splitF rfl rfl rfl (fun h => ?_) (fun h => ?_) | refine go_dop rfl ?_ | refine go_dhit rfl rfl ?_ | refine go_dmiss rfl rfl ?_ | refine go_dundef rfl rfl ?_ | refine go_dend (by kernel_rfl) ?_ | refine go_pickT rfl ?_ | refine go_pickF rfl ?_ | refine go_pick rfl (fun h => ?_) (fun h => ?_) | refine go_idxArr rfl rfl rfl rfl (by omega) (by omega) rfl hi' ?_ | refine go_idxStr rfl rfl rfl hi0 hb ?_) <;> conv => whnf) | ((first | refine go_dsplit2 rfl (fun h => ?_) (fun h => ?_) | refine ⟨by kernel_rfl, ?_⟩ | refine go_ret ?_) <;> conv => whnf) | refine go_block ?_ | ((first | refine go_skip ?_ | refine go_exit ?_) <;> conv => whnf) | refine go_true rfl ?_ | refine go_false rfl ?_ | refine go_cond rfl (fun h => ?_) (fun h => ?_) | refine ⟨rfl, ?_⟩ | ((first | refine ⟨trivial, ?_⟩ | refine ⟨le_of_ble rfl, ?_⟩) <;> conv => whnf) | fail
      all_goals first
        | exact go_next (j + 1) ⟨by omega, hall'⟩ (by omega) (ref_st0 rfl ⟨rfl, rfl, next_i (by omega), trivial⟩ rfl)
        | (exfalso; have h' := of_decide_eq_false h; omega)
        | (exfalso; have h' := of_decide_eq_true h; omega)
        | (exfalso; rename_i hq; have h' := of_decide_eq_true hq; omega)
        | (exfalso; rename_i hq; have h' := of_decide_eq_false hq; omega)
        | (exfalso; rename_i hq _; have h' := of_decide_eq_true hq; omega)
        | (exfalso; rename_i hq _; have h' := of_decide_eq_false hq; omega)
        | (exfalso; rename_i hq; have h1 := of_decide_eq_false hq; have h2 := of_decide_eq_false h; omega)
        | (exfalso; rename_i hq; have h1 := of_decide_eq_true hq; omega)
        | (exfalso; have h1 := of_decide_eq_true h; omega)
        | trace_state
  · have hj' : j = 4 := by omega
    subst hj'
    have hda : digitB a = true ∧ digitB b = true ∧ digitB d = true ∧ digitB e = true := by
      have h1 := List.all_eq_true.1 hall
      exact ⟨h1 a (by simp), h1 b (by simp), h1 d (by simp), h1 e (by simp)⟩
    obtain ⟨va, ua⟩ := digit_val hda.1
    obtain ⟨vb, ub⟩ := digit_val hda.2.1
    obtain ⟨vd, ud⟩ := digit_val hda.2.2.1
    obtain ⟨ve, ue⟩ := digit_val hda.2.2.2
    have eE : IntKind.i64.wrap (IntKind.i64.wrap (IntKind.i64.wrap (IntKind.i64.wrap (IntKind.i64.wrap (IntKind.i64.wrap (IntKind.u8.wrap ((a.toNat : Int) - 48)) * 10) + IntKind.i64.wrap (IntKind.u8.wrap ((b.toNat : Int) - 48))) * 60) + IntKind.i64.wrap (IntKind.i64.wrap (IntKind.u8.wrap ((d.toNat : Int) - 48)) * 10)) + IntKind.i64.wrap (IntKind.u8.wrap ((e.toNat : Int) - 48))) = (hm a b d e : Int) := by
      rw [va, vb, vd, ve]
      have q1 : IntKind.i64.wrap (((a.toNat - 48 : Nat) : Int) * 10) = ((a.toNat - 48 : Nat) : Int) * 10 := wrap_small (by omega) (by omega)
      have q2 : IntKind.i64.wrap (((a.toNat - 48 : Nat) : Int) * 10 + ((b.toNat - 48 : Nat) : Int)) = ((a.toNat - 48 : Nat) : Int) * 10 + ((b.toNat - 48 : Nat) : Int) := wrap_small (by omega) (by omega)
      have q3 : IntKind.i64.wrap ((((a.toNat - 48 : Nat) : Int) * 10 + ((b.toNat - 48 : Nat) : Int)) * 60) = (((a.toNat - 48 : Nat) : Int) * 10 + ((b.toNat - 48 : Nat) : Int)) * 60 := wrap_small (by omega) (by omega)
      have q4 : IntKind.i64.wrap (((d.toNat - 48 : Nat) : Int) * 10) = ((d.toNat - 48 : Nat) : Int) * 10 := wrap_small (by omega) (by omega)
      have q5 : IntKind.i64.wrap ((((a.toNat - 48 : Nat) : Int) * 10 + ((b.toNat - 48 : Nat) : Int)) * 60 + ((d.toNat - 48 : Nat) : Int) * 10) = (((a.toNat - 48 : Nat) : Int) * 10 + ((b.toNat - 48 : Nat) : Int)) * 60 + ((d.toNat - 48 : Nat) : Int) * 10 := wrap_small (by omega) (by omega)
      have q6 : IntKind.i64.wrap ((((a.toNat - 48 : Nat) : Int) * 10 + ((b.toNat - 48 : Nat) : Int)) * 60 + ((d.toNat - 48 : Nat) : Int) * 10 + ((e.toNat - 48 : Nat) : Int)) = (((a.toNat - 48 : Nat) : Int) * 10 + ((b.toNat - 48 : Nat) : Int)) * 60 + ((d.toNat - 48 : Nat) : Int) * 10 + ((e.toNat - 48 : Nat) : Int) := wrap_small (by omega) (by omega)
      rw [q1, q2, q3, q4, q5, q6]
      unfold hm
      omega
    have hv : CallOk Try.prog 10 [.imm (.int .i64 (IntKind.i64.wrap (IntKind.i64.wrap (IntKind.i64.wrap (IntKind.i64.wrap (IntKind.i64.wrap (IntKind.i64.wrap (IntKind.u8.wrap ((a.toNat : Int) - 48)) * 10) + IntKind.i64.wrap (IntKind.u8.wrap ((b.toNat : Int) - 48))) * 60) + IntKind.i64.wrap (IntKind.i64.wrap (IntKind.u8.wrap ((d.toNat : Int) - 48)) * 10)) + IntKind.i64.wrap (IntKind.u8.wrap ((e.toNat : Int) - 48)))))] { res := [.imm (.bool (timeOk (hm a b d e : Int)))] } := by rw [eE]; exact c10 _
    have hfo : fiveOk a b c d e = (decide (d.toNat ≤ 53) && decide (hm a b d e ≤ 1799)) := by
      unfold fiveOk
      rw [hda.1, hda.2.1, hda.2.2.1, hda.2.2.2, decide_eq_true hc]
      rfl
    by_cases hd53 : d.toNat ≤ 53
    · by_cases ht : hm a b d e ≤ 1799
      · have hto : timeOk (hm a b d e : Int) = true := by unfold timeOk; rw [inR_iff]; omega
        rw [hto] at hv
        have hf : fiveOk a b c d e = true := by rw [hfo, decide_eq_true hd53, decide_eq_true ht]; rfl
        rw [hf, if_pos rfl]
        repeat' first | refine go_seq ?_ | refine go_region ?_ | refine go_miss rfl rfl rfl ?_ | refine go_undef rfl rfl rfl ?_ | refine go_draw drawsOk ?_ | ((first | refine go_op rfl ?_ | refine go_nil ?_ | refine go_hit rfl rfl rfl ?_ | refine go_splitT rfl rfl rfl (fun h => ?_) (fun h => ?_) | refine go_splitF rfl rfl rfl (fun h => ?_) (fun h => ?_) | refine go_dop rfl ?_ | refine go_dhit rfl rfl ?_ | refine go_dmiss rfl rfl ?_ | refine go_dundef rfl rfl ?_ | refine go_dend (by kernel_rfl) ?_ | refine go_pickT rfl ?_ | refine go_pickF rfl ?_ | refine go_pick rfl (fun h => ?_) (fun h => ?_) | refine go_call [] (hv) rfl rfl rfl rfl ?_ | refine go_idxStr (i := 0) rfl rfl rfl (by omega) ga ?_ | refine go_idxStr (i := 1) rfl rfl rfl (by omega) gb ?_ | refine go_idxStr (i := 3) rfl rfl rfl (by omega) gd ?_ | refine go_idxStr (i := 4) rfl rfl rfl (by omega) ge ?_) <;> conv => whnf) | ((first | refine go_dsplit2 rfl (fun h => ?_) (fun h => ?_) | refine ⟨by kernel_rfl, ?_⟩ | refine go_ret ?_) <;> conv => whnf) | refine go_block ?_ | ((first | refine go_skip ?_ | refine go_exit ?_) <;> conv => whnf) | refine go_true rfl ?_ | refine go_false rfl ?_ | refine go_cond rfl (fun h => ?_) (fun h => ?_) | refine ⟨rfl, ?_⟩ | ((first | refine ⟨trivial, ?_⟩ | refine ⟨le_of_ble rfl, ?_⟩) <;> conv => whnf) | fail
        all_goals first
          | exact ret_imm2 rfl rfl rfl rfl rfl (congrArg (D.int .i64) eE) rfl rfl
          | (exfalso; simp at h; done)
          | (exfalso; have h1 := of_decide_eq_true h; omega)
          | trace_state
      · have hto : timeOk (hm a b d e : Int) = false := by unfold timeOk inR; rw [decide_eq_false (p := ((hm a b d e : Nat) : Int) ≤ 1799) (by omega)]; simp
        rw [hto] at hv
        have hf : fiveOk a b c d e = false := by rw [hfo, decide_eq_false ht]; simp
        rw [hf]
        repeat' first | refine go_seq ?_ | refine go_region ?_ | refine go_miss rfl rfl rfl ?_ | refine go_undef rfl rfl rfl ?_ | refine go_draw drawsOk ?_ | ((first | refine go_op rfl ?_ | refine go_nil ?_ | refine go_hit rfl rfl rfl ?_ | refine go_splitT rfl rfl rfl (fun h => ?_) (fun h => ?_) | refine go_splitF rfl rfl rfl (fun h => ?_) (fun h => ?_) | refine go_dop rfl ?_ | refine go_dhit rfl rfl ?_ | refine go_dmiss rfl rfl ?_ | refine go_dundef rfl rfl ?_ | refine go_dend (by kernel_rfl) ?_ | refine go_pickT rfl ?_ | refine go_pickF rfl ?_ | refine go_pick rfl (fun h => ?_) (fun h => ?_) | refine go_call [] (hv) rfl rfl rfl rfl ?_ | refine go_idxStr (i := 0) rfl rfl rfl (by omega) ga ?_ | refine go_idxStr (i := 1) rfl rfl rfl (by omega) gb ?_ | refine go_idxStr (i := 3) rfl rfl rfl (by omega) gd ?_ | refine go_idxStr (i := 4) rfl rfl rfl (by omega) ge ?_) <;> conv => whnf) | ((first | refine go_dsplit2 rfl (fun h => ?_) (fun h => ?_) | refine ⟨by kernel_rfl, ?_⟩ | refine go_ret ?_) <;> conv => whnf) | refine go_block ?_ | ((first | refine go_skip ?_ | refine go_exit ?_) <;> conv => whnf) | refine go_true rfl ?_ | refine go_false rfl ?_ | refine go_cond rfl (fun h => ?_) (fun h => ?_) | refine ⟨rfl, ?_⟩ | ((first | refine ⟨trivial, ?_⟩ | refine ⟨le_of_ble rfl, ?_⟩) <;> conv => whnf) | fail
        all_goals first
          | exact ret_imm2 rfl rfl rfl rfl rfl rfl rfl rfl
          | (exfalso; simp at h; done)
          | trace_state
    · have hf : fiveOk a b c d e = false := by rw [hfo, decide_eq_false hd53]; simp
      rw [hf]
      repeat' first | refine go_seq ?_ | refine go_region ?_ | refine go_miss rfl rfl rfl ?_ | refine go_undef rfl rfl rfl ?_ | refine go_draw drawsOk ?_ | ((first | refine go_op rfl ?_ | refine go_nil ?_ | refine go_hit rfl rfl rfl ?_ | refine go_splitT rfl rfl rfl (fun h => ?_) (fun h => ?_) | refine go_splitF rfl rfl rfl (fun h => ?_) (fun h => ?_) | refine go_dop rfl ?_ | refine go_dhit rfl rfl ?_ | refine go_dmiss rfl rfl ?_ | refine go_dundef rfl rfl ?_ | refine go_dend (by kernel_rfl) ?_ | refine go_pickT rfl ?_ | refine go_pickF rfl ?_ | refine go_pick rfl (fun h => ?_) (fun h => ?_) | refine go_call [] (hv) rfl rfl rfl rfl ?_ | refine go_idxStr (i := 0) rfl rfl rfl (by omega) ga ?_ | refine go_idxStr (i := 1) rfl rfl rfl (by omega) gb ?_ | refine go_idxStr (i := 3) rfl rfl rfl (by omega) gd ?_ | refine go_idxStr (i := 4) rfl rfl rfl (by omega) ge ?_) <;> conv => whnf) | ((first | refine go_dsplit2 rfl (fun h => ?_) (fun h => ?_) | refine ⟨by kernel_rfl, ?_⟩ | refine go_ret ?_) <;> conv => whnf) | refine go_block ?_ | ((first | refine go_skip ?_ | refine go_exit ?_) <;> conv => whnf) | refine go_true rfl ?_ | refine go_false rfl ?_ | refine go_cond rfl (fun h => ?_) (fun h => ?_) | refine ⟨rfl, ?_⟩ | ((first | refine ⟨trivial, ?_⟩ | refine ⟨le_of_ble rfl, ?_⟩) <;> conv => whnf) | fail
      all_goals first
        | exact ret_imm2 rfl rfl rfl rfl rfl rfl rfl rfl
        | (exfalso; simp at h; done)
        | (exfalso; have h1 := of_decide_eq_false h; omega)
        | (exfalso; rename_i hq; have h1 := of_decide_eq_false hq; omega)
        | trace_state

theorem c7 (t : Int) : CallOk Try.prog 7 [.imm (.int .i64 t)] { res := [.imm (.str (ofL (if timeOk t then clockL t.toNat else []))), .imm (.bool (timeOk t))] } := by
  refine callOk_of tyOk Try.func7 rfl rfl (le_of_ble rfl) (le_of_ble rfl) (mutOk_imm rfl _) ?_
  have h0 := c10 t
  cases ht : timeOk t with
  | false =>
    rw [ht] at h0
    repeat' first | refine go_seq ?_ | refine go_region ?_ | ((first | refine go_op rfl ?_ | refine go_nil ?_ | refine go_call [] (h0) rfl rfl rfl rfl ?_) <;> conv => whnf) | ((first | refine ⟨by kernel_rfl, ?_⟩ | refine go_ret ?_) <;> conv => whnf) | ((first | refine go_skip ?_) <;> conv => whnf) | refine go_true rfl ?_ | refine go_false rfl ?_ | refine go_cond rfl (fun h => ?_) (fun h => ?_) | refine ⟨rfl, ?_⟩ | ((first | refine ⟨trivial, ?_⟩ | refine ⟨le_of_ble rfl, ?_⟩) <;> conv => whnf) | fail
    all_goals exact ret_imm2 rfl rfl rfl rfl rfl rfl rfl rfl
  | true =>
    rw [ht] at h0
    have hb := (inR_iff _ _ _).1 ht
    have h1 : CallOk Try.prog 23 [.imm (.int .i64 t)] { res := [.imm (.str (ofL (clockL t.toNat)))] } := by
      have := c23 t.toNat (by omega)
      rwa [Int.toNat_of_nonneg hb.1] at this
    repeat' first | refine go_seq ?_ | refine go_region ?_ | ((first | refine go_op rfl ?_ | refine go_nil ?_ | refine go_call [] (h0) rfl rfl rfl rfl ?_ | refine go_call [] (h1) rfl rfl rfl rfl ?_) <;> conv => whnf) | ((first | refine ⟨by kernel_rfl, ?_⟩ | refine go_ret ?_) <;> conv => whnf) | ((first | refine go_skip ?_) <;> conv => whnf) | refine go_true rfl ?_ | refine go_false rfl ?_ | refine go_cond rfl (fun h => ?_) (fun h => ?_) | refine ⟨rfl, ?_⟩ | ((first | refine ⟨trivial, ?_⟩ | refine ⟨le_of_ble rfl, ?_⟩) <;> conv => whnf) | fail
    all_goals exact ret_imm2 rfl rfl rfl rfl rfl rfl rfl rfl

theorem day_ne : (1440 : Int) ≠ 0 := by omega
theorem c13 (t : Int) : CallOk Try.prog 13 [.imm (.int .i64 t)] { res := [.imm (.str (ofL (if timeOk t then clockL (t.toNat % 1440) else []))), .imm (.int .i64 (if timeOk t then t / 1440 else 0)), .imm (.bool (timeOk t))] } := by
  refine callOk_of tyOk Try.func13 rfl rfl (le_of_ble rfl) (le_of_ble rfl) (mutOk_imm rfl _) ?_
  have h0 := c10 t
  cases ht : timeOk t with
  | false =>
    rw [ht] at h0
    repeat' first | refine go_seq ?_ | refine go_region ?_ | ((first | refine go_op rfl ?_ | refine go_nil ?_ | refine go_call [] (h0) rfl rfl rfl rfl ?_) <;> conv => whnf) | ((first | refine ⟨by kernel_rfl, ?_⟩ | refine go_ret ?_) <;> conv => whnf) | ((first | refine go_skip ?_) <;> conv => whnf) | refine go_true rfl ?_ | refine go_false rfl ?_ | refine go_cond rfl (fun h => ?_) (fun h => ?_) | refine ⟨rfl, ?_⟩ | ((first | refine ⟨trivial, ?_⟩ | refine ⟨le_of_ble rfl, ?_⟩) <;> conv => whnf) | fail
    all_goals exact ret_imm3 rfl rfl rfl rfl rfl rfl rfl rfl rfl rfl
  | true =>
    rw [ht] at h0
    have hb := (inR_iff _ _ _).1 ht
    have e1 : t.tmod 1440 = ((t.toNat % 1440 : Nat) : Int) := by rw [Int.tmod_eq_emod_of_nonneg hb.1]; omega
    have e2 : IntKind.i64.wrap (t.tdiv 1440) = t / 1440 := by rw [Int.tdiv_eq_ediv_of_nonneg hb.1, wrap_small (by omega) (by omega)]
    have h1 : CallOk Try.prog 23 [.imm (.int .i64 (t.tmod 1440))] { res := [.imm (.str (ofL (clockL (t.toNat % 1440))))] } := by
      rw [e1]; exact c23 _ (by omega)
    repeat' first | refine go_seq ?_ | refine go_region ?_ | ((first | refine go_op rfl ?_ | refine go_nil ?_ | refine go_call [] (h0) rfl rfl rfl rfl ?_ | refine go_call [] (h1) rfl rfl rfl rfl ?_ | refine ⟨day_ne, ?_⟩) <;> conv => whnf) | ((first | refine ⟨by kernel_rfl, ?_⟩ | refine go_ret ?_) <;> conv => whnf) | ((first | refine go_skip ?_) <;> conv => whnf) | refine go_true rfl ?_ | refine go_false rfl ?_ | refine go_cond rfl (fun h => ?_) (fun h => ?_) | refine ⟨rfl, ?_⟩ | ((first | refine ⟨trivial, ?_⟩ | refine ⟨le_of_ble rfl, ?_⟩) <;> conv => whnf) | fail
    all_goals exact ret_imm3 rfl rfl rfl rfl rfl rfl rfl (congrArg (D.int .i64) e2) rfl rfl
end Go.Proofs.Ytobnoplkpmdeiaa

