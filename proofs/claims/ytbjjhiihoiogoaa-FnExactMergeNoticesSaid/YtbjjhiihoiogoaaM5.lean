/- Lists of messages: searches, one behind another. -/
import Derived.Test.YtbjjhiihoiogoaaM4
import Derived.Test.YtbjjhiihoiogoaaAmG
namespace Go.Proofs.Ytbjjhiihoiogoaa
open Go Go.Am
set_option maxRecDepth 100000
set_option maxHeartbeats 4000000

def growMRen : Go.Shelf.Ren := ⟨fun | 4 => 174 | n => n, fun | 22 => 85 | 25 => 163 | 3 => 3 | 4 => 4 | 9 => 9 | 20 => 20 | 0 => 0 | n => n, fun n => n⟩
theorem growMLays : Lays8.n4 Try.prog growMRen := {
  mixed := by kernel_rfl
  f4 := ⟨Try.f174.name, by kernel_rfl, Try.func174.trans (congrArg some (by kernel_rfl))⟩
  t0 := Try.underlying0
  a0 := Try.isAgg0
  z0 := Try.sizeOf0
  v0 := Try.zeroValue0
  t3 := Try.underlying3
  a3 := Try.isAgg3
  z3 := Try.sizeOf3
  v3 := Try.zeroValue3
  t4 := Try.underlying4
  a4 := Try.isAgg4
  z4 := Try.sizeOf4
  v4 := Try.zeroValue4
  t9 := Try.underlying9
  a9 := Try.isAgg9
  z9 := Try.sizeOf9
  v9 := Try.zeroValue9
  t20 := Try.underlying20
  a20 := Try.isAgg20
  z20 := Try.sizeOf20
  v20 := Try.zeroValue20
  t22 := Try.underlying85
  a22 := Try.isAgg85
  z22 := Try.sizeOf85
  v22 := Try.zeroValue85 }

attribute [local irreducible] amOps amC opCall opIndexAddr opPick retQ opMake opStore amDraw opAppend opLoad opNilCmp opIndex

theorem c174 (k : Nat) (hk : k ≤ 2097152) : CallOk Try.prog 174 [.imm (.other (.slice none 0 0)), .imm (.int .i64 (k : Int))] { res := [.arr 163 6 []] } :=
  callOk_grow0 growMLays ⟨_, Try.func174, by kernel_rfl, rfl⟩ tyOk (te := ty163) rfl (by decide) k hk (by decide)

theorem c175 (xs : List Message) (hl : xs.length ≤ 1048576) (v : Message) :
    CallOk Try.prog 175 [.imm (.list (xs.map Message.enc)), .imm (.agg v.enc)] { res := [.imm (.int .i64 (idxF (fun x => v.beq x) xs))] } := by
  refine callOk_of tyOk Try.func175 rfl rfl (le_of_ble rfl) (le_of_ble rfl) (mutOk_imm rfl _) ?_
  repeat' first | refine go_seq ?_ | refine go_region ?_ | refine go_draw drawsOk ?_ | ((first | refine go_op rfl ?_ | refine go_nil ?_ | refine go_dop rfl ?_ | refine go_dend (by kernel_rfl) ?_) <;> conv => whnf) | ((first | refine go_loadB ?_ | refine ⟨by kernel_rfl, ?_⟩ | refine go_ret ?_) <;> conv => whnf) | refine go_block ?_ | ((first | refine go_skip ?_ | refine go_exit ?_) <;> conv => whnf) | refine go_true rfl ?_ | refine go_false rfl ?_ | refine go_cond rfl (fun h => ?_) (fun h => ?_) | refine ⟨rfl, ?_⟩ | ((first | refine ⟨trivial, ?_⟩ | refine ⟨le_of_ble rfl, ?_⟩) <;> conv => whnf) | fail
  refine go_loop (α := Nat) (fun i => i ≤ xs.length ∧ (xs.take i).any (fun x => v.beq x) = false) (fun i => xs.length - i) (fun i => st Try.f175.ntmps [(0, .imm (.list (xs.map Message.enc))), (3, .box 1000 0), (7, .imm (.int .i64 (xs.map Message.enc).length)), (8, .imm (.int .i64 (i : Nat)))] [(1000, .box 163 (v.enc.map .imm))] []) 0
    ⟨Nat.zero_le _, rfl⟩ (ref_st (fun _ => nid 1 3) rfl ⟨rfl, ⟨rfl, rfl⟩, rfl, rfl, trivial⟩ ⟨⟨rfl, wavs_imm _⟩, trivial⟩ (by simp) rfl (by simp)) ?_
  rintro i ⟨hi, ha⟩
  cases hx : xs[i]? with
  | none =>
    have hge := le_of_at hx
    rw [List.take_of_length_le hge] at ha
    repeat' first | refine go_seq ?_ | refine go_region ?_ | refine go_draw drawsOk ?_ | ((first | refine go_op rfl ?_ | refine go_nil ?_ | refine go_dop rfl ?_ | refine go_dend (by kernel_rfl) ?_) <;> conv => whnf) | ((first | refine go_loadB ?_ | refine ⟨by kernel_rfl, ?_⟩ | refine go_ret ?_) <;> conv => whnf) | refine go_block ?_ | ((first | refine go_skip ?_ | refine go_exit ?_) <;> conv => whnf) | refine go_true rfl ?_ | refine go_false rfl ?_ | refine go_cond rfl (fun h => ?_) (fun h => ?_) | refine ⟨rfl, ?_⟩ | ((first | refine ⟨trivial, ?_⟩ | refine ⟨le_of_ble rfl, ?_⟩) <;> conv => whnf) | fail
    · exfalso; simp at h; omega
    · exact ret_imm rfl rfl rfl rfl (by rw [idxF_miss ha]) rfl
  | some x =>
    have hlt := lt_of_at hx
    have hr := row_at Message.enc hx
    have hq : (decide (v.kind = x.kind) && (v.line == x.line && (v.stop == x.stop && (decide (v.fro = x.fro) && (decide (v.to = x.to) && (decide (v.mins = x.mins) && true)))))) = v.beq x := by
      simp only [Message.beq, Bool.and_assoc, Bool.and_true]
    repeat' first | refine go_seq ?_ | refine go_region ?_ | refine go_draw drawsOk ?_ | ((first | refine go_op rfl ?_ | refine go_nil ?_ | refine go_dop rfl ?_ | refine go_dend (by kernel_rfl) ?_ | refine go_idx rfl rfl rfl rfl (by omega) hr rfl ?_) <;> conv => whnf) | ((first | refine go_loadB ?_ | refine ⟨by kernel_rfl, ?_⟩ | refine go_ret ?_) <;> conv => whnf) | refine go_block ?_ | ((first | refine go_skip ?_ | refine go_exit ?_) <;> conv => whnf) | refine go_true rfl ?_ | refine go_false rfl ?_ | refine go_cond rfl (fun h => ?_) (fun h => ?_) | refine ⟨rfl, ?_⟩ | ((first | refine ⟨trivial, ?_⟩ | refine ⟨le_of_ble rfl, ?_⟩) <;> conv => whnf) | fail
    · rw [hq] at h
      exact ret_imm rfl rfl rfl rfl (by rw [idxF_hit hx h ha]) rfl
    · rw [hq] at h
      exact go_next (i + 1) ⟨by omega, any_next hx ha h⟩ (by omega) (ref_st id rfl ⟨rfl, ⟨rfl, rfl⟩, rfl, next_i (by omega), trivial⟩ ⟨⟨rfl, wavs_imm _⟩, trivial⟩ (by simp) rfl (by simp))
    · exfalso; simp at h; omega

theorem c134 (xs : List Message) (hl : xs.length ≤ 1048576) (v : Message) :
    CallOk Try.prog 134 [.imm (.list (xs.map Message.enc)), .imm (.agg v.enc)] { res := [.imm (.bool (xs.any fun x => v.beq x))] } := by
  refine callOk_of tyOk Try.func134 rfl rfl (le_of_ble rfl) (le_of_ble rfl) (mutOk_imm rfl _) ?_
  have hc := c175 xs hl v
  repeat' first | refine go_seq ?_ | refine go_region ?_ | ((first | refine go_op rfl ?_ | refine go_nil ?_ | refine go_call [] (hc) rfl rfl rfl rfl ?_) <;> conv => whnf) | ((first | refine go_loadB ?_ | refine ⟨by kernel_rfl, ?_⟩ | refine go_ret ?_) <;> conv => whnf) | ((first | refine go_skip ?_) <;> conv => whnf) | refine ⟨rfl, ?_⟩ | ((first | refine ⟨trivial, ?_⟩ | refine ⟨le_of_ble rfl, ?_⟩) <;> conv => whnf) | fail
  all_goals exact ret_imm rfl rfl rfl rfl (by rw [idxF_ge]) rfl

/-! One list behind the other. -/

def msgsRow (l : List Message) : List D := [.list (l.map Message.enc)]
def sumTo (a b : List Message) : Nat → Nat
  | 0 => 0
  | 1 => a.length
  | _ => a.length + b.length
def catTo (a b : List Message) : Nat → List Message
  | 0 => []
  | 1 => a
  | _ => a ++ b

theorem c133 (a b : List Message) (ha : a.length ≤ 1048576) (hb : b.length ≤ 1048576) :
    CallOk Try.prog 133 [.imm (.list ([a, b].map msgsRow))] { res := [.imm (.list ((a ++ b).map Message.enc))] } := by
  refine callOk_of tyOk Try.func133 rfl rfl (le_of_ble rfl) (le_of_ble rfl) (mutOk_imm rfl _) ?_
  repeat' first | refine go_seq ?_ | refine go_region ?_ | ((first | refine go_op rfl ?_ | refine go_nil ?_) <;> conv => whnf) | ((first | refine go_loadB ?_ | refine ⟨by kernel_rfl, ?_⟩ | refine go_ret ?_) <;> conv => whnf) | refine go_block ?_ | ((first | refine go_skip ?_ | refine go_exit ?_) <;> conv => whnf) | refine go_true rfl ?_ | refine go_false rfl ?_ | refine go_cond rfl (fun h => ?_) (fun h => ?_) | refine ⟨rfl, ?_⟩ | ((first | refine ⟨trivial, ?_⟩ | refine ⟨le_of_ble rfl, ?_⟩) <;> conv => whnf) | fail
  refine go_loop (α := Nat) (fun i => i ≤ 2) (fun i => 2 - i) (fun i => st Try.f133.ntmps [(0, .imm (.list ([a, b].map msgsRow))), (3, .imm (.int .i64 (sumTo a b i : Nat))), (9, .imm (.list ([a, b].map msgsRow))), (10, .imm (.int .i64 2)), (11, .imm (.int .i64 (i : Nat)))] [] []) 0
    (by omega) (ref_st0 rfl ⟨rfl, rfl, rfl, rfl, rfl, trivial⟩ rfl) ?_
  intro i hi
  have hG := c174 (a.length + b.length) (by omega)
  have hi3 : i = 0 ∨ i = 1 ∨ i = 2 := by omega
  rcases hi3 with rfl | rfl | rfl
  · have hr : ([a, b].map msgsRow)[(0 : Int).toNat]? = some (msgsRow a) := rfl
    have e1 : IntKind.i64.wrap ((sumTo a b 0 : Nat) + ((a.map Message.enc).length : Int)) = (sumTo a b 1 : Nat) := by
      rw [List.length_map, wrap_small (by simp only [sumTo]; omega) (by simp only [sumTo]; omega)]
      simp [sumTo]
    repeat' first | refine go_seq ?_ | refine go_region ?_ | ((first | refine go_op rfl ?_ | refine go_nil ?_ | refine go_idx (r := msgsRow a) rfl rfl rfl rfl (by omega) hr rfl ?_) <;> conv => whnf) | ((first | refine go_loadB ?_ | refine ⟨by kernel_rfl, ?_⟩ | refine go_ret ?_) <;> conv => whnf) | refine go_block ?_ | ((first | refine go_skip ?_ | refine go_exit ?_) <;> conv => whnf) | refine go_true rfl ?_ | refine go_false rfl ?_ | refine go_cond rfl (fun h => ?_) (fun h => ?_) | refine ⟨rfl, ?_⟩ | ((first | refine ⟨trivial, ?_⟩ | refine ⟨le_of_ble rfl, ?_⟩) <;> conv => whnf) | fail
    · exfalso; rw [e1] at h; have h' := of_decide_eq_true h; omega
    · refine go_next 1 (by omega) (by omega) (ref_st0 rfl ⟨rfl, ?_, rfl, rfl, next_i (by omega), trivial⟩ rfl)
      show AV.imm _ = AV.imm _
      rw [e1]
  · have hr : ([a, b].map msgsRow)[(1 : Int).toNat]? = some (msgsRow b) := rfl
    have e1 : IntKind.i64.wrap ((sumTo a b 1 : Nat) + ((b.map Message.enc).length : Int)) = (sumTo a b 2 : Nat) := by
      rw [List.length_map, wrap_small (by simp only [sumTo]; omega) (by simp only [sumTo]; omega)]
      simp [sumTo]
    repeat' first | refine go_seq ?_ | refine go_region ?_ | ((first | refine go_op rfl ?_ | refine go_nil ?_ | refine go_idx (r := msgsRow b) rfl rfl rfl rfl (by omega) hr rfl ?_) <;> conv => whnf) | ((first | refine go_loadB ?_ | refine ⟨by kernel_rfl, ?_⟩ | refine go_ret ?_) <;> conv => whnf) | refine go_block ?_ | ((first | refine go_skip ?_ | refine go_exit ?_) <;> conv => whnf) | refine go_true rfl ?_ | refine go_false rfl ?_ | refine go_cond rfl (fun h => ?_) (fun h => ?_) | refine ⟨rfl, ?_⟩ | ((first | refine ⟨trivial, ?_⟩ | refine ⟨le_of_ble rfl, ?_⟩) <;> conv => whnf) | fail
    · exfalso; rw [e1] at h; have h' := of_decide_eq_true h; omega
    · refine go_next 2 (by omega) (by omega) (ref_st0 rfl ⟨rfl, ?_, rfl, rfl, next_i (by omega), trivial⟩ rfl)
      show AV.imm _ = AV.imm _
      rw [e1]
  · skip
    repeat' first | refine go_seq ?_ | refine go_region ?_ | ((first | refine go_op rfl ?_ | refine go_nil ?_ | refine go_call [5] (hG) rfl rfl rfl rfl ?_) <;> conv => whnf) | ((first | refine go_loadB ?_ | refine ⟨by kernel_rfl, ?_⟩ | refine go_ret ?_) <;> conv => whnf) | refine go_block ?_ | ((first | refine go_skip ?_ | refine go_exit ?_) <;> conv => whnf) | refine go_true rfl ?_ | refine go_false rfl ?_ | refine go_cond rfl (fun h => ?_) (fun h => ?_) | refine ⟨rfl, ?_⟩ | ((first | refine ⟨trivial, ?_⟩ | refine ⟨le_of_ble rfl, ?_⟩) <;> conv => whnf) | fail
    refine go_loop (α := Nat) (fun i => i ≤ 2) (fun i => 2 - i) (fun i => st Try.f133.ntmps [(6, .own 1000 0 ((catTo a b i).map Message.enc).length), (25, .imm (.list ([a, b].map msgsRow))), (26, .imm (.int .i64 2)), (27, .imm (.int .i64 (i : Nat)))] [(1000, .arr 163 6 ((catTo a b i).map Message.enc))] []) 0
      (by omega) (ref_st (fun _ => nid 3 24) rfl ⟨⟨rfl, rfl⟩, rfl, rfl, rfl, trivial⟩ ⟨rfl, trivial⟩ (by simp) rfl (by simp)) ?_
    intro i hi
    have hi3 : i = 0 ∨ i = 1 ∨ i = 2 := by omega
    rcases hi3 with rfl | rfl | rfl
    · have hr : ([a, b].map msgsRow)[(0 : Int).toNat]? = some (msgsRow a) := rfl
      repeat' first | refine go_seq ?_ | refine go_region ?_ | ((first | refine go_op rfl ?_ | refine go_nil ?_ | refine go_idx (r := msgsRow a) rfl rfl rfl rfl (by omega) hr rfl ?_ | refine go_appImm rfl rfl rfl rfl rfl rfl rfl rfl rfl (message_one' _) rfl rfl (by simp [catTo]; omega) ?_) <;> conv => whnf) | ((first | refine go_loadB ?_ | refine ⟨by kernel_rfl, ?_⟩ | refine go_ret ?_) <;> conv => whnf) | refine go_block ?_ | ((first | refine go_skip ?_ | refine go_exit ?_) <;> conv => whnf) | refine go_true rfl ?_ | refine go_false rfl ?_ | refine go_cond rfl (fun h => ?_) (fun h => ?_) | refine ⟨rfl, ?_⟩ | ((first | refine ⟨trivial, ?_⟩ | refine ⟨le_of_ble rfl, ?_⟩) <;> conv => whnf) | fail
      · refine go_next 1 (by omega) (by omega) (ref_st (fun _ => nid 4 33) rfl ⟨⟨?_, rfl⟩, rfl, rfl, next_i (by omega), trivial⟩ ⟨?_, trivial⟩ (by simp) rfl (by simp))
        · show AV.own _ _ _ = AV.own _ _ _
          simp [catTo]; try rfl
        · show some _ = some _
          simp [catTo]; try rfl
    · have hr : ([a, b].map msgsRow)[(1 : Int).toNat]? = some (msgsRow b) := rfl
      repeat' first | refine go_seq ?_ | refine go_region ?_ | ((first | refine go_op rfl ?_ | refine go_nil ?_ | refine go_idx (r := msgsRow b) rfl rfl rfl rfl (by omega) hr rfl ?_ | refine go_appImm rfl rfl rfl rfl rfl rfl rfl rfl rfl (message_one' _) rfl rfl (by simp [catTo]; omega) ?_) <;> conv => whnf) | ((first | refine go_loadB ?_ | refine ⟨by kernel_rfl, ?_⟩ | refine go_ret ?_) <;> conv => whnf) | refine go_block ?_ | ((first | refine go_skip ?_ | refine go_exit ?_) <;> conv => whnf) | refine go_true rfl ?_ | refine go_false rfl ?_ | refine go_cond rfl (fun h => ?_) (fun h => ?_) | refine ⟨rfl, ?_⟩ | ((first | refine ⟨trivial, ?_⟩ | refine ⟨le_of_ble rfl, ?_⟩) <;> conv => whnf) | fail
      · refine go_next 2 (by omega) (by omega) (ref_st (fun _ => nid 4 33) rfl ⟨⟨?_, rfl⟩, rfl, rfl, next_i (by omega), trivial⟩ ⟨?_, trivial⟩ (by simp) rfl (by simp))
        · show AV.own _ _ _ = AV.own _ _ _
          simp [catTo]; try rfl
        · show some _ = some _
          simp [catTo]; try rfl
    · skip
      repeat' first | refine go_seq ?_ | refine go_region ?_ | ((first | refine go_op rfl ?_ | refine go_nil ?_) <;> conv => whnf) | ((first | refine go_loadB ?_ | refine ⟨by kernel_rfl, ?_⟩ | refine go_ret ?_) <;> conv => whnf) | refine go_block ?_ | ((first | refine go_skip ?_ | refine go_exit ?_) <;> conv => whnf) | refine go_true rfl ?_ | refine go_false rfl ?_ | refine go_cond rfl (fun h => ?_) (fun h => ?_) | refine ⟨rfl, ?_⟩ | ((first | refine ⟨trivial, ?_⟩ | refine ⟨le_of_ble rfl, ?_⟩) <;> conv => whnf) | fail
      all_goals exact ret_own rfl rfl rfl rfl rfl (by rw [List.drop_zero, List.take_length]; rfl) (message_gr _)
end Go.Proofs.Ytbjjhiihoiogoaa

