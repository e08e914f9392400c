/- The walks of the quantile of the delays. -/
import Derived.Test.YtnjojepeilgikaaV14
import Derived.Test.YtnjojepeilgikaaAm32
namespace Go.Proofs.Ytnjojepeilgikaa
open Go Go.Am Go.Shelf
set_option maxRecDepth 100000
set_option maxHeartbeats 4000000
attribute [local irreducible] amOps amC opCall opIndexAddr opPick retQ opMake opStore amDraw opAppend opLoad opNilCmp

def delW (v : Visit) : Int := IntKind.i64.wrap (v.actual - v.planned)
def dels (xs : List Visit) : List Int := xs.map delW
def dqOk (num den : Int) (xs : List Visit) : Bool := valid xs && !decide (xs.length = 0) && inR den 1 1000 && inR num 1 den
def dqV (num den : Int) (xs : List Visit) : Int := if dqOk num den xs then bestAt num den xs.length (dels xs) xs.length else 0

theorem dels_at {xs : List Visit} {i : Nat} {v : Visit} (h : xs[i]? = some v) : (dels xs)[i]? = some (delW v) := by simp [dels, h]
theorem dels_len (xs : List Visit) : (dels xs).length = xs.length := by simp [dels]

theorem dels_le {xs : List Visit} (hok : ∀ v ∈ xs, v.ok) (hv : valid xs = true) : ∀ d ∈ dels xs, d ≤ 600 := by
  intro d hd
  obtain ⟨v, hvm, rfl⟩ := List.mem_map.1 hd
  simp only [valid, Bool.and_eq_true, List.all_eq_true] at hv
  have hg := hv.2 v hvm
  have h2 := good_same v (hok v hvm)
  rw [hg] at h2
  simp only [vGood1, Bool.and_eq_true, inR, decide_eq_true_eq] at h2
  exact h2.1.2.2

theorem cnt_next {ds : List Int} {k : Nat} {x d : Int} (h : ds[k]? = some x) : cntLe (ds.take (k + 1)) d = cntLe (ds.take k) d + (if x ≤ d then 1 else 0) := by
  unfold cntLe
  rw [List.take_add_one, h]
  simp only [Option.toList_some, List.filter_append, List.length_append]
  by_cases hx : x ≤ d <;> simp [hx]

theorem cnt_len (ds : List Int) (d : Int) : cntLe ds d ≤ ds.length := List.length_filter_le _ _

theorem mul_small' {a b : Int} (h1 : 0 ≤ a) (h2 : a ≤ 1000) (h3 : 0 ≤ b) (h4 : b ≤ 1000) : IntKind.i64.wrap (a * b) = a * b := by
  have q1 : 0 ≤ a * b := Int.mul_nonneg h1 h3
  have q2 : a * b ≤ 1000 * 1000 := Int.mul_le_mul h2 h4 h3 (by omega)
  exact wrap_small (by omega) (by omega)

theorem c60 (a b : Int) : CallOk Try.prog 60 [.imm (.int .i64 a), .imm (.int .i64 b)] { res := [.imm (.int .i64 (least a b))] } := by
  refine callOk_of tyOk Try.func60 rfl rfl (le_of_ble rfl) (le_of_ble rfl) (mutOk_imm rfl _) ?_
  repeat' first
    | refine go_seq ?_
    | refine go_region ?_
    | (refine go_op rfl ?_; conv => whnf)
    | (refine go_nil ?_; conv => whnf)
    | (refine go_hit rfl rfl rfl ?_; conv => whnf)
    | (refine go_miss rfl rfl rfl ?_)
    | (refine go_undef rfl rfl rfl ?_)
    | (refine go_splitT rfl rfl rfl (fun h => ?_) (fun h => ?_) <;> conv => whnf)
    | (refine go_splitF rfl rfl rfl (fun h => ?_) (fun h => ?_) <;> conv => whnf)
    | (refine go_storeBox rfl rfl rfl rfl rfl rfl ?_; conv => whnf)
    | (refine go_dop rfl ?_; conv => whnf)
    | (refine go_dhit rfl rfl ?_; conv => whnf)
    | (refine go_dmiss rfl rfl ?_; conv => whnf)
    | (refine go_dundef rfl rfl ?_; conv => whnf)
    | (refine go_dend (by kernel_rfl) ?_; conv => whnf)
    | refine go_draw drawsOk ?_
    | (refine go_pickT rfl ?_; conv => whnf)
    | (refine go_pickF rfl ?_; conv => whnf)
    | (refine go_pick rfl (fun h => ?_) (fun h => ?_) <;> conv => whnf)
    | (refine go_dsplit2 rfl (fun h => ?_) (fun h => ?_) <;> conv => whnf)
    | (refine go_loadB ?_; conv => whnf)
    | (refine ⟨by kernel_rfl, ?_⟩; conv => whnf)
    | (refine go_ret ?_; conv => whnf)
    | refine go_block ?_
    | (refine go_skip ?_; conv => whnf)
    | (refine go_exit ?_; conv => whnf)
    | refine go_true rfl ?_
    | refine go_false rfl ?_
    | refine go_cond rfl (fun h => ?_) (fun h => ?_)
    | refine ⟨rfl, ?_⟩
    | (refine ⟨trivial, ?_⟩; conv => whnf)
    | (refine ⟨le_of_ble rfl, ?_⟩; conv => whnf)
    | fail
  all_goals refine ret_imm rfl rfl rfl rfl ?_ rfl
  all_goals simp_all [least]
  all_goals omega

theorem c34 (xs : List Visit) (num den : Int) (hok : ∀ v ∈ xs, v.ok) (hl : xs.length ≤ 1048576) : CallOk Try.prog 34 [.imm (.list (xs.map Visit.enc)), .imm (.int .i64 num), .imm (.int .i64 den)]
    { res := [.imm (.int .i64 (dqV num den xs)), .imm (.bool (dqOk num den xs))] } := by
  refine callOk_of tyOk Try.func34 rfl rfl (le_of_ble rfl) (le_of_ble rfl) (mutOk_imm rfl _) ?_
  have hc38 := valid_spec hok hl
  have hcd := c52 den 1 1000
  have hcn := c52 num 1 den
  cases hv : valid xs with
  | false =>
    have hm : dqOk num den xs = false := by simp [dqOk, hv]
    rw [hv] at hc38
    repeat' first
      | refine go_seq ?_
      | refine go_region ?_
      | (refine go_op rfl ?_; conv => whnf)
      | (refine go_nil ?_; conv => whnf)
      | (refine go_hit rfl rfl rfl ?_; conv => whnf)
      | (refine go_miss rfl rfl rfl ?_)
      | (refine go_undef rfl rfl rfl ?_)
      | (refine go_splitT rfl rfl rfl (fun h => ?_) (fun h => ?_) <;> conv => whnf)
      | (refine go_splitF rfl rfl rfl (fun h => ?_) (fun h => ?_) <;> conv => whnf)
      | (refine go_storeBox rfl rfl rfl rfl rfl rfl ?_; conv => whnf)
      | (refine go_dop rfl ?_; conv => whnf)
      | (refine go_dhit rfl rfl ?_; conv => whnf)
      | (refine go_dmiss rfl rfl ?_; conv => whnf)
      | (refine go_dundef rfl rfl ?_; conv => whnf)
      | (refine go_dend (by kernel_rfl) ?_; conv => whnf)
      | refine go_draw drawsOk ?_
      | (refine go_pickT rfl ?_; conv => whnf)
      | (refine go_pickF rfl ?_; conv => whnf)
      | (refine go_pick rfl (fun h => ?_) (fun h => ?_) <;> conv => whnf)
      | (refine go_call [] (hc38) rfl rfl rfl rfl ?_; conv => whnf)
      | (refine go_dsplit2 rfl (fun h => ?_) (fun h => ?_) <;> conv => whnf)
      | (refine go_loadB ?_; conv => whnf)
      | (refine ⟨by kernel_rfl, ?_⟩; conv => whnf)
      | (refine go_ret ?_; conv => whnf)
      | refine go_block ?_
      | (refine go_skip ?_; conv => whnf)
      | (refine go_exit ?_; conv => whnf)
      | refine go_true rfl ?_
      | refine go_false rfl ?_
      | refine go_cond rfl (fun h => ?_) (fun h => ?_)
      | refine ⟨rfl, ?_⟩
      | (refine ⟨trivial, ?_⟩; conv => whnf)
      | (refine ⟨le_of_ble rfl, ?_⟩; conv => whnf)
      | fail
    all_goals exact ret_imm2 rfl rfl rfl rfl rfl (by simp [dqV, hm]) (by simp [hm]) rfl
  | true =>
    rw [hv] at hc38
    obtain ⟨h30, _⟩ := valid_at hv
    by_cases h0 : xs.length = 0
    · have hm : dqOk num den xs = false := by simp [dqOk, h0]
      have hnil : xs = [] := List.eq_nil_of_length_eq_zero h0
      subst hnil
      repeat' first
        | refine go_seq ?_
        | refine go_region ?_
        | (refine go_op rfl ?_; conv => whnf)
        | (refine go_nil ?_; conv => whnf)
        | (refine go_hit rfl rfl rfl ?_; conv => whnf)
        | (refine go_miss rfl rfl rfl ?_)
        | (refine go_undef rfl rfl rfl ?_)
        | (refine go_splitT rfl rfl rfl (fun h => ?_) (fun h => ?_) <;> conv => whnf)
        | (refine go_splitF rfl rfl rfl (fun h => ?_) (fun h => ?_) <;> conv => whnf)
        | (refine go_storeBox rfl rfl rfl rfl rfl rfl ?_; conv => whnf)
        | (refine go_dop rfl ?_; conv => whnf)
        | (refine go_dhit rfl rfl ?_; conv => whnf)
        | (refine go_dmiss rfl rfl ?_; conv => whnf)
        | (refine go_dundef rfl rfl ?_; conv => whnf)
        | (refine go_dend (by kernel_rfl) ?_; conv => whnf)
        | refine go_draw drawsOk ?_
        | (refine go_pickT rfl ?_; conv => whnf)
        | (refine go_pickF rfl ?_; conv => whnf)
        | (refine go_pick rfl (fun h => ?_) (fun h => ?_) <;> conv => whnf)
        | (refine go_call [] (hc38) rfl rfl rfl rfl ?_; conv => whnf)
        | (refine go_dsplit2 rfl (fun h => ?_) (fun h => ?_) <;> conv => whnf)
        | (refine go_loadB ?_; conv => whnf)
        | (refine ⟨by kernel_rfl, ?_⟩; conv => whnf)
        | (refine go_ret ?_; conv => whnf)
        | refine go_block ?_
        | (refine go_skip ?_; conv => whnf)
        | (refine go_exit ?_; conv => whnf)
        | refine go_true rfl ?_
        | refine go_false rfl ?_
        | refine go_cond rfl (fun h => ?_) (fun h => ?_)
        | refine ⟨rfl, ?_⟩
        | (refine ⟨trivial, ?_⟩; conv => whnf)
        | (refine ⟨le_of_ble rfl, ?_⟩; conv => whnf)
        | fail
      all_goals exact ret_imm2 rfl rfl rfl rfl rfl (by simp [dqV, hm]) (by simp [hm]) rfl
    · have hlm : (xs.map Visit.enc).length = xs.length := List.length_map _
      have hne : decide (((xs.map Visit.enc).length : Int) = 0) = false := by rw [hlm]; simp; intro h; exact h0 (by simp [h])
      cases hd : inR den 1 1000 with
      | false =>
        have hm : dqOk num den xs = false := by simp [dqOk, hd]
        rw [hd] at hcd
        repeat' first
          | refine go_seq ?_
          | refine go_region ?_
          | (refine go_op rfl ?_; conv => whnf)
          | (refine go_nil ?_; conv => whnf)
          | (refine go_hit rfl rfl rfl ?_; conv => whnf)
          | (refine go_miss rfl rfl rfl ?_)
          | (refine go_undef rfl rfl rfl ?_)
          | (refine go_splitT rfl rfl rfl (fun h => ?_) (fun h => ?_) <;> conv => whnf)
          | (refine go_splitF rfl rfl rfl (fun h => ?_) (fun h => ?_) <;> conv => whnf)
          | (refine go_storeBox rfl rfl rfl rfl rfl rfl ?_; conv => whnf)
          | (refine go_dop rfl ?_; conv => whnf)
          | (refine go_dhit rfl rfl ?_; conv => whnf)
          | (refine go_dmiss rfl rfl ?_; conv => whnf)
          | (refine go_dundef rfl rfl ?_; conv => whnf)
          | (refine go_dend (by kernel_rfl) ?_; conv => whnf)
          | refine go_draw drawsOk ?_
          | (refine go_pickT rfl ?_; conv => whnf)
          | (refine go_pickF rfl ?_; conv => whnf)
          | (refine go_pick rfl (fun h => ?_) (fun h => ?_) <;> conv => whnf)
          | (refine go_call [] (hc38) rfl rfl rfl rfl ?_; conv => whnf)
          | (refine go_call [] (hcd) rfl rfl rfl rfl ?_; conv => whnf)
          | (refine go_dsplit2 rfl (fun h => ?_) (fun h => ?_) <;> conv => whnf)
          | (refine go_loadB ?_; conv => whnf)
          | (refine ⟨by kernel_rfl, ?_⟩; conv => whnf)
          | (refine go_ret ?_; conv => whnf)
          | refine go_block ?_
          | (refine go_skip ?_; conv => whnf)
          | (refine go_exit ?_; conv => whnf)
          | refine go_true rfl ?_
          | refine go_false rfl ?_
          | refine go_cond rfl (fun h => ?_) (fun h => ?_)
          | refine ⟨rfl, ?_⟩
          | (refine ⟨trivial, ?_⟩; conv => whnf)
          | (refine ⟨le_of_ble rfl, ?_⟩; conv => whnf)
          | fail
        all_goals exact ret_imm2 rfl rfl rfl rfl rfl (by simp [dqV, hm]) (by simp [hm]) rfl
      | true =>
        rw [hd] at hcd
        cases hn : inR num 1 den with
        | false =>
          have hm : dqOk num den xs = false := by simp [dqOk, hn]
          rw [hn] at hcn
          repeat' first
            | refine go_seq ?_
            | refine go_region ?_
            | (refine go_op rfl ?_; conv => whnf)
            | (refine go_nil ?_; conv => whnf)
            | (refine go_hit rfl rfl rfl ?_; conv => whnf)
            | (refine go_miss rfl rfl rfl ?_)
            | (refine go_undef rfl rfl rfl ?_)
            | (refine go_splitT rfl rfl rfl (fun h => ?_) (fun h => ?_) <;> conv => whnf)
            | (refine go_splitF rfl rfl rfl (fun h => ?_) (fun h => ?_) <;> conv => whnf)
            | (refine go_storeBox rfl rfl rfl rfl rfl rfl ?_; conv => whnf)
            | (refine go_dop rfl ?_; conv => whnf)
            | (refine go_dhit rfl rfl ?_; conv => whnf)
            | (refine go_dmiss rfl rfl ?_; conv => whnf)
            | (refine go_dundef rfl rfl ?_; conv => whnf)
            | (refine go_dend (by kernel_rfl) ?_; conv => whnf)
            | refine go_draw drawsOk ?_
            | (refine go_pickT rfl ?_; conv => whnf)
            | (refine go_pickF rfl ?_; conv => whnf)
            | (refine go_pick rfl (fun h => ?_) (fun h => ?_) <;> conv => whnf)
            | (refine go_call [] (hc38) rfl rfl rfl rfl ?_; conv => whnf)
            | (refine go_call [] (hcd) rfl rfl rfl rfl ?_; conv => whnf)
            | (refine go_call [] (hcn) rfl rfl rfl rfl ?_; conv => whnf)
            | (refine go_dsplit2 rfl (fun h => ?_) (fun h => ?_) <;> conv => whnf)
            | (refine go_loadB ?_; conv => whnf)
            | (refine ⟨by kernel_rfl, ?_⟩; conv => whnf)
            | (refine go_ret ?_; conv => whnf)
            | refine go_block ?_
            | (refine go_skip ?_; conv => whnf)
            | (refine go_exit ?_; conv => whnf)
            | refine go_true rfl ?_
            | refine go_false rfl ?_
            | refine go_cond rfl (fun h => ?_) (fun h => ?_)
            | refine ⟨rfl, ?_⟩
            | (refine ⟨trivial, ?_⟩; conv => whnf)
            | (refine ⟨le_of_ble rfl, ?_⟩; conv => whnf)
            | fail
          all_goals exact ret_imm2 rfl rfl rfl rfl rfl (by simp [dqV, hm]) (by simp [hm]) rfl
        | true =>
          have hm : dqOk num den xs = true := by simp [dqOk, hv, hd, hn]; intro h; exact h0 (by simp [h])
          rw [hn] at hcn
          have hdr : 1 ≤ den ∧ den ≤ 1000 := by simpa [inR] using hd
          have hnr : 1 ≤ num ∧ num ≤ den := by simpa [inR] using hn
          repeat' first
            | refine go_seq ?_
            | refine go_region ?_
            | (refine go_op rfl ?_; conv => whnf)
            | (refine go_nil ?_; conv => whnf)
            | (refine go_hit rfl rfl rfl ?_; conv => whnf)
            | (refine go_miss rfl rfl rfl ?_)
            | (refine go_undef rfl rfl rfl ?_)
            | (refine go_splitT rfl rfl rfl (fun h => ?_) (fun h => ?_) <;> conv => whnf)
            | (refine go_splitF rfl rfl rfl (fun h => ?_) (fun h => ?_) <;> conv => whnf)
            | (refine go_storeBox rfl rfl rfl rfl rfl rfl ?_; conv => whnf)
            | (refine go_dop rfl ?_; conv => whnf)
            | (refine go_dhit rfl rfl ?_; conv => whnf)
            | (refine go_dmiss rfl rfl ?_; conv => whnf)
            | (refine go_dundef rfl rfl ?_; conv => whnf)
            | (refine go_dend (by kernel_rfl) ?_; conv => whnf)
            | refine go_draw drawsOk ?_
            | (refine go_pickT rfl ?_; conv => whnf)
            | (refine go_pickF rfl ?_; conv => whnf)
            | (refine go_pick rfl (fun h => ?_) (fun h => ?_) <;> conv => whnf)
            | (refine go_call [] (hc38) rfl rfl rfl rfl ?_; conv => whnf)
            | (refine go_call [] (hcd) rfl rfl rfl rfl ?_; conv => whnf)
            | (refine go_call [] (hcn) rfl rfl rfl rfl ?_; conv => whnf)
            | (refine go_dsplit2 rfl (fun h => ?_) (fun h => ?_) <;> conv => whnf)
            | (refine go_loadB ?_; conv => whnf)
            | (refine ⟨by kernel_rfl, ?_⟩; conv => whnf)
            | (refine go_ret ?_; conv => whnf)
            | refine go_block ?_
            | (refine go_skip ?_; conv => whnf)
            | (refine go_exit ?_; conv => whnf)
            | refine go_true rfl ?_
            | refine go_false rfl ?_
            | refine go_cond rfl (fun h => ?_) (fun h => ?_)
            | refine ⟨rfl, ?_⟩
            | (refine ⟨trivial, ?_⟩; conv => whnf)
            | (refine ⟨le_of_ble rfl, ?_⟩; conv => whnf)
            | fail
          all_goals try (exfalso; rw [hne] at h; cases h; done)
          refine go_loop (α := Nat) (fun i => i ≤ xs.length) (fun i => xs.length - i) (fun i => st Try.f34.ntmps [(0, .imm (.list (xs.map Visit.enc))), (1, .imm (.int .i64 num)), (2, .imm (.int .i64 den)), (8, .imm (.int .i64 (bestAt num den xs.length (dels xs) i))), (9, .imm (.int .i64 (i : Nat)))] [] []) 0 (Nat.zero_le _)
            (ref_st0 rfl ⟨rfl, rfl, rfl, rfl, rfl, trivial⟩ rfl) ?_
          intro i hi
          cases hx : xs[i]? with
          | none =>
            have hge := le_of_at hx
            have hie : i = xs.length := by omega
            repeat' first
              | refine go_seq ?_
              | refine go_region ?_
              | (refine go_op rfl ?_; conv => whnf)
              | (refine go_nil ?_; conv => whnf)
              | (refine go_hit rfl rfl rfl ?_; conv => whnf)
              | (refine go_miss rfl rfl rfl ?_)
              | (refine go_undef rfl rfl rfl ?_)
              | (refine go_splitT rfl rfl rfl (fun h => ?_) (fun h => ?_) <;> conv => whnf)
              | (refine go_splitF rfl rfl rfl (fun h => ?_) (fun h => ?_) <;> conv => whnf)
              | (refine go_storeBox rfl rfl rfl rfl rfl rfl ?_; conv => whnf)
              | (refine go_dop rfl ?_; conv => whnf)
              | (refine go_dhit rfl rfl ?_; conv => whnf)
              | (refine go_dmiss rfl rfl ?_; conv => whnf)
              | (refine go_dundef rfl rfl ?_; conv => whnf)
              | (refine go_dend (by kernel_rfl) ?_; conv => whnf)
              | refine go_draw drawsOk ?_
              | (refine go_pickT rfl ?_; conv => whnf)
              | (refine go_pickF rfl ?_; conv => whnf)
              | (refine go_pick rfl (fun h => ?_) (fun h => ?_) <;> conv => whnf)
              | (refine go_dsplit2 rfl (fun h => ?_) (fun h => ?_) <;> conv => whnf)
              | (refine go_loadB ?_; conv => whnf)
              | (refine ⟨by kernel_rfl, ?_⟩; conv => whnf)
              | (refine go_ret ?_; conv => whnf)
              | refine go_block ?_
              | (refine go_skip ?_; conv => whnf)
              | (refine go_exit ?_; conv => whnf)
              | refine go_true rfl ?_
              | refine go_false rfl ?_
              | refine go_cond rfl (fun h => ?_) (fun h => ?_)
              | refine ⟨rfl, ?_⟩
              | (refine ⟨trivial, ?_⟩; conv => whnf)
              | (refine ⟨le_of_ble rfl, ?_⟩; conv => whnf)
              | fail
            · exfalso; simp at *; omega
            · exact ret_imm2 rfl rfl rfl rfl rfl (by simp [dqV, hm, hie]) (by simp [hm]) rfl
          | some v =>
            have hlt := lt_of_at hx
            have hr := row_at Visit.enc hx
            repeat' first
              | refine go_seq ?_
              | refine go_region ?_
              | (refine go_op rfl ?_; conv => whnf)
              | (refine go_nil ?_; conv => whnf)
              | (refine go_hit rfl rfl rfl ?_; conv => whnf)
              | (refine go_miss rfl rfl rfl ?_)
              | (refine go_undef rfl rfl rfl ?_)
              | (refine go_splitT rfl rfl rfl (fun h => ?_) (fun h => ?_) <;> conv => whnf)
              | (refine go_splitF rfl rfl rfl (fun h => ?_) (fun h => ?_) <;> conv => whnf)
              | (refine go_storeBox rfl rfl rfl rfl rfl rfl ?_; conv => whnf)
              | (refine go_dop rfl ?_; conv => whnf)
              | (refine go_dhit rfl rfl ?_; conv => whnf)
              | (refine go_dmiss rfl rfl ?_; conv => whnf)
              | (refine go_dundef rfl rfl ?_; conv => whnf)
              | (refine go_dend (by kernel_rfl) ?_; conv => whnf)
              | refine go_draw drawsOk ?_
              | (refine go_pickT rfl ?_; conv => whnf)
              | (refine go_pickF rfl ?_; conv => whnf)
              | (refine go_pick rfl (fun h => ?_) (fun h => ?_) <;> conv => whnf)
              | (refine go_idx rfl rfl rfl rfl (by omega) hr rfl ?_; conv => whnf)
              | (refine go_dsplit2 rfl (fun h => ?_) (fun h => ?_) <;> conv => whnf)
              | (refine go_loadB ?_; conv => whnf)
              | (refine ⟨by kernel_rfl, ?_⟩; conv => whnf)
              | (refine go_ret ?_; conv => whnf)
              | refine go_block ?_
              | (refine go_skip ?_; conv => whnf)
              | (refine go_exit ?_; conv => whnf)
              | refine go_true rfl ?_
              | refine go_false rfl ?_
              | refine go_cond rfl (fun h => ?_) (fun h => ?_)
              | refine ⟨rfl, ?_⟩
              | (refine ⟨trivial, ?_⟩; conv => whnf)
              | (refine ⟨le_of_ble rfl, ?_⟩; conv => whnf)
              | fail
            · refine go_loop (α := Nat) (fun k => k ≤ xs.length) (fun k => xs.length - k) (fun k => st Try.f34.ntmps [(0, .imm (.list (xs.map Visit.enc))), (1, .imm (.int .i64 num)), (2, .imm (.int .i64 den)), (8, .imm (.int .i64 (bestAt num den xs.length (dels xs) i))), (9, .imm (.int .i64 (i : Nat))),
                (10, .imm (.int .i64 (delW v))), (11, .imm (.int .i64 (cntLe ((dels xs).take k) (delW v) : Nat))), (12, .imm (.int .i64 (k : Nat)))] [] []) 0 (Nat.zero_le _)
                (ref_st0 rfl ⟨rfl, rfl, rfl, rfl, rfl, rfl, rfl, rfl, trivial⟩ rfl) ?_
              intro k hk
              cases hy : xs[k]? with
              | none =>
                have hge := le_of_at hy
                have hc60 := c60 (bestAt num den xs.length (dels xs) i) (delW v)
                have hte : (dels xs).take k = dels xs := List.take_of_length_le (by rw [dels_len]; omega)
                rw [hte]
                have hcl := cnt_len (dels xs) (delW v)
                rw [dels_len] at hcl
                have e1 := mul_small' (a := (cntLe (dels xs) (delW v) : Nat)) (b := den) (by omega) (by omega) (by omega) (by omega)
                have e2 := mul_small' (a := num) (b := (xs.length : Nat)) (by omega) (by omega) (by omega) (by omega)
                repeat' first
                  | refine go_seq ?_
                  | refine go_region ?_
                  | (refine go_op rfl ?_; conv => whnf)
                  | (refine go_nil ?_; conv => whnf)
                  | (refine go_hit rfl rfl rfl ?_; conv => whnf)
                  | (refine go_miss rfl rfl rfl ?_)
                  | (refine go_undef rfl rfl rfl ?_)
                  | (refine go_splitT rfl rfl rfl (fun h => ?_) (fun h => ?_) <;> conv => whnf)
                  | (refine go_splitF rfl rfl rfl (fun h => ?_) (fun h => ?_) <;> conv => whnf)
                  | (refine go_storeBox rfl rfl rfl rfl rfl rfl ?_; conv => whnf)
                  | (refine go_dop rfl ?_; conv => whnf)
                  | (refine go_dhit rfl rfl ?_; conv => whnf)
                  | (refine go_dmiss rfl rfl ?_; conv => whnf)
                  | (refine go_dundef rfl rfl ?_; conv => whnf)
                  | (refine go_dend (by kernel_rfl) ?_; conv => whnf)
                  | refine go_draw drawsOk ?_
                  | (refine go_pickT rfl ?_; conv => whnf)
                  | (refine go_pickF rfl ?_; conv => whnf)
                  | (refine go_pick rfl (fun h => ?_) (fun h => ?_) <;> conv => whnf)
                  | (refine go_call [] (hc60) rfl rfl rfl rfl ?_; conv => whnf)
                  | (refine go_dsplit2 rfl (fun h => ?_) (fun h => ?_) <;> conv => whnf)
                  | (refine go_loadB ?_; conv => whnf)
                  | (refine ⟨by kernel_rfl, ?_⟩; conv => whnf)
                  | (refine go_ret ?_; conv => whnf)
                  | refine go_block ?_
                  | (refine go_skip ?_; conv => whnf)
                  | (refine go_exit ?_; conv => whnf)
                  | refine go_true rfl ?_
                  | refine go_false rfl ?_
                  | refine go_cond rfl (fun h => ?_) (fun h => ?_)
                  | refine ⟨rfl, ?_⟩
                  | (refine ⟨trivial, ?_⟩; conv => whnf)
                  | (refine ⟨le_of_ble rfl, ?_⟩; conv => whnf)
                  | fail
                · exfalso; simp at *; omega
                · rw [hlm, e1, e2] at h
                  refine go_next (i + 1) (by omega) (by omega) (ref_st0 rfl ⟨rfl, rfl, rfl, ?_, next_i (by omega), trivial⟩ rfl)
                  show AV.imm (.int .i64 _) = AV.imm (.int .i64 _)
                  simp only [bestAt, dels_at hx]
                  rw [if_pos (by simpa using h)]
                · rw [hlm, e1, e2] at h
                  refine go_next (i + 1) (by omega) (by omega) (ref_st0 rfl ⟨rfl, rfl, rfl, ?_, next_i (by omega), trivial⟩ rfl)
                  show AV.imm (.int .i64 _) = AV.imm (.int .i64 _)
                  simp only [bestAt, dels_at hx]
                  rw [if_neg (by simpa using h)]
              | some u =>
                have hltk := lt_of_at hy
                have hr2 := row_at Visit.enc hy
                have hck := cnt_len ((dels xs).take k) (delW v)
                have hck2 : ((dels xs).take k).length ≤ 30 := by rw [List.length_take, dels_len]; omega
                repeat' first
                  | refine go_seq ?_
                  | refine go_region ?_
                  | (refine go_op rfl ?_; conv => whnf)
                  | (refine go_nil ?_; conv => whnf)
                  | (refine go_hit rfl rfl rfl ?_; conv => whnf)
                  | (refine go_miss rfl rfl rfl ?_)
                  | (refine go_undef rfl rfl rfl ?_)
                  | (refine go_splitT rfl rfl rfl (fun h => ?_) (fun h => ?_) <;> conv => whnf)
                  | (refine go_splitF rfl rfl rfl (fun h => ?_) (fun h => ?_) <;> conv => whnf)
                  | (refine go_storeBox rfl rfl rfl rfl rfl rfl ?_; conv => whnf)
                  | (refine go_dop rfl ?_; conv => whnf)
                  | (refine go_dhit rfl rfl ?_; conv => whnf)
                  | (refine go_dmiss rfl rfl ?_; conv => whnf)
                  | (refine go_dundef rfl rfl ?_; conv => whnf)
                  | (refine go_dend (by kernel_rfl) ?_; conv => whnf)
                  | refine go_draw drawsOk ?_
                  | (refine go_pickT rfl ?_; conv => whnf)
                  | (refine go_pickF rfl ?_; conv => whnf)
                  | (refine go_pick rfl (fun h => ?_) (fun h => ?_) <;> conv => whnf)
                  | (refine go_idx rfl rfl rfl rfl (by omega) hr2 rfl ?_; conv => whnf)
                  | (refine go_dsplit2 rfl (fun h => ?_) (fun h => ?_) <;> conv => whnf)
                  | (refine go_loadB ?_; conv => whnf)
                  | (refine ⟨by kernel_rfl, ?_⟩; conv => whnf)
                  | (refine go_ret ?_; conv => whnf)
                  | refine go_block ?_
                  | (refine go_skip ?_; conv => whnf)
                  | (refine go_exit ?_; conv => whnf)
                  | refine go_true rfl ?_
                  | refine go_false rfl ?_
                  | refine go_cond rfl (fun h => ?_) (fun h => ?_)
                  | refine ⟨rfl, ?_⟩
                  | (refine ⟨trivial, ?_⟩; conv => whnf)
                  | (refine ⟨le_of_ble rfl, ?_⟩; conv => whnf)
                  | fail
                · refine go_next (k + 1) (by omega) (by omega) (ref_st0 rfl ⟨rfl, rfl, rfl, rfl, rfl, rfl, ?_, next_i (by omega), trivial⟩ rfl)
                  show AV.imm (.int .i64 _) = AV.imm (.int .i64 _)
                  rw [cnt_next (dels_at hy), if_pos (show delW u ≤ delW v from of_decide_eq_true h), wrap_small (by omega) (by omega)]
                  congr 2
                · refine go_next (k + 1) (by omega) (by omega) (ref_st0 rfl ⟨rfl, rfl, rfl, rfl, rfl, rfl, ?_, next_i (by omega), trivial⟩ rfl)
                  show AV.imm (.int .i64 _) = AV.imm (.int .i64 _)
                  rw [cnt_next (dels_at hy), if_neg (show ¬ delW u ≤ delW v from of_decide_eq_false h)]
                  congr 2
                all_goals first
                  | (exfalso; rw [hlm] at h; simp only [decide_eq_false_iff_not] at h; omega)
                  | (exfalso; rename_i hq; rw [hlm] at hq; simp only [decide_eq_false_iff_not] at hq; omega)
            · exfalso; simp at *; omega
end Go.Proofs.Ytnjojepeilgikaa

