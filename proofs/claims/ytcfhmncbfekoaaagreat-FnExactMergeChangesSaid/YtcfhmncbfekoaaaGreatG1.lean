/- Lists of changes: one behind another, sorted, neighbors once. -/
import Derived.Test.YtcfhmncbfekoaaaGreatG0
import Derived.Test.YtcfhmncbfekoaaaGreatAmG
import Derived.Test.YtcfhmncbfekoaaaGreatAmO
import Derived.Test.YtcfhmncbfekoaaaGreatAmM
import Derived.Test.YtcfhmncbfekoaaaGreatT1
import Derived.Test.YtcfhmncbfekoaaaGreatRC
namespace Go.Proofs.YtcfhmncbfekoaaaGreat
open Go Go.Am Go.Proofs
set_option maxRecDepth 100000
set_option maxHeartbeats 8000000

def growCRen : Go.Shelf.Ren := ⟨fun | 4 => 59 | n => n, fun | 22 => 32 | 25 => 62 | 3 => 3 | 4 => 4 | 9 => 9 | 20 => 20 | 0 => 0 | n => n, fun n => n⟩
theorem growCLays : Lays8.n4 Tryz.prog growCRen := {
  mixed := by kernel_rfl
  f4 := ⟨Tryz.f59.name, by kernel_rfl, Tryz.func59.trans (congrArg some (by kernel_rfl))⟩
  t0 := Tryz.underlying0
  a0 := Tryz.isAgg0
  z0 := Tryz.sizeOf0
  v0 := Tryz.zeroValue0
  t3 := Tryz.underlying3
  a3 := Tryz.isAgg3
  z3 := Tryz.sizeOf3
  v3 := Tryz.zeroValue3
  t4 := Tryz.underlying4
  a4 := Tryz.isAgg4
  z4 := Tryz.sizeOf4
  v4 := Tryz.zeroValue4
  t9 := Tryz.underlying9
  a9 := Tryz.isAgg9
  z9 := Tryz.sizeOf9
  v9 := Tryz.zeroValue9
  t20 := Tryz.underlying20
  a20 := Tryz.isAgg20
  z20 := Tryz.sizeOf20
  v20 := Tryz.zeroValue20
  t22 := Tryz.underlying32
  a22 := Tryz.isAgg32
  z22 := Tryz.sizeOf32
  v22 := Tryz.zeroValue32 }

def chgRen : Go.Shelf.Ren := ⟨fun | 6 => 35 | 15 => 61 | 14 => 60 | 28 => 104 | 29 => 105 | 20 => 96 | 21 => 97 | 22 => 98 | 23 => 99 | 24 => 100 | 25 => 101 | 26 => 102 | 27 => 103 | 46 => 132 | 47 => 133 | 48 => 134 | 49 => 135 | 50 => 136 | 57 => 154 | n => n, fun | 22 => 32 | 24 => 62 | 25 => 71 | 3 => 3 | 39 => 97 | 0 => 0 | 53 => 134 | 55 => 136 | 4 => 4 | 46 => 127 | 45 => 126 | 50 => 131 | 5 => 5 | 9 => 9 | 66 => 157 | 70 => 161 | 76 => 172 | 77 => 173 | n => n, fun n => n⟩
theorem chgLays : SlLaysF0.n6 Tryz.prog chgRen := {
  mixed := by kernel_rfl
  f6 := ⟨Tryz.f35.name, by kernel_rfl, Tryz.func35.trans (congrArg some (by kernel_rfl))⟩
  f14 := ⟨Tryz.f60.name, by kernel_rfl, Tryz.func60.trans (congrArg some (by kernel_rfl))⟩
  f15 := Tryz.func61.trans (congrArg some (by kernel_rfl))
  f20 := ⟨Tryz.f96.name, by kernel_rfl, Tryz.func96.trans (congrArg some (by kernel_rfl))⟩
  f21 := ⟨Tryz.f97.name, by kernel_rfl, Tryz.func97.trans (congrArg some (by kernel_rfl))⟩
  f22 := ⟨Tryz.f98.name, by kernel_rfl, Tryz.func98.trans (congrArg some (by kernel_rfl))⟩
  f23 := ⟨Tryz.f99.name, by kernel_rfl, Tryz.func99.trans (congrArg some (by kernel_rfl))⟩
  f24 := ⟨Tryz.f100.name, by kernel_rfl, Tryz.func100.trans (congrArg some (by kernel_rfl))⟩
  f25 := ⟨Tryz.f101.name, by kernel_rfl, Tryz.func101.trans (congrArg some (by kernel_rfl))⟩
  f26 := ⟨Tryz.f102.name, by kernel_rfl, Tryz.func102.trans (congrArg some (by kernel_rfl))⟩
  f27 := ⟨Tryz.f103.name, by kernel_rfl, Tryz.func103.trans (congrArg some (by kernel_rfl))⟩
  f28 := Tryz.func104.trans (congrArg some (by kernel_rfl))
  f29 := Tryz.func105.trans (congrArg some (by kernel_rfl))
  f46 := ⟨Tryz.f132.name, by kernel_rfl, Tryz.func132.trans (congrArg some (by kernel_rfl))⟩
  f47 := Tryz.func133.trans (congrArg some (by kernel_rfl))
  f48 := Tryz.func134.trans (congrArg some (by kernel_rfl))
  f49 := ⟨Tryz.f135.name, by kernel_rfl, Tryz.func135.trans (congrArg some (by kernel_rfl))⟩
  f50 := ⟨Tryz.f136.name, by kernel_rfl, Tryz.func136.trans (congrArg some (by kernel_rfl))⟩
  f57 := ⟨Tryz.f154.name, by kernel_rfl, Tryz.func154.trans (congrArg some (by kernel_rfl))⟩
  t0 := Tryz.underlying0
  a0 := Tryz.isAgg0
  z0 := Tryz.sizeOf0
  v0 := Tryz.zeroValue0
  t3 := Tryz.underlying3
  a3 := Tryz.isAgg3
  z3 := Tryz.sizeOf3
  v3 := Tryz.zeroValue3
  t4 := Tryz.underlying4
  a4 := Tryz.isAgg4
  z4 := Tryz.sizeOf4
  v4 := Tryz.zeroValue4
  t5 := Tryz.underlying5
  a5 := Tryz.isAgg5
  z5 := Tryz.sizeOf5
  v5 := Tryz.zeroValue5
  t9 := Tryz.underlying9
  a9 := Tryz.isAgg9
  z9 := Tryz.sizeOf9
  v9 := Tryz.zeroValue9
  t22 := Tryz.underlying32
  a22 := Tryz.isAgg32
  z22 := Tryz.sizeOf32
  v22 := Tryz.zeroValue32
  t25 := Tryz.underlying71
  a25 := Tryz.isAgg71
  z25 := Tryz.sizeOf71
  v25 := Tryz.zeroValue71
  t39 := Tryz.underlying97
  a39 := Tryz.isAgg97
  z39 := Tryz.sizeOf97
  v39 := Tryz.zeroValue97
  t45 := Tryz.underlying126
  a45 := Tryz.isAgg126
  z45 := Tryz.sizeOf126
  v45 := Tryz.zeroValue126
  t46 := Tryz.underlying127
  a46 := Tryz.isAgg127
  z46 := Tryz.sizeOf127
  v46 := Tryz.zeroValue127
  t50 := Tryz.underlying131
  a50 := Tryz.isAgg131
  z50 := Tryz.sizeOf131
  v50 := Tryz.zeroValue131
  t53 := Tryz.underlying134
  a53 := Tryz.isAgg134
  z53 := Tryz.sizeOf134
  v53 := Tryz.zeroValue134
  t55 := Tryz.underlying136
  a55 := Tryz.isAgg136
  z55 := Tryz.sizeOf136
  v55 := Tryz.zeroValue136
  t66 := Tryz.underlying157
  a66 := Tryz.isAgg157
  z66 := Tryz.sizeOf157
  v66 := Tryz.zeroValue157
  t70 := Tryz.underlying161
  a70 := Tryz.isAgg161
  z70 := Tryz.sizeOf161
  v70 := Tryz.zeroValue161
  t76 := Tryz.underlying172
  a76 := Tryz.isAgg172
  z76 := Tryz.sizeOf172
  v76 := Tryz.zeroValue172
  t77 := Tryz.underlying173
  a77 := Tryz.isAgg173
  z77 := Tryz.sizeOf173
  v77 := Tryz.zeroValue173 }

attribute [local irreducible] amOps amC opCall opIndexAddr opPick retQ opMake opStore amDraw opAppend opLoad opNilCmp opIndex opSlice

theorem change_one' (xs : List Change) : ∀ r ∈ xs.map Change.enc, r.length = 5 ∧ r.all D.one = true := by
  intro r hr
  obtain ⟨_, _, rfl⟩ := List.mem_map.1 hr
  exact ⟨rfl, rfl⟩
theorem change_pl (x : Change) : ∀ d ∈ x.enc, d.pl = true := by
  intro d hd
  simp only [Change.enc, List.mem_cons, List.not_mem_nil, or_false] at hd
  rcases hd with rfl | rfl | rfl | rfl | rfl <;> rfl

theorem c59 (k : Nat) (hk : k ≤ 2097152) : CallOk Tryz.prog 59 [.imm (.other (.slice none 0 0)), .imm (.int .i64 (k : Int))] { res := [.arr 62 5 []] } :=
  callOk_grow0 growCLays ⟨_, Tryz.func59, by kernel_rfl, rfl⟩ tyOk (te := ty62) rfl (by decide) k hk (by decide)

/-! One list behind the other. -/

def chgsRow (l : List Change) : List D := [.list (l.map Change.enc)]
def sumTo (a b : List Change) : Nat → Nat
  | 0 => 0
  | 1 => a.length
  | _ => a.length + b.length
def catTo (a b : List Change) : Nat → List Change
  | 0 => []
  | 1 => a
  | _ => a ++ b

theorem c34 (a b : List Change) (ha : a.length ≤ 1048576) (hb : b.length ≤ 1048576) :
    CallOk Tryz.prog 34 [.imm (.list ([a, b].map chgsRow))] { res := [.arr 62 5 ((a ++ b).map Change.enc)] } := by
  refine callOk_of tyOk Tryz.func34 rfl rfl (le_of_ble rfl) (le_of_ble rfl) (mutOk_imm rfl _) ?_
  repeat' first | refine go_seq ?_ | refine go_region ?_ | ((first | refine go_op rfl ?_ | refine go_nil ?_) <;> conv => whnf) | ((first | refine go_loadB ?_ | refine ⟨by kernel_rfl, ?_⟩ | refine go_ret ?_) <;> conv => whnf) | refine go_block ?_ | ((first | refine go_skip ?_ | refine go_exit ?_) <;> conv => whnf) | refine go_true rfl ?_ | refine go_false rfl ?_ | refine go_cond rfl (fun h => ?_) (fun h => ?_) | refine ⟨rfl, ?_⟩ | ((first | refine ⟨trivial, ?_⟩ | refine ⟨le_of_ble rfl, ?_⟩) <;> conv => whnf) | fail
  refine go_loop (α := Nat) (fun i => i ≤ 2) (fun i => 2 - i) (fun i => st Tryz.f34.ntmps [(0, .imm (.list ([a, b].map chgsRow))), (3, .imm (.int .i64 (sumTo a b i : Nat))), (9, .imm (.list ([a, b].map chgsRow))), (10, .imm (.int .i64 2)), (11, .imm (.int .i64 (i : Nat)))] [] []) 0
    (by omega) (ref_st0 rfl ⟨rfl, rfl, rfl, rfl, rfl, trivial⟩ rfl) ?_
  intro i hi
  have hG := c59 (a.length + b.length) (by omega)
  have hi3 : i = 0 ∨ i = 1 ∨ i = 2 := by omega
  rcases hi3 with rfl | rfl | rfl
  · have hr : ([a, b].map chgsRow)[(0 : Int).toNat]? = some (chgsRow a) := rfl
    have e1 : IntKind.i64.wrap ((sumTo a b 0 : Nat) + ((a.map Change.enc).length : Int)) = (sumTo a b 1 : Nat) := by
      rw [List.length_map, wrap_small (by simp only [sumTo]; omega) (by simp only [sumTo]; omega)]
      simp [sumTo]
    repeat' first | refine go_seq ?_ | refine go_region ?_ | ((first | refine go_op rfl ?_ | refine go_nil ?_ | refine go_idx (r := chgsRow a) rfl rfl rfl rfl (by omega) hr rfl ?_) <;> conv => whnf) | ((first | refine go_loadB ?_ | refine ⟨by kernel_rfl, ?_⟩ | refine go_ret ?_) <;> conv => whnf) | refine go_block ?_ | ((first | refine go_skip ?_ | refine go_exit ?_) <;> conv => whnf) | refine go_true rfl ?_ | refine go_false rfl ?_ | refine go_cond rfl (fun h => ?_) (fun h => ?_) | refine ⟨rfl, ?_⟩ | ((first | refine ⟨trivial, ?_⟩ | refine ⟨le_of_ble rfl, ?_⟩) <;> conv => whnf) | fail
    · exfalso; rw [e1] at h; have h' := of_decide_eq_true h; omega
    · refine go_next 1 (by omega) (by omega) (ref_st0 rfl ⟨rfl, ?_, rfl, rfl, next_i (by omega), trivial⟩ rfl)
      show AV.imm _ = AV.imm _
      rw [e1]
  · have hr : ([a, b].map chgsRow)[(1 : Int).toNat]? = some (chgsRow b) := rfl
    have e1 : IntKind.i64.wrap ((sumTo a b 1 : Nat) + ((b.map Change.enc).length : Int)) = (sumTo a b 2 : Nat) := by
      rw [List.length_map, wrap_small (by simp only [sumTo]; omega) (by simp only [sumTo]; omega)]
      simp [sumTo]
    repeat' first | refine go_seq ?_ | refine go_region ?_ | ((first | refine go_op rfl ?_ | refine go_nil ?_ | refine go_idx (r := chgsRow b) rfl rfl rfl rfl (by omega) hr rfl ?_) <;> conv => whnf) | ((first | refine go_loadB ?_ | refine ⟨by kernel_rfl, ?_⟩ | refine go_ret ?_) <;> conv => whnf) | refine go_block ?_ | ((first | refine go_skip ?_ | refine go_exit ?_) <;> conv => whnf) | refine go_true rfl ?_ | refine go_false rfl ?_ | refine go_cond rfl (fun h => ?_) (fun h => ?_) | refine ⟨rfl, ?_⟩ | ((first | refine ⟨trivial, ?_⟩ | refine ⟨le_of_ble rfl, ?_⟩) <;> conv => whnf) | fail
    · exfalso; rw [e1] at h; have h' := of_decide_eq_true h; omega
    · refine go_next 2 (by omega) (by omega) (ref_st0 rfl ⟨rfl, ?_, rfl, rfl, next_i (by omega), trivial⟩ rfl)
      show AV.imm _ = AV.imm _
      rw [e1]
  · skip
    repeat' first | refine go_seq ?_ | refine go_region ?_ | ((first | refine go_op rfl ?_ | refine go_nil ?_ | refine go_call [5] (hG) rfl rfl rfl rfl ?_) <;> conv => whnf) | ((first | refine go_loadB ?_ | refine ⟨by kernel_rfl, ?_⟩ | refine go_ret ?_) <;> conv => whnf) | refine go_block ?_ | ((first | refine go_skip ?_ | refine go_exit ?_) <;> conv => whnf) | refine go_true rfl ?_ | refine go_false rfl ?_ | refine go_cond rfl (fun h => ?_) (fun h => ?_) | refine ⟨rfl, ?_⟩ | ((first | refine ⟨trivial, ?_⟩ | refine ⟨le_of_ble rfl, ?_⟩) <;> conv => whnf) | fail
    refine go_loop (α := Nat) (fun i => i ≤ 2) (fun i => 2 - i) (fun i => st Tryz.f34.ntmps [(6, .own 1000 0 ((catTo a b i).map Change.enc).length), (25, .imm (.list ([a, b].map chgsRow))), (26, .imm (.int .i64 2)), (27, .imm (.int .i64 (i : Nat)))] [(1000, .arr 62 5 ((catTo a b i).map Change.enc))] []) 0
      (by omega) (ref_st (fun _ => nid 3 24) rfl ⟨⟨rfl, rfl⟩, rfl, rfl, rfl, trivial⟩ ⟨rfl, trivial⟩ (by simp) rfl (by simp)) ?_
    intro i hi
    have hi3 : i = 0 ∨ i = 1 ∨ i = 2 := by omega
    rcases hi3 with rfl | rfl | rfl
    · have hr : ([a, b].map chgsRow)[(0 : Int).toNat]? = some (chgsRow a) := rfl
      repeat' first | refine go_seq ?_ | refine go_region ?_ | ((first | refine go_op rfl ?_ | refine go_nil ?_ | refine go_idx (r := chgsRow a) rfl rfl rfl rfl (by omega) hr rfl ?_ | refine go_appImm rfl rfl rfl rfl rfl rfl rfl rfl rfl (change_one' _) rfl rfl (by simp [catTo]; omega) ?_) <;> conv => whnf) | ((first | refine go_loadB ?_ | refine ⟨by kernel_rfl, ?_⟩ | refine go_ret ?_) <;> conv => whnf) | refine go_block ?_ | ((first | refine go_skip ?_ | refine go_exit ?_) <;> conv => whnf) | refine go_true rfl ?_ | refine go_false rfl ?_ | refine go_cond rfl (fun h => ?_) (fun h => ?_) | refine ⟨rfl, ?_⟩ | ((first | refine ⟨trivial, ?_⟩ | refine ⟨le_of_ble rfl, ?_⟩) <;> conv => whnf) | fail
      · refine go_next 1 (by omega) (by omega) (ref_st (fun _ => nid 4 33) rfl ⟨⟨?_, rfl⟩, rfl, rfl, next_i (by omega), trivial⟩ ⟨?_, trivial⟩ (by simp) rfl (by simp))
        · show AV.own _ _ _ = AV.own _ _ _
          simp [catTo]; try rfl
        · show some _ = some _
          simp [catTo]; try rfl
    · have hr : ([a, b].map chgsRow)[(1 : Int).toNat]? = some (chgsRow b) := rfl
      repeat' first | refine go_seq ?_ | refine go_region ?_ | ((first | refine go_op rfl ?_ | refine go_nil ?_ | refine go_idx (r := chgsRow b) rfl rfl rfl rfl (by omega) hr rfl ?_ | refine go_appImm rfl rfl rfl rfl rfl rfl rfl rfl rfl (change_one' _) rfl rfl (by simp [catTo]; omega) ?_) <;> conv => whnf) | ((first | refine go_loadB ?_ | refine ⟨by kernel_rfl, ?_⟩ | refine go_ret ?_) <;> conv => whnf) | refine go_block ?_ | ((first | refine go_skip ?_ | refine go_exit ?_) <;> conv => whnf) | refine go_true rfl ?_ | refine go_false rfl ?_ | refine go_cond rfl (fun h => ?_) (fun h => ?_) | refine ⟨rfl, ?_⟩ | ((first | refine ⟨trivial, ?_⟩ | refine ⟨le_of_ble rfl, ?_⟩) <;> conv => whnf) | fail
      · refine go_next 2 (by omega) (by omega) (ref_st (fun _ => nid 4 33) rfl ⟨⟨?_, rfl⟩, rfl, rfl, next_i (by omega), trivial⟩ ⟨?_, trivial⟩ (by simp) rfl (by simp))
        · show AV.own _ _ _ = AV.own _ _ _
          simp [catTo]; try rfl
        · show some _ = some _
          simp [catTo]; try rfl
    · skip
      repeat' first | refine go_seq ?_ | refine go_region ?_ | ((first | refine go_op rfl ?_ | refine go_nil ?_) <;> conv => whnf) | ((first | refine go_loadB ?_ | refine ⟨by kernel_rfl, ?_⟩ | refine go_ret ?_) <;> conv => whnf) | refine go_block ?_ | ((first | refine go_skip ?_ | refine go_exit ?_) <;> conv => whnf) | refine go_true rfl ?_ | refine go_false rfl ?_ | refine go_cond rfl (fun h => ?_) (fun h => ?_) | refine ⟨rfl, ?_⟩ | ((first | refine ⟨trivial, ?_⟩ | refine ⟨le_of_ble rfl, ?_⟩) <;> conv => whnf) | fail
      all_goals exact ret_arr rfl rfl rfl rfl rfl (by rw [List.drop_zero, List.take_length]; rfl) (change_gr _)

/-! Sorted by number. -/

theorem c36 (x y : Change) : CallOk Tryz.prog 36 [.imm (.agg x.enc), .imm (.agg y.enc)] { res := [.imm (.int .i64 (cmpC x y))] } := by
  refine callOk_of tyOk Tryz.func36 rfl rfl (le_of_ble rfl) (le_of_ble rfl) (mutOk_imm rfl _) ?_
  have h0 := c62 x.trip.id y.trip.id
  repeat' first | refine go_seq ?_ | refine go_region ?_ | ((first | refine go_op rfl ?_ | refine go_nil ?_ | refine go_call [] (h0) rfl rfl rfl rfl ?_) <;> conv => whnf) | ((first | refine go_loadB ?_ | refine ⟨by kernel_rfl, ?_⟩ | refine go_ret ?_) <;> conv => whnf) | ((first | refine go_skip ?_) <;> conv => whnf) | refine ⟨rfl, ?_⟩ | ((first | refine ⟨trivial, ?_⟩ | refine ⟨le_of_ble rfl, ?_⟩) <;> conv => whnf) | fail
  all_goals exact ret_imm rfl rfl rfl rfl rfl rfl

def srtC (xs : List Change) : List Change := match xs with | [] => [] | _ => pdqL chgLt xs
theorem srtC_sorts (xs : List Change) : (srtC xs).Perm xs ∧ Srt chgLt (srtC xs) := by
  unfold srtC
  split
  · exact ⟨List.Perm.refl _, List.Pairwise.nil⟩
  · exact pdqL_sorts chgWeak _
theorem c35 (xs : List Change) (hl : xs.length ≤ 2097152) :
    CallOk Tryz.prog 35 [.arr 62 5 (xs.map Change.enc), .imm (.fn 36 [])] { res := [], muts := [.arr 62 5 ((srtC xs).map Change.enc)] } := by
  cases hx : xs with
  | nil => exact callOk_sortFn0 chgLays ⟨_, Tryz.func35, rfl, rfl⟩ 62 5 (.fn 36 [])
  | cons x r =>
    have h := callOk_sortFn chgLays ⟨_, Tryz.func35, rfl, rfl⟩ (k := 5) Tryz.isAgg62 Tryz.sizeOf62 (enc := Change.enc) (fun _ => rfl) change_pl (cf := cmpC) (g := 36) (by rw [chgLt_eq]; exact chgWeak) (caps := []) c36 rfl 62 (x :: r) (by simp) (by rw [← hx]; omega)
    rw [chgLt_eq] at h
    exact h

/-! Neighbors that are the same, once. -/

theorem rows_take {xs ys : List Change} {k : Nat} (h : ys.take k = xs) : ((ys.map Change.enc).drop 0).take k = xs.map Change.enc := by
  rw [List.drop_zero, ← List.map_take, h]
theorem clear_take {α : List (List D)} {k n : Nat} {z : List D} (hk : k ≤ α.length) : ((clearR α k n z).drop 0).take k = α.take k := by
  unfold clearR
  rw [List.drop_zero, List.append_assoc, List.take_append_of_le_length (by simp; omega), List.take_take, Nat.min_self]

/-- The array at a round of the second loop: how far it is read, how far written. -/
structure CInv (xs : List Change) (k0 : Nat) (a : List Change × Nat × Nat) : Prop where
  len : a.1.length = xs.length
  lo : 1 ≤ a.2.2
  hi : k0 + a.2.2 ≤ xs.length
  kle : a.2.1 + 1 ≤ k0 + a.2.2
  keq : a.1.take a.2.1 = ddN xs (k0 + a.2.2)
  rest : ∀ j : Nat, k0 + a.2.2 ≤ j + 1 → a.1[j]? = xs[j]?

theorem CInv.start {xs : List Change} {k0 : Nat} {x : Change} (hx : xs[k0]? = some x) (hd : dupB xs k0 x = true) (hc : ∀ j x, j < k0 → xs[j]? = some x → dupB xs j x = false) : CInv xs k0 (xs, k0, 1) := by
  have hlt := lt_of_at hx
  refine ⟨rfl, Nat.le_refl _, by show k0 + 1 ≤ _; omega, Nat.le_refl _, ?_, fun _ _ => rfl⟩
  show xs.take k0 = ddN xs (k0 + 1)
  rw [ddN_next hx, hd, if_pos rfl, ddN_clean k0 (by omega) hc]
theorem CInv.skip {xs : List Change} {k0 k k2 : Nat} {bs : List Change} {x : Change} (h : CInv xs k0 (bs, k, k2)) (hx : xs[k0 + k2]? = some x) (hd : dupB xs (k0 + k2) x = true) : CInv xs k0 (bs, k, k2 + 1) := by
  have hlt := lt_of_at hx
  refine ⟨h.len, by show 1 ≤ k2 + 1; omega, by show k0 + (k2 + 1) ≤ _; omega, ?_, ?_, fun j hj => h.rest j ?_⟩
  · have := h.kle
    simp only at this ⊢
    omega
  · show bs.take k = ddN xs (k0 + k2 + 1)
    rw [ddN_next hx, hd, if_pos rfl]
    exact h.keq
  · simp only at hj ⊢
    omega
theorem CInv.put {xs : List Change} {k0 k k2 : Nat} {bs : List Change} {x : Change} (h : CInv xs k0 (bs, k, k2)) (hx : xs[k0 + k2]? = some x) (hd : dupB xs (k0 + k2) x = false) : CInv xs k0 (bs.set k x, k + 1, k2 + 1) := by
  have hlt := lt_of_at hx
  have hkle := h.kle
  have hlen := h.len
  simp only at hkle hlen
  refine ⟨by simpa using h.len, by show 1 ≤ k2 + 1; omega, by show k0 + (k2 + 1) ≤ _; omega, by show k + 1 + 1 ≤ k0 + (k2 + 1); omega, ?_, fun j hj => ?_⟩
  · show (bs.set k x).take (k + 1) = ddN xs (k0 + k2 + 1)
    rw [ddN_next hx, hd, if_neg (by simp), ← h.keq, List.take_add_one, List.getElem?_set_self (by omega)]
    simp only [Option.toList_some]
    congr 1
    rw [List.take_set]
    rw [List.set_eq_of_length_le (by rw [List.length_take]; exact Nat.min_le_left _ _)]
  · simp only at hj
    rw [List.getElem?_set_ne (by omega)]
    exact h.rest j (by simp only; omega)

theorem c37 (xs : List Change) (hl : xs.length ≤ 2097152) :
    CallOk Tryz.prog 37 [.arr 62 5 (xs.map Change.enc)] { res := [.arr 62 5 ((ddN xs xs.length).map Change.enc)], muts := [.gone] } := by
  refine callOk_ref (ins := [.arr 62 5 (xs.map Change.enc)]) tyOk Tryz.func37 rfl rfl (le_of_ble rfl) (le_of_ble rfl) (mutOk_moved (ds := [])) (ref_in _ _ _ _ []) ?_
  unfold inMv
  have hml : (xs.map Change.enc).length = xs.length := List.length_map _
  by_cases h2 : xs.length < 2
  · have hdd : ddN xs xs.length = xs := by
      rw [ddN_clean xs.length (Nat.le_refl _), List.take_length]
      intro j x hj _
      have : j = 0 := by omega
      subst this
      rfl
    rw [hdd]
    repeat' first | refine go_seq ?_ | refine go_region ?_ | refine go_draw drawsOk ?_ | ((first | refine go_op rfl ?_ | refine go_nil ?_ | refine go_storeBox rfl rfl rfl rfl rfl rfl ?_ | refine go_dop rfl ?_ | refine go_dend (by kernel_rfl) ?_) <;> conv => whnf) | ((first | refine go_loadB ?_ | refine ⟨by kernel_rfl, ?_⟩ | refine go_ret ?_) <;> conv => whnf) | refine go_block ?_ | ((first | refine go_skip ?_ | refine go_exit ?_) <;> conv => whnf) | refine go_true rfl ?_ | refine go_false rfl ?_ | refine go_cond rfl (fun h => ?_) (fun h => ?_) | refine ⟨rfl, ?_⟩ | ((first | refine ⟨trivial, ?_⟩ | refine ⟨le_of_ble rfl, ?_⟩) <;> conv => whnf) | fail
    all_goals first
      | exact ret_moved (ds := []) rfl rfl rfl rfl rfl (by rw [List.drop_zero, List.take_length]) (change_gr _)
      | (exfalso; have h' := of_decide_eq_false h; omega)
      | (exfalso; have h' := of_decide_eq_true h; omega)
      | (exfalso; rename_i hq; have h' := of_decide_eq_true hq; omega)
      | (exfalso; rename_i hq; have h' := of_decide_eq_false hq; omega)
      | (exfalso; rename_i hq _; have h' := of_decide_eq_true hq; omega)
      | (exfalso; rename_i hq _; have h' := of_decide_eq_false hq; omega)
      | trace_state
  repeat' first | refine go_seq ?_ | refine go_region ?_ | refine go_draw drawsOk ?_ | ((first | refine go_op rfl ?_ | refine go_nil ?_ | refine go_storeBox rfl rfl rfl rfl rfl rfl ?_ | refine go_dop rfl ?_ | refine go_dend (by kernel_rfl) ?_) <;> conv => whnf) | ((first | refine go_loadB ?_ | refine ⟨by kernel_rfl, ?_⟩ | refine go_ret ?_) <;> conv => whnf) | refine go_block ?_ | ((first | refine go_skip ?_ | refine go_exit ?_) <;> conv => whnf) | refine go_true rfl ?_ | refine go_false rfl ?_ | refine go_cond rfl (fun h => ?_) (fun h => ?_) | refine ⟨rfl, ?_⟩ | ((first | refine ⟨trivial, ?_⟩ | refine ⟨le_of_ble rfl, ?_⟩) <;> conv => whnf) | fail
  all_goals try first
    | (exfalso; have h' := of_decide_eq_false h; omega)
    | (exfalso; have h' := of_decide_eq_true h; omega)
    | (exfalso; rename_i hq; have h' := of_decide_eq_true hq; omega)
    | (exfalso; rename_i hq; have h' := of_decide_eq_false hq; omega)
    | (exfalso; rename_i hq _; have h' := of_decide_eq_true hq; omega)
    | (exfalso; rename_i hq _; have h' := of_decide_eq_false hq; omega)
    | (exfalso; simp only [decide_eq_false_iff_not] at *; omega)
  refine go_loop (α := Nat) (fun i => 1 ≤ i ∧ i ≤ xs.length ∧ ∀ j x, j < i → xs[j]? = some x → dupB xs j x = false) (fun i => xs.length - i)
    (fun i => st Tryz.f37.ntmps [(0, .own 1000 0 (xs.map Change.enc).length), (3, .imm (.int .i64 (i : Nat)))] [(1000, .arr 62 5 (xs.map Change.enc)), (0, .gone)] [0]) 1 ⟨Nat.le_refl _, by omega, ?_⟩ ?_ ?_
  · intro j x hj _
    have : j = 0 := by omega
    subst this
    rfl
  · exact ref_st id rfl ⟨⟨rfl, rfl⟩, rfl, trivial⟩ ⟨rfl, rfl, trivial⟩ (by simp) rfl (by simp [lookM])
  rintro i ⟨hi1, hi, hc⟩
  cases hx : xs[i]? with
  | none =>
    have hge := le_of_at hx
    have hdd : ddN xs xs.length = xs := by
      rw [ddN_clean xs.length (Nat.le_refl _) (fun j x hj => hc j x (by omega)), List.take_length]
    rw [hdd]
    repeat' first | refine go_seq ?_ | refine go_region ?_ | refine go_draw drawsOk ?_ | ((first | refine go_op rfl ?_ | refine go_nil ?_ | refine go_storeBox rfl rfl rfl rfl rfl rfl ?_ | refine go_dop rfl ?_ | refine go_dend (by kernel_rfl) ?_) <;> conv => whnf) | ((first | refine go_loadB ?_ | refine ⟨by kernel_rfl, ?_⟩ | refine go_ret ?_) <;> conv => whnf) | refine go_block ?_ | ((first | refine go_skip ?_ | refine go_exit ?_) <;> conv => whnf) | refine go_true rfl ?_ | refine go_false rfl ?_ | refine go_cond rfl (fun h => ?_) (fun h => ?_) | refine ⟨rfl, ?_⟩ | ((first | refine ⟨trivial, ?_⟩ | refine ⟨le_of_ble rfl, ?_⟩) <;> conv => whnf) | fail
    all_goals first
      | exact ret_moved (ds := []) rfl rfl rfl rfl rfl (by rw [List.drop_zero, List.take_length]) (change_gr _)
      | (exfalso; have h' := of_decide_eq_false h; omega)
      | (exfalso; have h' := of_decide_eq_true h; omega)
      | (exfalso; rename_i hq; have h' := of_decide_eq_true hq; omega)
      | (exfalso; rename_i hq; have h' := of_decide_eq_false hq; omega)
      | (exfalso; rename_i hq _; have h' := of_decide_eq_true hq; omega)
      | (exfalso; rename_i hq _; have h' := of_decide_eq_false hq; omega)
      | (exfalso; simp at h; omega)
      | trace_state
  | some x =>
    have hlt := lt_of_at hx
    obtain ⟨j, rfl⟩ : ∃ j, i = j + 1 := ⟨i - 1, by omega⟩
    obtain ⟨y, hy⟩ : ∃ y, xs[j]? = some y := ⟨_, List.getElem?_eq_getElem (by omega)⟩
    have hrx : (xs.map Change.enc)[j + 1]? = some (Change.enc x) := by rw [List.getElem?_map, hx]; rfl
    have hry : (xs.map Change.enc)[j]? = some (Change.enc y) := by rw [List.getElem?_map, hy]; rfl
    have ej : IntKind.i64.wrap (((j + 1 : Nat) : Int) - 1) = (j : Nat) := by rw [wrap_small (by omega) (by omega)]; omega
    have hq : (decide (x.kind = y.kind) && (decide (x.trip.id = y.trip.id) && (decide (x.trip.line = y.trip.line) && (decide (x.trip.start = y.trip.start) && (decide (x.to = y.to) && true))))) = x.beqC y := by
      simp only [Change.beqC, Trip.beq, Bool.and_assoc, Bool.and_true]
    have hdb : dupB xs (j + 1) x = x.beqC y := by unfold dupB; simp only [hy]
    cases hb : x.beqC y with
    | false =>
      rw [hb] at hq hdb
      repeat' first | refine go_seq ?_ | refine go_region ?_ | refine go_draw drawsOk ?_ | ((first | refine go_op rfl ?_ | refine go_nil ?_ | refine go_storeBox rfl rfl rfl rfl rfl rfl ?_ | refine go_dop rfl ?_ | refine go_dend (by kernel_rfl) ?_ | refine go_idxOwn (i := j + 1) rfl rfl rfl rfl rfl rfl (show j + 1 < _ by omega) ?_ | refine go_idxOwnI (j := j) rfl rfl ej rfl rfl rfl rfl (show j < _ by omega) ?_ | refine go_loadEl (i := j + 1) rfl rfl rfl hrx ?_ | refine go_loadEl (i := j) rfl rfl rfl hry ?_) <;> conv => whnf) | ((first | refine go_loadB ?_ | refine ⟨by kernel_rfl, ?_⟩ | refine go_ret ?_) <;> conv => whnf) | refine go_block ?_ | ((first | refine go_skip ?_ | refine go_exit ?_) <;> conv => whnf) | refine go_true rfl ?_ | refine go_false rfl ?_ | refine go_cond rfl (fun h => ?_) (fun h => ?_) | refine ⟨rfl, ?_⟩ | ((first | refine ⟨trivial, ?_⟩ | refine ⟨le_of_ble rfl, ?_⟩) <;> conv => whnf) | fail
      all_goals first
        | (refine go_next (j + 2) ⟨by omega, by omega, ?_⟩ (by omega) (ref_st id rfl ⟨⟨rfl, rfl⟩, next_i (by omega), trivial⟩ ⟨rfl, rfl, trivial⟩ (by simp) rfl (by simp [lookM]))
           intro k z hk hz
           rcases Nat.lt_or_ge k (j + 1) with h1 | h1
           · exact hc k z h1 hz
           · have : k = j + 1 := by omega
             subst this
             rw [hx] at hz
             injection hz with hz
             rw [← hz]
             exact hdb
           done)
        | (exfalso; rw [hq] at h; cases h; done)
        | (exfalso; have h' := of_decide_eq_false h; omega)
        | (exfalso; have h' := of_decide_eq_true h; omega)
        | (exfalso; rename_i hq; have h' := of_decide_eq_true hq; omega)
        | (exfalso; rename_i hq; have h' := of_decide_eq_false hq; omega)
        | (exfalso; rename_i hq _; have h' := of_decide_eq_true hq; omega)
        | (exfalso; rename_i hq _; have h' := of_decide_eq_false hq; omega)
        | (exfalso; simp at h; omega)
        | trace_state
    | true =>
      rw [hb] at hq hdb
      repeat' first | refine go_seq ?_ | refine go_region ?_ | refine go_draw drawsOk ?_ | ((first | refine go_op rfl ?_ | refine go_nil ?_ | refine go_storeBox rfl rfl rfl rfl rfl rfl ?_ | refine go_dop rfl ?_ | refine go_dend (by kernel_rfl) ?_ | refine go_idxOwn (i := j + 1) rfl rfl rfl rfl rfl rfl (show j + 1 < _ by omega) ?_ | refine go_idxOwnI (j := j) rfl rfl ej rfl rfl rfl rfl (show j < _ by omega) ?_ | refine go_loadEl (i := j + 1) rfl rfl rfl hrx ?_ | refine go_loadEl (i := j) rfl rfl rfl hry ?_ | refine go_sliceFrom (k := j + 1) (id := 1000) rfl rfl rfl rfl rfl rfl (show j + 1 ≤ _ by omega) ?_) <;> conv => whnf) | ((first | refine go_loadB ?_ | refine ⟨by kernel_rfl, ?_⟩ | refine go_ret ?_) <;> conv => whnf) | refine go_block ?_ | ((first | refine go_skip ?_ | refine go_exit ?_) <;> conv => whnf) | refine go_true rfl ?_ | refine go_false rfl ?_ | refine go_cond rfl (fun h => ?_) (fun h => ?_) | refine ⟨rfl, ?_⟩ | ((first | refine ⟨trivial, ?_⟩ | refine ⟨le_of_ble rfl, ?_⟩) <;> conv => whnf) | fail
      all_goals try first
        | (exfalso; rw [hq] at h; cases h; done)
        | (exfalso; have h' := of_decide_eq_false h; omega)
        | (exfalso; have h' := of_decide_eq_true h; omega)
        | (exfalso; rename_i hq; have h' := of_decide_eq_true hq; omega)
        | (exfalso; rename_i hq; have h' := of_decide_eq_false hq; omega)
        | (exfalso; rename_i hq _; have h' := of_decide_eq_true hq; omega)
        | (exfalso; rename_i hq _; have h' := of_decide_eq_false hq; omega)
        | (exfalso; simp at h; omega)
      refine go_loop (α := List Change × Nat × Nat) (CInv xs (j + 1)) (fun a => xs.length - a.2.2)
        (fun a => st Tryz.f37.ntmps [(0, .own 1000 0 (xs.map Change.enc).length), (3, .imm (.int .i64 (a.2.1 : Nat))), (4, .own 1000 (j + 1) ((xs.map Change.enc).length - (j + 1))), (5, .imm (.int .i64 (a.2.2 : Nat)))] [(1000, .arr 62 5 (a.1.map Change.enc)), (0, .gone)] [0]) (xs, j + 1, 1) (CInv.start hx hdb hc) ?_ ?_
      · exact ref_st id rfl ⟨⟨rfl, rfl⟩, rfl, ⟨rfl, rfl⟩, rfl, trivial⟩ ⟨rfl, rfl, trivial⟩ (by simp) rfl (by simp [lookM])
      clear hx hrx hry hq hdb hb hy
      rintro ⟨bs, k, k2⟩ hI
      have i1 := hI.len
      have i2 := hI.lo
      have i3 := hI.hi
      have i4 := hI.kle
      have i5 := hI.keq
      simp only at i1 i2 i3 i4 i5
      have hal : (bs.map Change.enc).length = xs.length := by rw [List.length_map, i1]
      cases hx : xs[j + 1 + k2]? with
      | none =>
        have hge := le_of_at hx
        have hkk : j + 1 + k2 = xs.length := by omega
        rw [hkk] at i5
        repeat' first | refine go_seq ?_ | refine go_region ?_ | refine go_draw drawsOk ?_ | ((first | refine go_op rfl ?_ | refine go_nil ?_ | refine go_storeBox rfl rfl rfl rfl rfl rfl ?_ | refine go_dop rfl ?_ | refine go_dend (by kernel_rfl) ?_ | refine go_sliceFrom (k := k) (id := 1000) rfl rfl rfl rfl rfl rfl (show k ≤ _ by omega) ?_ | refine go_sliceTo (k := k) (id := 1000) rfl rfl rfl rfl rfl rfl (show k ≤ _ by omega) ?_ | refine go_clear rfl rfl rfl rfl rfl ?_) <;> conv => whnf) | ((first | refine go_loadB ?_ | refine ⟨by kernel_rfl, ?_⟩ | refine go_ret ?_) <;> conv => whnf) | refine go_block ?_ | ((first | refine go_skip ?_ | refine go_exit ?_) <;> conv => whnf) | refine go_true rfl ?_ | refine go_false rfl ?_ | refine go_cond rfl (fun h => ?_) (fun h => ?_) | refine ⟨rfl, ?_⟩ | ((first | refine ⟨trivial, ?_⟩ | refine ⟨le_of_ble rfl, ?_⟩) <;> conv => whnf) | fail
        all_goals first
          | (refine ret_moved (ds := []) rfl rfl rfl rfl rfl ?_ (change_gr _)
             rw [clear_take (by rw [hal]; omega), ← List.map_take, i5]
             done)
          | (exfalso; have h' := of_decide_eq_false h; omega)
          | (exfalso; have h' := of_decide_eq_true h; omega)
          | (exfalso; rename_i hq; have h' := of_decide_eq_true hq; omega)
          | (exfalso; rename_i hq; have h' := of_decide_eq_false hq; omega)
          | (exfalso; rename_i hq _; have h' := of_decide_eq_true hq; omega)
          | (exfalso; rename_i hq _; have h' := of_decide_eq_false hq; omega)
          | (exfalso; simp at h; omega)
          | trace_state
      | some x =>
        have hlt := lt_of_at hx
        obtain ⟨k3, rfl⟩ : ∃ k3, k2 = k3 + 1 := ⟨k2 - 1, by omega⟩
        obtain ⟨y, hy⟩ : ∃ y, xs[j + 1 + k3]? = some y := ⟨_, List.getElem?_eq_getElem (by omega)⟩
        have hrx : (bs.map Change.enc)[j + 1 + (k3 + 1)]? = some (Change.enc x) := by rw [List.getElem?_map, hI.rest _ (by simp only; omega), hx]; rfl
        have hry : (bs.map Change.enc)[j + 1 + k3]? = some (Change.enc y) := by rw [List.getElem?_map, hI.rest _ (by simp only; omega), hy]; rfl
        have ej : IntKind.i64.wrap (((k3 + 1 : Nat) : Int) - 1) = (k3 : Nat) := by rw [wrap_small (by omega) (by omega)]; omega
        have hq : (decide (x.kind = y.kind) && (decide (x.trip.id = y.trip.id) && (decide (x.trip.line = y.trip.line) && (decide (x.trip.start = y.trip.start) && (decide (x.to = y.to) && true))))) = x.beqC y := by
          simp only [Change.beqC, Trip.beq, Bool.and_assoc, Bool.and_true]
        have hdb : dupB xs (j + 1 + (k3 + 1)) x = x.beqC y := by
          show (match xs[j + 1 + k3]? with | some y => x.beqC y | none => false) = _
          rw [hy]
        have hkr : ∃ r, (bs.map Change.enc)[k]? = some r ∧ r.length = 5 := by
          refine ⟨Change.enc (bs[k]'(by omega)), ?_, rfl⟩
          rw [List.getElem?_map, List.getElem?_eq_getElem]
          rfl
        obtain ⟨rk, hrk, hrl⟩ := hkr
        have hset : (bs.map Change.enc).set k (Change.enc x) = (bs.set k x).map Change.enc := by rw [List.map_set]
        cases hb : x.beqC y with
        | true =>
          rw [hb] at hq hdb
          repeat' first | refine go_seq ?_ | refine go_region ?_ | refine go_draw drawsOk ?_ | ((first | refine go_op rfl ?_ | refine go_nil ?_ | refine go_storeBox rfl rfl rfl rfl rfl rfl ?_ | refine go_dop rfl ?_ | refine go_dend (by kernel_rfl) ?_ | refine go_idxOwnO (off := j + 1) (j := k3 + 1) rfl rfl rfl rfl rfl rfl rfl (show k3 + 1 < _ by omega) ?_ | refine go_idxOwnO (off := j + 1) (j := k3) rfl rfl ej rfl rfl rfl rfl (show k3 < _ by omega) ?_ | refine go_loadEl (i := j + 1 + (k3 + 1)) rfl rfl rfl hrx ?_ | refine go_loadEl (i := j + 1 + k3) rfl rfl rfl hry ?_) <;> conv => whnf) | ((first | refine go_loadB ?_ | refine ⟨by kernel_rfl, ?_⟩ | refine go_ret ?_) <;> conv => whnf) | refine go_block ?_ | ((first | refine go_skip ?_ | refine go_exit ?_) <;> conv => whnf) | refine go_true rfl ?_ | refine go_false rfl ?_ | refine go_cond rfl (fun h => ?_) (fun h => ?_) | refine ⟨rfl, ?_⟩ | ((first | refine ⟨trivial, ?_⟩ | refine ⟨le_of_ble rfl, ?_⟩) <;> conv => whnf) | fail
          all_goals first
            | exact go_next (bs, k, k3 + 1 + 1) (hI.skip hx hdb) (show xs.length - (k3 + 1 + 1) < xs.length - (k3 + 1) by omega) (ref_st id rfl ⟨⟨rfl, rfl⟩, rfl, ⟨rfl, rfl⟩, next_i (i := k3 + 1) (by omega), trivial⟩ ⟨rfl, rfl, trivial⟩ (by simp) rfl (by simp [lookM]))
            | (exfalso; rw [hq] at h; cases h; done)
            | (exfalso; have h' := of_decide_eq_false h; omega)
            | (exfalso; have h' := of_decide_eq_true h; omega)
            | (exfalso; rename_i hq; have h' := of_decide_eq_true hq; omega)
            | (exfalso; rename_i hq; have h' := of_decide_eq_false hq; omega)
            | (exfalso; rename_i hq _; have h' := of_decide_eq_true hq; omega)
            | (exfalso; rename_i hq _; have h' := of_decide_eq_false hq; omega)
            | (exfalso; simp at h; omega)
            | trace_state
        | false =>
          rw [hb] at hq hdb
          repeat' first | refine go_seq ?_ | refine go_region ?_ | refine go_draw drawsOk ?_ | ((first | refine go_op rfl ?_ | refine go_nil ?_ | refine go_storeBox rfl rfl rfl rfl rfl rfl ?_ | refine go_dop rfl ?_ | refine go_dend (by kernel_rfl) ?_ | refine go_idxOwnO (off := j + 1) (j := k3 + 1) rfl rfl rfl rfl rfl rfl rfl (show k3 + 1 < _ by omega) ?_ | refine go_idxOwnO (off := j + 1) (j := k3) rfl rfl ej rfl rfl rfl rfl (show k3 < _ by omega) ?_ | refine go_idxOwn (i := k) rfl rfl rfl rfl rfl rfl (show k < _ by omega) ?_ | refine go_loadEl (i := j + 1 + (k3 + 1)) rfl rfl rfl hrx ?_ | refine go_loadEl (i := j + 1 + k3) rfl rfl rfl hry ?_ | refine go_storeRow (i := k) rfl rfl rfl rfl hrk rfl hrl hset ?_) <;> conv => whnf) | ((first | refine go_loadB ?_ | refine ⟨by kernel_rfl, ?_⟩ | refine go_ret ?_) <;> conv => whnf) | refine go_block ?_ | ((first | refine go_skip ?_ | refine go_exit ?_) <;> conv => whnf) | refine go_true rfl ?_ | refine go_false rfl ?_ | refine go_cond rfl (fun h => ?_) (fun h => ?_) | refine ⟨rfl, ?_⟩ | ((first | refine ⟨trivial, ?_⟩ | refine ⟨le_of_ble rfl, ?_⟩) <;> conv => whnf) | fail
          all_goals first
            | exact go_next (bs.set k x, k + 1, k3 + 1 + 1) (hI.put hx hdb) (show xs.length - (k3 + 1 + 1) < xs.length - (k3 + 1) by omega) (ref_st id rfl ⟨⟨rfl, rfl⟩, next_i (i := k) (by omega), ⟨rfl, rfl⟩, next_i (i := k3 + 1) (by omega), trivial⟩ ⟨rfl, rfl, trivial⟩ (by simp) rfl (by simp [lookM]))
            | (exfalso; rw [hq] at h; cases h; done)
            | (exfalso; have h' := of_decide_eq_false h; omega)
            | (exfalso; have h' := of_decide_eq_true h; omega)
            | (exfalso; rename_i hq; have h' := of_decide_eq_true hq; omega)
            | (exfalso; rename_i hq; have h' := of_decide_eq_false hq; omega)
            | (exfalso; rename_i hq _; have h' := of_decide_eq_true hq; omega)
            | (exfalso; rename_i hq _; have h' := of_decide_eq_false hq; omega)
            | (exfalso; simp at h; omega)
            | trace_state
end Go.Proofs.YtcfhmncbfekoaaaGreat

