/- The walks of small parts: lists, lines, times of rides. -/
import Derived.Test.YteoiohkdhdpkoaaG1
import Derived.Test.YteoiohkdhdpkoaaC2
namespace Go.Am
open Go
theorem go_sliceMidI {T : TypeId → Option TI} {m : Nat → Option O} {tt e : TypeId} {K : Eff → Prop} {kd kd' : IntKind} {i k : Nat} {rows : List (List D)} {a1 b1 : Nat} {z1 : List D} {te : TI} {x l h : AV} (hx : x = .imm (.list rows)) (hT : T tt = some ⟨.slice e, a1, b1, z1⟩) (hE : T e = some te)
    (hs : ∀ r ∈ rows, r.length = te.size) (hl : l = .imm (.int kd (i : Nat))) (hh : h = .imm (.int kd' (k : Nat))) (hik : i ≤ k) (hk : k ≤ rows.length) (hK : K ⟨.imm (.list ((rows.drop i).take (k - i))), []⟩) : opSlice T m tt x (some l) (some h) none K := by
  subst hx hl hh
  unfold opSlice
  refine ⟨rfl, ?_⟩
  simp only [hT, hE]
  refine ⟨hs, ?_⟩
  simp only [bnd]
  refine ⟨by omega, by omega, by omega, ?_⟩
  simpa using hK
end Go.Am
namespace Go.Proofs.Yteoiohkdhdpkoaa
open Go Go.Am
set_option maxRecDepth 100000
set_option maxHeartbeats 8000000
attribute [local irreducible] amOps amC opCall opIndexAddr opPick retQ opMake opStore amDraw opAppend opLoad opNilCmp opIndex opSlice

theorem c4 (xs : List Int) : CallOk Try.prog 4 [.imm (.list (xs.map byteRow))] { res := [.imm (.bool (decide (65536 < ((xs.map byteRow).length : Int))))] } := by
  refine callOk_of tyOk Try.func4 rfl rfl (le_of_ble rfl) (le_of_ble rfl) (mutOk_imm rfl _) ?_
  repeat' first | refine go_seq ?_ | refine go_region ?_ | ((first | refine go_op rfl ?_ | refine go_nil ?_) <;> conv => whnf) | ((first | refine ⟨by kernel_rfl, ?_⟩ | refine go_ret ?_) <;> conv => whnf) | ((first | refine go_skip ?_) <;> conv => whnf) | refine ⟨rfl, ?_⟩ | ((first | refine ⟨trivial, ?_⟩ | refine ⟨le_of_ble rfl, ?_⟩) <;> conv => whnf) | fail
  all_goals exact ret_imm rfl rfl rfl rfl rfl rfl
/-- A list of numbers is equal to itself. -/
theorem c8 (xs : List Int) (hl : xs.length ≤ 1048576) : CallOk Try.prog 8 [.imm (.list (xs.map intRow)), .imm (.list (xs.map intRow))] { res := [.imm (.bool true)] } := by
  refine callOk_of tyOk Try.func8 rfl rfl (le_of_ble rfl) (le_of_ble rfl) (mutOk_imm rfl _) ?_
  repeat' first | refine go_seq ?_ | refine go_region ?_ | refine go_draw drawsOk ?_ | ((first | refine go_op rfl ?_ | refine go_nil ?_ | refine go_dop rfl ?_ | refine go_dend (by kernel_rfl) ?_) <;> conv => whnf) | ((first | refine go_loadB ?_ | refine ⟨by kernel_rfl, ?_⟩ | refine go_ret ?_) <;> conv => whnf) | refine go_block ?_ | ((first | refine go_skip ?_ | refine go_exit ?_) <;> conv => whnf) | refine go_true rfl ?_ | refine go_false rfl ?_ | refine go_cond rfl (fun h => ?_) (fun h => ?_) | refine ⟨rfl, ?_⟩ | ((first | refine ⟨trivial, ?_⟩ | refine ⟨le_of_ble rfl, ?_⟩) <;> conv => whnf) | fail
  all_goals first
    | (exfalso; simp at h; done)
    | skip
  refine go_loop (α := Nat) (fun i => i ≤ xs.length) (fun i => xs.length - i) (fun i => st Try.f8.ntmps [(0, .imm (.list (xs.map intRow))), (1, .imm (.list (xs.map intRow))), (5, .imm (.int .i64 (i : Nat)))] [] []) 0
    (Nat.zero_le _) (ref_st0 rfl ⟨rfl, rfl, rfl, trivial⟩ rfl) ?_
  intro i hi
  cases hx : xs[i]? with
  | none =>
    have hge := le_of_at hx
    repeat' first | refine go_seq ?_ | refine go_region ?_ | refine go_draw drawsOk ?_ | ((first | refine go_op rfl ?_ | refine go_nil ?_ | refine go_dop rfl ?_ | refine go_dend (by kernel_rfl) ?_) <;> conv => whnf) | ((first | refine go_loadB ?_ | refine ⟨by kernel_rfl, ?_⟩ | refine go_ret ?_) <;> conv => whnf) | refine go_block ?_ | ((first | refine go_skip ?_ | refine go_exit ?_) <;> conv => whnf) | refine go_true rfl ?_ | refine go_false rfl ?_ | refine go_cond rfl (fun h => ?_) (fun h => ?_) | refine ⟨rfl, ?_⟩ | ((first | refine ⟨trivial, ?_⟩ | refine ⟨le_of_ble rfl, ?_⟩) <;> conv => whnf) | fail
    all_goals first
      | exact ret_imm rfl rfl rfl rfl rfl rfl
      | (exfalso; simp only [decide_eq_true_eq, List.length_map] at *; omega)
      | trace_state
  | some d =>
    have hlt := lt_of_at hx
    have hr := row_at intRow hx
    repeat' first | refine go_seq ?_ | refine go_region ?_ | refine go_draw drawsOk ?_ | ((first | refine go_op rfl ?_ | refine go_nil ?_ | refine go_dop rfl ?_ | refine go_dend (by kernel_rfl) ?_ | refine go_idx rfl rfl rfl rfl (by omega) hr rfl ?_) <;> conv => whnf) | ((first | refine go_loadB ?_ | refine ⟨by kernel_rfl, ?_⟩ | refine go_ret ?_) <;> conv => whnf) | refine go_block ?_ | ((first | refine go_skip ?_ | refine go_exit ?_) <;> conv => whnf) | refine go_true rfl ?_ | refine go_false rfl ?_ | refine go_cond rfl (fun h => ?_) (fun h => ?_) | refine ⟨rfl, ?_⟩ | ((first | refine ⟨trivial, ?_⟩ | refine ⟨le_of_ble rfl, ?_⟩) <;> conv => whnf) | fail
    all_goals first
      | exact go_next (i + 1) (by show i + 1 ≤ _; omega) (by show _ - (i + 1) < _ - i; omega) (ref_st0 rfl ⟨rfl, rfl, next_i (by omega), trivial⟩ rfl)
      | (exfalso; simp at h; done)
      | (exfalso; simp only [decide_eq_false_iff_not, List.length_map] at *; omega)
      | trace_state

theorem any_pInt {xs : List Int} {v : Int} : xs.any (pInt v) = true ↔ v ∈ xs := by
  rw [List.any_eq_true]
  constructor
  · rintro ⟨y, hy, he⟩
    have : v = y := by simpa [pInt] using he
    rw [this]; exact hy
  · intro h
    exact ⟨v, h, by simp [pInt]⟩
theorem c10 (xs : List Int) (x : Int) (hl : xs.length ≤ 1048576) : CallOk Try.prog 10 [.imm (.list (xs.map intRow)), .imm (.int .i64 x)] { res := [.imm (.bool (xs.any (pInt x)))] } := by
  refine callOk_of tyOk Try.func10 rfl rfl (le_of_ble rfl) (le_of_ble rfl) (mutOk_imm rfl _) ?_
  repeat' first | refine go_seq ?_ | refine go_region ?_ | ((first | refine go_op rfl ?_ | refine go_nil ?_) <;> conv => whnf) | ((first | refine go_loadB ?_ | refine ⟨by kernel_rfl, ?_⟩ | refine go_ret ?_) <;> conv => whnf) | refine go_block ?_ | ((first | refine go_skip ?_ | refine go_exit ?_) <;> conv => whnf) | refine go_true rfl ?_ | refine go_false rfl ?_ | refine go_cond rfl (fun h => ?_) (fun h => ?_) | refine ⟨rfl, ?_⟩ | ((first | refine ⟨trivial, ?_⟩ | refine ⟨le_of_ble rfl, ?_⟩) <;> conv => whnf) | fail
  refine go_loop (α := Nat) (fun i => i ≤ xs.length ∧ (xs.take i).any (pInt x) = false) (fun i => xs.length - i) (fun i => st Try.f10.ntmps [(0, .imm (.list (xs.map intRow))), (1, .imm (.int .i64 x)), (5, .imm (.int .i64 (i : Nat)))] [] []) 0
    ⟨Nat.zero_le _, rfl⟩ (ref_st0 rfl ⟨rfl, rfl, rfl, trivial⟩ rfl) ?_
  rintro i ⟨hi, ha⟩
  cases hx : xs[i]? with
  | none =>
    have hge := le_of_at hx
    rw [List.take_of_length_le hge] at ha
    rw [ha]
    repeat' first | refine go_seq ?_ | refine go_region ?_ | ((first | refine go_op rfl ?_ | refine go_nil ?_) <;> conv => whnf) | ((first | refine go_loadB ?_ | refine ⟨by kernel_rfl, ?_⟩ | refine go_ret ?_) <;> conv => whnf) | refine go_block ?_ | ((first | refine go_skip ?_ | refine go_exit ?_) <;> conv => whnf) | refine go_true rfl ?_ | refine go_false rfl ?_ | refine go_cond rfl (fun h => ?_) (fun h => ?_) | refine ⟨rfl, ?_⟩ | ((first | refine ⟨trivial, ?_⟩ | refine ⟨le_of_ble rfl, ?_⟩) <;> conv => whnf) | fail
    all_goals first
      | exact ret_imm rfl rfl rfl rfl rfl rfl
      | (exfalso; simp at h; omega)
      | trace_state
  | some v =>
    have hlt := lt_of_at hx
    have hr := row_at intRow hx
    repeat' first | refine go_seq ?_ | refine go_region ?_ | ((first | refine go_op rfl ?_ | refine go_nil ?_ | refine go_idx rfl rfl rfl rfl (by omega) hr rfl ?_) <;> conv => whnf) | ((first | refine go_loadB ?_ | refine ⟨by kernel_rfl, ?_⟩ | refine go_ret ?_) <;> conv => whnf) | refine go_block ?_ | ((first | refine go_skip ?_ | refine go_exit ?_) <;> conv => whnf) | refine go_true rfl ?_ | refine go_false rfl ?_ | refine go_cond rfl (fun h => ?_) (fun h => ?_) | refine ⟨rfl, ?_⟩ | ((first | refine ⟨trivial, ?_⟩ | refine ⟨le_of_ble rfl, ?_⟩) <;> conv => whnf) | fail
    all_goals first
      | (refine ret_imm rfl rfl rfl rfl ?_ rfl
         have hvx : v = x := of_decide_eq_true h
         rw [any_pInt.2 (by rw [← hvx]; exact List.mem_of_getElem? hx)]
         done)
      | exact go_next (i + 1) ⟨by omega, any_next (p := (pInt x)) hx ha (by have := of_decide_eq_false h; simp [pInt]; omega)⟩ (by omega) (ref_st0 rfl ⟨rfl, rfl, next_i (by omega), trivial⟩ rfl)
      | (exfalso; simp at h; omega)
      | trace_state

theorem c19 (n : Network) (s : Int) : CallOk Try.prog 19 [.imm (.agg n.enc), .imm (.int .i64 s)] { res := [.imm (.bool (inR s 0 ((n.lines.length : Int) - 1)))] } := by
  refine callOk_of tyOk Try.func19 rfl rfl (le_of_ble rfl) (le_of_ble rfl) (mutOk_imm rfl _) ?_
  repeat' first | refine go_seq ?_ | refine go_region ?_ | refine go_miss rfl rfl rfl ?_ | refine go_undef rfl rfl rfl ?_ | ((first | refine go_op rfl ?_ | refine go_nil ?_ | refine go_hit rfl rfl rfl ?_ | refine go_splitT rfl rfl rfl (fun h => ?_) (fun h => ?_) | refine go_splitF rfl rfl rfl (fun h => ?_) (fun h => ?_) | refine go_pickT rfl ?_ | refine go_pickF rfl ?_ | refine go_pick rfl (fun h => ?_) (fun h => ?_)) <;> conv => whnf) | ((first | refine go_loadB ?_ | refine ⟨by kernel_rfl, ?_⟩ | refine go_ret ?_) <;> conv => whnf) | ((first | refine go_skip ?_) <;> conv => whnf) | refine ⟨rfl, ?_⟩ | ((first | refine ⟨trivial, ?_⟩ | refine ⟨le_of_ble rfl, ?_⟩) <;> conv => whnf) | fail
  all_goals refine ret_imm rfl rfl rfl rfl ?_ rfl
  all_goals first | (simp_all [inR]; done) | (simp_all [inR]; omega)

theorem c18 (x : Int) : CallOk Try.prog 18 [.imm (.int .i64 x)] { res := [.imm (.int .i64 (if x < 0 then 0 else x)), .imm (.bool (decide (0 ≤ x)))] } := by
  refine callOk_of tyOk Try.func18 rfl rfl (le_of_ble rfl) (le_of_ble rfl) (mutOk_imm rfl _) ?_
  by_cases hx : x < 0
  · rw [if_pos hx, decide_eq_false (by omega)]
    repeat' first | refine go_seq ?_ | refine go_region ?_ | ((first | refine go_op rfl ?_ | refine go_nil ?_) <;> conv => whnf) | ((first | refine ⟨by kernel_rfl, ?_⟩ | refine go_ret ?_) <;> conv => whnf) | ((first | refine go_skip ?_) <;> conv => whnf) | refine go_true rfl ?_ | refine go_false rfl ?_ | refine go_cond rfl (fun h => ?_) (fun h => ?_) | refine ⟨rfl, ?_⟩ | ((first | refine ⟨trivial, ?_⟩ | refine ⟨le_of_ble rfl, ?_⟩) <;> conv => whnf) | fail
    all_goals first
      | (exfalso; simp at h; omega)
      | exact ret_all rfl ⟨ret1_imm rfl rfl, ret1_imm rfl rfl, trivial⟩ List.nodup_nil List.nodup_nil trivial
      | trace_state
  · rw [if_neg hx, decide_eq_true (by omega)]
    repeat' first | refine go_seq ?_ | refine go_region ?_ | ((first | refine go_op rfl ?_ | refine go_nil ?_) <;> conv => whnf) | ((first | refine ⟨by kernel_rfl, ?_⟩ | refine go_ret ?_) <;> conv => whnf) | ((first | refine go_skip ?_) <;> conv => whnf) | refine go_true rfl ?_ | refine go_false rfl ?_ | refine go_cond rfl (fun h => ?_) (fun h => ?_) | refine ⟨rfl, ?_⟩ | ((first | refine ⟨trivial, ?_⟩ | refine ⟨le_of_ble rfl, ?_⟩) <;> conv => whnf) | fail
    all_goals first
      | (exfalso; simp at h; omega)
      | exact ret_all rfl ⟨ret1_imm rfl rfl, ret1_imm rfl rfl, trivial⟩ List.nodup_nil List.nodup_nil trivial
      | trace_state

def sumW (rs : List Int) : Int := rs.foldl (fun a r => IntKind.i64.wrap (a + r)) 0
theorem sumW_next {rs : List Int} {i : Nat} {r : Int} (h : rs[i]? = some r) : sumW (rs.take (i + 1)) = IntKind.i64.wrap (sumW (rs.take i) + r) := by
  unfold sumW
  rw [List.take_add_one, h, List.foldl_append]
  rfl
theorem sumW_pos {rs : List Int} (hr : ∀ r ∈ rs, 1 ≤ r ∧ r ≤ 60) (hl : rs.length ≤ 1000) : ∀ i : Nat, 0 ≤ sumW (rs.take i) ∧ sumW (rs.take i) ≤ 60 * (min i 1000 : Nat)
  | 0 => by simp [sumW]
  | i + 1 => by
    have ih := sumW_pos hr hl i
    cases h : rs[i]? with
    | none =>
      have hge := le_of_at h
      rw [List.take_of_length_le hge] at ih
      rw [List.take_of_length_le (by omega)]
      omega
    | some r =>
      have hlt := lt_of_at h
      have h1 := hr r (List.mem_of_getElem? h)
      rw [sumW_next h, wrap_small (by omega) (by omega)]
      omega
/-- The minutes of a ride; -1 where there is none. -/
def rtV (l : Line) (a b : Int) : Int :=
  if idxF (pInt a) l.stops < 0 ∨ idxF (pInt b) l.stops ≤ idxF (pInt a) l.stops then -1
  else sumW ((l.runs.drop (idxF (pInt a) l.stops).toNat).take ((idxF (pInt b) l.stops).toNat - (idxF (pInt a) l.stops).toNat))
theorem c20 (l : Line) (hs : l.stops.length ≤ 1000) (hr : l.runs.length + 1 = l.stops.length) (a b : Int) : CallOk Try.prog 20 [.imm (.agg l.enc), .imm (.int .i64 a), .imm (.int .i64 b)] { res := [.imm (.int .i64 (rtV l a b))] } := by
  refine callOk_of tyOk Try.func20 rfl rfl (le_of_ble rfl) (le_of_ble rfl) (mutOk_imm rfl _) ?_
  have hA := c27 l.stops a (by omega)
  have hB := c27 l.stops b (by omega)
  have hlo := idx_lo (pInt a) l.stops
  have hbh := idx_hi (pInt b) l.stops
  have hbl := idx_lo (pInt b) l.stops
  unfold rtV
  generalize idxF (pInt a) l.stops = i at *
  generalize idxF (pInt b) l.stops = k at *
  by_cases hc : i < 0 ∨ k ≤ i
  · rw [if_pos hc]
    repeat' first | refine go_seq ?_ | refine go_region ?_ | refine go_miss rfl rfl rfl ?_ | refine go_undef rfl rfl rfl ?_ | refine go_draw drawsOk ?_ | ((first | refine go_op rfl ?_ | refine go_nil ?_ | refine go_hit rfl rfl rfl ?_ | refine go_splitT rfl rfl rfl (fun h => ?_) (fun h => ?_) | refine go_splitF rfl rfl rfl (fun h => ?_) (fun h => ?_) | refine go_dop rfl ?_ | refine go_dhit rfl rfl ?_ | refine go_dmiss rfl rfl ?_ | refine go_dundef rfl rfl ?_ | refine go_dend (by kernel_rfl) ?_ | refine go_pickT rfl ?_ | refine go_pickF rfl ?_ | refine go_pick rfl (fun h => ?_) (fun h => ?_) | refine go_call [] (hA) rfl rfl rfl rfl ?_ | refine go_call [] (hB) rfl rfl rfl rfl ?_) <;> conv => whnf) | ((first | refine go_dsplit2 rfl (fun h => ?_) (fun h => ?_) | refine go_loadB ?_ | refine ⟨by kernel_rfl, ?_⟩ | refine go_ret ?_) <;> conv => whnf) | refine go_block ?_ | ((first | refine go_skip ?_ | refine go_exit ?_) <;> conv => whnf) | refine go_true rfl ?_ | refine go_false rfl ?_ | refine go_cond rfl (fun h => ?_) (fun h => ?_) | refine ⟨rfl, ?_⟩ | ((first | refine ⟨trivial, ?_⟩ | refine ⟨le_of_ble rfl, ?_⟩) <;> conv => whnf) | fail
    all_goals first
      | exact ret_imm rfl rfl rfl rfl rfl rfl
      | (exfalso; simp only [decide_eq_true_eq, decide_eq_false_iff_not] at *; omega)
      | trace_state
  · rw [if_neg hc]
    obtain ⟨i, rfl⟩ := Int.eq_ofNat_of_zero_le (show 0 ≤ i by omega)
    obtain ⟨k, rfl⟩ := Int.eq_ofNat_of_zero_le (show 0 ≤ k by omega)
    have hne : l.stops ≠ [] := fun e => by rw [e] at hr; simp at hr
    have hk : k ≤ l.runs.length := by rcases hbh with h | h; omega; exact absurd h hne
    have hk' : k ≤ (l.runs.map intRow).length := by rw [List.length_map]; exact hk
    have hm : ((l.runs.map intRow).drop i).take (k - i) = ((l.runs.drop i).take (k - i)).map intRow := by rw [← List.map_drop, ← List.map_take]
    rw [Int.toNat_natCast, Int.toNat_natCast]
    have hlen : ((l.runs.drop i).take (k - i)).length = k - i := by rw [List.length_take, List.length_drop]; omega
    have hone : ∀ r ∈ l.runs.map intRow, r.length = ty3.size := by
      intro r hr
      obtain ⟨_, _, rfl⟩ := List.mem_map.1 hr
      rfl
    repeat' first | refine go_seq ?_ | refine go_region ?_ | refine go_miss rfl rfl rfl ?_ | refine go_undef rfl rfl rfl ?_ | refine go_draw drawsOk ?_ | ((first | refine go_op rfl ?_ | refine go_nil ?_ | refine go_hit rfl rfl rfl ?_ | refine go_splitT rfl rfl rfl (fun h => ?_) (fun h => ?_) | refine go_splitF rfl rfl rfl (fun h => ?_) (fun h => ?_) | refine go_dop rfl ?_ | refine go_dhit rfl rfl ?_ | refine go_dmiss rfl rfl ?_ | refine go_dundef rfl rfl ?_ | refine go_dend (by kernel_rfl) ?_ | refine go_pickT rfl ?_ | refine go_pickF rfl ?_ | refine go_pick rfl (fun h => ?_) (fun h => ?_) | refine go_call [] (hA) rfl rfl rfl rfl ?_ | refine go_call [] (hB) rfl rfl rfl rfl ?_ | refine go_sliceMidI (i := i) (k := k) rfl rfl rfl hone rfl rfl (by omega) hk' ?_) <;> conv => whnf) | ((first | refine go_dsplit2 rfl (fun h => ?_) (fun h => ?_) | refine go_loadB ?_ | refine ⟨by kernel_rfl, ?_⟩ | refine go_ret ?_) <;> conv => whnf) | refine go_block ?_ | ((first | refine go_skip ?_ | refine go_exit ?_) <;> conv => whnf) | refine go_true rfl ?_ | refine go_false rfl ?_ | refine go_cond rfl (fun h => ?_) (fun h => ?_) | refine ⟨rfl, ?_⟩ | ((first | refine ⟨trivial, ?_⟩ | refine ⟨le_of_ble rfl, ?_⟩) <;> conv => whnf) | fail
    all_goals first
      | (exfalso; simp only [decide_eq_true_eq, decide_eq_false_iff_not] at *; omega)
      | skip
    rw [hm]
    generalize (l.runs.drop i).take (k - i) = rs at *
    have el : ((rs.map intRow).length : Int) = rs.length := by rw [List.length_map]
    refine go_loop (α := Nat) (fun j => j ≤ rs.length) (fun j => rs.length - j) (fun j => st Try.f20.ntmps [(9, .imm (.int .i64 (sumW (rs.take j)))), (31, .imm (.list (rs.map intRow))), (32, .imm (.int .i64 (rs.map intRow).length)), (33, .imm (.int .i64 (j : Nat)))] [] []) 0
      (Nat.zero_le _) (ref_st0 rfl ⟨rfl, rfl, rfl, rfl, trivial⟩ rfl) ?_
    intro j hj
    cases hx : rs[j]? with
    | none =>
      have hge := le_of_at hx
      rw [List.take_of_length_le hge]
      repeat' first | refine go_seq ?_ | refine go_region ?_ | refine go_miss rfl rfl rfl ?_ | refine go_undef rfl rfl rfl ?_ | refine go_draw drawsOk ?_ | ((first | refine go_op rfl ?_ | refine go_nil ?_ | refine go_hit rfl rfl rfl ?_ | refine go_splitT rfl rfl rfl (fun h => ?_) (fun h => ?_) | refine go_splitF rfl rfl rfl (fun h => ?_) (fun h => ?_) | refine go_dop rfl ?_ | refine go_dhit rfl rfl ?_ | refine go_dmiss rfl rfl ?_ | refine go_dundef rfl rfl ?_ | refine go_dend (by kernel_rfl) ?_ | refine go_pickT rfl ?_ | refine go_pickF rfl ?_ | refine go_pick rfl (fun h => ?_) (fun h => ?_)) <;> conv => whnf) | ((first | refine go_dsplit2 rfl (fun h => ?_) (fun h => ?_) | refine go_loadB ?_ | refine ⟨by kernel_rfl, ?_⟩ | refine go_ret ?_) <;> conv => whnf) | refine go_block ?_ | ((first | refine go_skip ?_ | refine go_exit ?_) <;> conv => whnf) | refine go_true rfl ?_ | refine go_false rfl ?_ | refine go_cond rfl (fun h => ?_) (fun h => ?_) | refine ⟨rfl, ?_⟩ | ((first | refine ⟨trivial, ?_⟩ | refine ⟨le_of_ble rfl, ?_⟩) <;> conv => whnf) | fail
      all_goals first
        | exact ret_imm rfl rfl rfl rfl rfl rfl
        | (exfalso; simp only [decide_eq_true_eq, List.length_map] at *; omega)
        | trace_state
    | some d =>
      have hlt := lt_of_at hx
      have hrw := row_at intRow hx
      repeat' first | refine go_seq ?_ | refine go_region ?_ | refine go_miss rfl rfl rfl ?_ | refine go_undef rfl rfl rfl ?_ | refine go_draw drawsOk ?_ | ((first | refine go_op rfl ?_ | refine go_nil ?_ | refine go_hit rfl rfl rfl ?_ | refine go_splitT rfl rfl rfl (fun h => ?_) (fun h => ?_) | refine go_splitF rfl rfl rfl (fun h => ?_) (fun h => ?_) | refine go_dop rfl ?_ | refine go_dhit rfl rfl ?_ | refine go_dmiss rfl rfl ?_ | refine go_dundef rfl rfl ?_ | refine go_dend (by kernel_rfl) ?_ | refine go_pickT rfl ?_ | refine go_pickF rfl ?_ | refine go_pick rfl (fun h => ?_) (fun h => ?_) | refine go_idx rfl rfl rfl rfl (by omega) hrw rfl ?_) <;> conv => whnf) | ((first | refine go_dsplit2 rfl (fun h => ?_) (fun h => ?_) | refine go_loadB ?_ | refine ⟨by kernel_rfl, ?_⟩ | refine go_ret ?_) <;> conv => whnf) | refine go_block ?_ | ((first | refine go_skip ?_ | refine go_exit ?_) <;> conv => whnf) | refine go_true rfl ?_ | refine go_false rfl ?_ | refine go_cond rfl (fun h => ?_) (fun h => ?_) | refine ⟨rfl, ?_⟩ | ((first | refine ⟨trivial, ?_⟩ | refine ⟨le_of_ble rfl, ?_⟩) <;> conv => whnf) | fail
      all_goals first
        | (exfalso; simp only [decide_eq_false_iff_not, List.length_map] at *; omega)
        | (refine go_next (j + 1) (by show j + 1 ≤ _; omega) (by show _ - (j + 1) < _ - j; omega) (ref_st0 rfl ⟨?_, rfl, rfl, next_i (by omega), trivial⟩ rfl)
           show AV.imm _ = AV.imm _
           rw [sumW_next hx])
        | trace_state
end Go.Proofs.Yteoiohkdhdpkoaa

