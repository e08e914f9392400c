/- The walks of lists of numbers, of searches and of notices. -/
import Derived.Test.YtbjjhiihoiogoaaM2
namespace Go.Proofs.Ytbjjhiihoiogoaa
open Go Go.Am
set_option maxRecDepth 100000
set_option maxHeartbeats 4000000
attribute [local irreducible] amOps amC opCall opIndexAddr opPick retQ opMake opStore amDraw opAppend opLoad opNilCmp opIndex

/-! ### Lists of numbers -/

theorem c66 (xs ys : List Int) (hl : xs.length ≤ 1048576) : CallOk Try.prog 66 [.imm (.list (xs.map intRow)), .imm (.list (ys.map intRow))] { res := [.imm (.bool (decide (xs.length = ys.length) && (xs.zip ys).all fun x => decide (x.1 = x.2)))] } := by
  refine callOk_of tyOk Try.func66 rfl rfl (le_of_ble rfl) (le_of_ble rfl) (mutOk_imm rfl _) ?_
  repeat' first | refine go_seq ?_ | refine go_region ?_ | refine go_draw drawsOk ?_ | ((first | refine go_op rfl ?_ | refine go_nil ?_ | refine go_dop rfl ?_ | refine go_dend (by kernel_rfl) ?_) <;> conv => whnf) | ((first | refine go_loadB ?_ | refine ⟨by kernel_rfl, ?_⟩ | refine go_ret ?_) <;> conv => whnf) | refine go_block ?_ | ((first | refine go_skip ?_ | refine go_exit ?_) <;> conv => whnf) | refine go_true rfl ?_ | refine go_false rfl ?_ | refine go_cond rfl (fun h => ?_) (fun h => ?_) | refine ⟨rfl, ?_⟩ | ((first | refine ⟨trivial, ?_⟩ | refine ⟨le_of_ble rfl, ?_⟩) <;> conv => whnf) | fail
  · refine ret_imm rfl rfl rfl rfl ?_ rfl
    simp at h
    simp; omega
  simp at h
  refine go_loop (α := Nat) (fun i => i ≤ xs.length ∧ ((xs.zip ys).take i).all (fun x => decide (x.1 = x.2)) = true) (fun i => xs.length - i) (fun i => st Try.f66.ntmps [(0, .imm (.list (xs.map intRow))), (1, .imm (.list (ys.map intRow))), (5, .imm (.int .i64 (i : Nat)))] [] []) 0
    ⟨Nat.zero_le _, rfl⟩ (ref_st0 rfl ⟨rfl, rfl, rfl, trivial⟩ rfl) ?_
  rintro i ⟨hi, ha⟩
  cases hx : xs[i]? with
  | none =>
    have hge := le_of_at hx
    repeat' first | refine go_seq ?_ | refine go_region ?_ | refine go_draw drawsOk ?_ | ((first | refine go_op rfl ?_ | refine go_nil ?_ | refine go_dop rfl ?_ | refine go_dend (by kernel_rfl) ?_) <;> conv => whnf) | ((first | refine go_loadB ?_ | refine ⟨by kernel_rfl, ?_⟩ | refine go_ret ?_) <;> conv => whnf) | refine go_block ?_ | ((first | refine go_skip ?_ | refine go_exit ?_) <;> conv => whnf) | refine go_true rfl ?_ | refine go_false rfl ?_ | refine go_cond rfl (fun h => ?_) (fun h => ?_) | refine ⟨rfl, ?_⟩ | ((first | refine ⟨trivial, ?_⟩ | refine ⟨le_of_ble rfl, ?_⟩) <;> conv => whnf) | fail
    · exfalso; simp at *; omega
    · refine ret_imm rfl rfl rfl rfl ?_ rfl
      rw [all_end (by simp; omega) ha]
      simp; omega
  | some v =>
    have hlt := lt_of_at hx
    have hr := row_at intRow hx
    obtain ⟨w, hw⟩ : ∃ w, ys[i]? = some w := ⟨_, List.getElem?_eq_getElem (by omega)⟩
    have hr2 := row_at intRow hw
    have hz : (xs.zip ys)[i]? = some (v, w) := by rw [List.getElem?_zip_eq_some]; exact ⟨hx, hw⟩
    have hno := fun h => all_not (p := fun x : Int × Int => decide (x.1 = x.2)) hz h
    repeat' first | refine go_seq ?_ | refine go_region ?_ | refine go_draw drawsOk ?_ | ((first | refine go_op rfl ?_ | refine go_nil ?_ | refine go_dop rfl ?_ | refine go_dend (by kernel_rfl) ?_ | refine go_idx rfl rfl rfl rfl (by omega) hr rfl ?_ | refine go_idx rfl rfl rfl rfl (by omega) hr2 rfl ?_) <;> conv => whnf) | ((first | refine go_loadB ?_ | refine ⟨by kernel_rfl, ?_⟩ | refine go_ret ?_) <;> conv => whnf) | refine go_block ?_ | ((first | refine go_skip ?_ | refine go_exit ?_) <;> conv => whnf) | refine go_true rfl ?_ | refine go_false rfl ?_ | refine go_cond rfl (fun h => ?_) (fun h => ?_) | refine ⟨rfl, ?_⟩ | ((first | refine ⟨trivial, ?_⟩ | refine ⟨le_of_ble rfl, ?_⟩) <;> conv => whnf) | fail
    all_goals first
      | (exfalso; simp at h; omega)
      | (exact go_next (i + 1) ⟨by omega, all_next hz ha (by simpa using h)⟩ (by omega) (ref_st0 rfl ⟨rfl, rfl, next_i (by omega), trivial⟩ rfl))
      | (refine ret_imm rfl rfl rfl rfl ?_ rfl
         rw [hno (by simpa using h)]; simp)

theorem c66s (xs : List Int) (hl : xs.length ≤ 1048576) : CallOk Try.prog 66 [.imm (.list (xs.map intRow)), .imm (.list (xs.map intRow))] { res := [.imm (.bool true)] } := by
  have := c66 xs xs hl
  rw [zip_self (f := fun a b => decide (a = b)) (by simp)] at this
  simpa using this

def marksI (k : Int) (n : Nat) : List Int := (List.range n).map (kAt k)
theorem marksI_len (k : Int) (n : Nat) : ((marksI k n).map intRow).length = n := by simp [marksI]
theorem marksI_at (k : Int) {n i : Nat} (h : i < n) : ((marksI k n).map intRow)[i]? = some (intRow (kAt k i)) := by simp [marksI, h]

theorem c71 (xs : List Int) (k : Int) (hl : xs.length ≤ 1048576) : CallOk Try.prog 71 [.arr 3 1 (xs.map intRow), .imm (.int .i64 k)]
    { res := [.imm (.int .i64 (kAt k xs.length))], muts := [.arr 3 1 ((marksI k xs.length).map intRow)] } := by
  refine callOk_of tyOk Try.func71 rfl rfl (le_of_ble rfl) (le_of_ble rfl) (mutOk_arr0 rfl (by simp [marksI])) ?_
  have hyl : ((marksI k xs.length).map intRow).length = (xs.map intRow).length := by simp [marksI]
  repeat' first | refine go_seq ?_ | refine go_region ?_ | ((first | refine go_op rfl ?_ | refine go_nil ?_ | refine go_storeBox rfl rfl rfl rfl rfl rfl ?_) <;> conv => whnf) | ((first | refine ⟨by kernel_rfl, ?_⟩ | refine go_ret ?_) <;> conv => whnf) | refine go_block ?_ | ((first | refine go_skip ?_ | refine go_exit ?_) <;> conv => whnf) | refine go_true rfl ?_ | refine go_false rfl ?_ | refine go_cond rfl (fun h => ?_) (fun h => ?_) | refine ⟨rfl, ?_⟩ | ((first | refine ⟨trivial, ?_⟩ | refine ⟨le_of_ble rfl, ?_⟩) <;> conv => whnf) | fail
  refine go_loop (α := Nat) (fun i => i ≤ xs.length) (fun i => xs.length - i)
    (fun i => st Try.f71.ntmps [(0, .own 1000 0 (xs.map intRow).length), (1, .imm (.int .i64 (kAt k i))), (5, .imm (.int .i64 (i : Nat)))]
      [(1000, .arr 3 1 (upto ((marksI k xs.length).map intRow) (xs.map intRow) i))] [1000]) 0 (Nat.zero_le _) ?_ ?_
  · refine ref_st (fun _ => 0) rfl ⟨⟨rfl, rfl⟩, rfl, rfl, trivial⟩ ⟨?_, trivial⟩ (by simp) rfl (by simp [lookM])
    rw [upto_0]; rfl
  · intro i hi
    cases hx : xs[i]? with
    | none =>
      have hge := le_of_at hx
      have hie : i = xs.length := by omega
      rw [upto_end hyl (by simp; omega), hie]
      repeat' first | refine go_seq ?_ | refine go_region ?_ | ((first | refine go_op rfl ?_ | refine go_nil ?_ | refine go_storeBox rfl rfl rfl rfl rfl rfl ?_) <;> conv => whnf) | ((first | refine ⟨by kernel_rfl, ?_⟩ | refine go_ret ?_) <;> conv => whnf) | refine go_block ?_ | ((first | refine go_skip ?_ | refine go_exit ?_) <;> conv => whnf) | refine go_true rfl ?_ | refine go_false rfl ?_ | refine go_cond rfl (fun h => ?_) (fun h => ?_) | refine ⟨rfl, ?_⟩ | ((first | refine ⟨trivial, ?_⟩ | refine ⟨le_of_ble rfl, ?_⟩) <;> conv => whnf) | fail
      · exfalso; simp at *
      · exact ret_mut0 rfl rfl rfl rfl rfl rfl rfl (int_gr _)
    | some v =>
      have hlt := lt_of_at hx
      have hrow : (xs.map intRow)[i]? = some (intRow v) := by simp [hx]
      have hat := upto_at hyl hrow
      have hset := upto_set (y := intRow (kAt k i)) hyl hrow (marksI_at k hlt)
      repeat' first | refine go_seq ?_ | refine go_region ?_ | ((first | refine go_op rfl ?_ | refine go_nil ?_ | refine go_storeBox rfl rfl rfl rfl rfl rfl ?_ | refine go_idxOwn rfl rfl rfl rfl rfl rfl (by simp; omega) ?_ | refine go_storeEl rfl rfl rfl rfl hat rfl rfl hset ?_) <;> conv => whnf) | ((first | refine ⟨by kernel_rfl, ?_⟩ | refine go_ret ?_) <;> conv => whnf) | refine go_block ?_ | ((first | refine go_skip ?_ | refine go_exit ?_) <;> conv => whnf) | refine go_true rfl ?_ | refine go_false rfl ?_ | refine go_cond rfl (fun h => ?_) (fun h => ?_) | refine ⟨rfl, ?_⟩ | ((first | refine ⟨trivial, ?_⟩ | refine ⟨le_of_ble rfl, ?_⟩) <;> conv => whnf) | fail
      · exact go_next (i + 1) (by omega) (by omega) (ref_st id rfl ⟨⟨rfl, rfl⟩, rfl, next_i (by omega), trivial⟩ ⟨rfl, trivial⟩ (by simp) rfl (by simp [lookM]))
      · exfalso; simp at *; omega

theorem c72 (k : Int) (n : Nat) (hl : n ≤ 1048576) : CallOk Try.prog 72 [.imm (.list ((marksI k n).map intRow)), .imm (.int .i64 k)] { res := [.imm (.int .i64 (kAt k n))] } := by
  refine callOk_of tyOk Try.func72 rfl rfl (le_of_ble rfl) (le_of_ble rfl) (mutOk_imm rfl _) ?_
  repeat' first | refine go_seq ?_ | refine go_region ?_ | ((first | refine go_op rfl ?_ | refine go_nil ?_) <;> conv => whnf) | ((first | refine go_loadB ?_ | refine ⟨by kernel_rfl, ?_⟩ | refine go_ret ?_) <;> conv => whnf) | refine go_block ?_ | ((first | refine go_skip ?_ | refine go_exit ?_) <;> conv => whnf) | refine go_true rfl ?_ | refine go_false rfl ?_ | refine go_cond rfl (fun h => ?_) (fun h => ?_) | refine ⟨rfl, ?_⟩ | ((first | refine ⟨trivial, ?_⟩ | refine ⟨le_of_ble rfl, ?_⟩) <;> conv => whnf) | fail
  refine go_loop (α := Nat) (fun i => i ≤ n) (fun i => n - i)
    (fun i => st Try.f72.ntmps [(0, .imm (.list ((marksI k n).map intRow))), (1, .imm (.int .i64 (kAt k i))), (5, .imm (.int .i64 (i : Nat)))] [] []) 0 (Nat.zero_le _) (ref_st0 rfl ⟨rfl, rfl, rfl, trivial⟩ rfl) ?_
  intro i hi
  by_cases hlt : i < n
  · have hr : ((marksI k n).map intRow)[((i : Nat) : Int).toNat]? = some (intRow (kAt k i)) := marksI_at k hlt
    repeat' first | refine go_seq ?_ | refine go_region ?_ | ((first | refine go_op rfl ?_ | refine go_nil ?_ | refine go_idx rfl rfl rfl rfl (by omega) (by assumption) rfl ?_) <;> conv => whnf) | ((first | refine go_loadB ?_ | refine ⟨by kernel_rfl, ?_⟩ | refine go_ret ?_) <;> conv => whnf) | refine go_block ?_ | ((first | refine go_skip ?_ | refine go_exit ?_) <;> conv => whnf) | refine go_true rfl ?_ | refine go_false rfl ?_ | refine go_cond rfl (fun h => ?_) (fun h => ?_) | refine ⟨rfl, ?_⟩ | ((first | refine ⟨trivial, ?_⟩ | refine ⟨le_of_ble rfl, ?_⟩) <;> conv => whnf) | fail
    all_goals first
      | (exfalso; simp at h; done)
      | (refine go_next (i + 1) (by omega) (by omega) (ref_st0 rfl ⟨rfl, rfl, next_i (by omega), trivial⟩ rfl); done)
      | (exfalso; rw [marksI_len] at h; simp at h; omega)
  · have hie : i = n := by omega
    subst hie
    repeat' first | refine go_seq ?_ | refine go_region ?_ | ((first | refine go_op rfl ?_ | refine go_nil ?_) <;> conv => whnf) | ((first | refine go_loadB ?_ | refine ⟨by kernel_rfl, ?_⟩ | refine go_ret ?_) <;> conv => whnf) | refine go_block ?_ | ((first | refine go_skip ?_ | refine go_exit ?_) <;> conv => whnf) | refine go_true rfl ?_ | refine go_false rfl ?_ | refine go_cond rfl (fun h => ?_) (fun h => ?_) | refine ⟨rfl, ?_⟩ | ((first | refine ⟨trivial, ?_⟩ | refine ⟨le_of_ble rfl, ?_⟩) <;> conv => whnf) | fail
    · exfalso; rw [marksI_len] at h; simp at h
    · exact ret_imm rfl rfl rfl rfl rfl rfl

/-! ### Searches -/

def idxF {α : Type} (p : α → Bool) (xs : List α) : Int := if xs.any p then (xs.findIdx p : Nat) else -1

theorem idxF_hit {α : Type} {p : α → Bool} {xs : List α} {i : Nat} {v : α} (hx : xs[i]? = some v) (hp : p v = true) (ha : (xs.take i).any p = false) : idxF p xs = i := by
  have hlt := lt_of_at hx
  have hv : xs[i] = v := (List.getElem?_eq_some_iff.1 hx).2
  have hany : xs.any p = true := List.any_eq_true.2 ⟨v, List.mem_of_getElem? hx, hp⟩
  have hf : xs.findIdx p = i := by
    rw [List.findIdx_eq hlt]
    refine ⟨by rw [hv]; exact hp, fun j hj => ?_⟩
    have := List.any_eq_false.1 ha (xs[j]'(by omega)) (by
      rw [List.mem_take_iff_getElem]
      exact ⟨j, by omega, rfl⟩)
    simpa using this
  unfold idxF
  rw [if_pos hany, hf]
theorem idxF_miss {α : Type} {p : α → Bool} {xs : List α} (ha : xs.any p = false) : idxF p xs = -1 := by
  unfold idxF
  rw [ha]
  rfl
theorem idxF_ge {α : Type} (p : α → Bool) (xs : List α) : decide (0 ≤ idxF p xs) = xs.any p := by
  unfold idxF
  cases xs.any p <;> simp

theorem any_next {α : Type} {p : α → Bool} {xs : List α} {i : Nat} {x : α} (h : xs[i]? = some x) (ha : (xs.take i).any p = false) (hp : p x = false) : (xs.take (i + 1)).any p = false := by
  rw [List.take_add_one, h]
  simp only [List.any_append, ha, Option.toList_some, List.any_cons, hp, List.any_nil, Bool.or_self]

theorem c176 (g : FuncId) (p : Message → Bool) (hp : ∀ v, CallOk Try.prog g [.imm (.agg v.enc)] { res := [.imm (.bool (p v))] }) (xs : List Message) (hl : xs.length ≤ 1048576) :
    CallOk Try.prog 176 [.imm (.list (xs.map Message.enc)), .imm (.fn g [])] { res := [.imm (.int .i64 (idxF p xs))] } := by
  refine callOk_of tyOk Try.func176 rfl rfl (le_of_ble rfl) (le_of_ble rfl) (mutOk_imm rfl _) ?_
  repeat' first | refine go_seq ?_ | refine go_region ?_ | ((first | refine go_op rfl ?_ | refine go_nil ?_) <;> conv => whnf) | ((first | refine go_loadB ?_ | refine ⟨by kernel_rfl, ?_⟩ | refine go_ret ?_) <;> conv => whnf) | refine go_block ?_ | ((first | refine go_skip ?_ | refine go_exit ?_) <;> conv => whnf) | refine go_true rfl ?_ | refine go_false rfl ?_ | refine go_cond rfl (fun h => ?_) (fun h => ?_) | refine ⟨rfl, ?_⟩ | ((first | refine ⟨trivial, ?_⟩ | refine ⟨le_of_ble rfl, ?_⟩) <;> conv => whnf) | fail
  refine go_loop (α := Nat) (fun i => i ≤ xs.length ∧ (xs.take i).any p = false) (fun i => xs.length - i) (fun i => st Try.f176.ntmps [(0, .imm (.list (xs.map Message.enc))), (1, .imm (.fn g [])), (7, .imm (.int .i64 (xs.map Message.enc).length)), (8, .imm (.int .i64 (i : Nat)))] [] []) 0
    ⟨Nat.zero_le _, rfl⟩ (ref_st0 rfl ⟨rfl, rfl, rfl, rfl, trivial⟩ rfl) ?_
  rintro i ⟨hi, ha⟩
  cases hx : xs[i]? with
  | none =>
    have hge := le_of_at hx
    rw [List.take_of_length_le hge] at ha
    repeat' first | refine go_seq ?_ | refine go_region ?_ | ((first | refine go_op rfl ?_ | refine go_nil ?_) <;> conv => whnf) | ((first | refine go_loadB ?_ | refine ⟨by kernel_rfl, ?_⟩ | refine go_ret ?_) <;> conv => whnf) | refine go_block ?_ | ((first | refine go_skip ?_ | refine go_exit ?_) <;> conv => whnf) | refine go_true rfl ?_ | refine go_false rfl ?_ | refine go_cond rfl (fun h => ?_) (fun h => ?_) | refine ⟨rfl, ?_⟩ | ((first | refine ⟨trivial, ?_⟩ | refine ⟨le_of_ble rfl, ?_⟩) <;> conv => whnf) | fail
    · exfalso; simp at h; omega
    · exact ret_imm rfl rfl rfl rfl (by rw [idxF_miss ha]) rfl
  | some v =>
    have hlt := lt_of_at hx
    have hr := row_at Message.enc hx
    repeat' first | refine go_seq ?_ | refine go_region ?_ | ((first | refine go_op rfl ?_ | refine go_nil ?_ | refine go_call [] (hp v) rfl rfl rfl rfl ?_ | refine go_idx rfl rfl rfl rfl (by omega) hr rfl ?_) <;> conv => whnf) | ((first | refine go_loadB ?_ | refine ⟨by kernel_rfl, ?_⟩ | refine go_ret ?_) <;> conv => whnf) | refine go_block ?_ | ((first | refine go_skip ?_ | refine go_exit ?_) <;> conv => whnf) | refine go_true rfl ?_ | refine go_false rfl ?_ | refine go_cond rfl (fun h => ?_) (fun h => ?_) | refine ⟨rfl, ?_⟩ | ((first | refine ⟨trivial, ?_⟩ | refine ⟨le_of_ble rfl, ?_⟩) <;> conv => whnf) | fail
    · exact ret_imm rfl rfl rfl rfl (by rw [idxF_hit hx h ha]) rfl
    · exact go_next (i + 1) ⟨by omega, any_next hx ha h⟩ (by omega) (ref_st0 rfl ⟨rfl, rfl, rfl, next_i (by omega), trivial⟩ rfl)
    · exfalso; simp at h; omega

theorem c135 (g : FuncId) (p : Message → Bool) (hp : ∀ v, CallOk Try.prog g [.imm (.agg v.enc)] { res := [.imm (.bool (p v))] }) (xs : List Message) (hl : xs.length ≤ 1048576) :
    CallOk Try.prog 135 [.imm (.list (xs.map Message.enc)), .imm (.fn g [])] { res := [.imm (.bool (xs.any p))] } := by
  refine callOk_of tyOk Try.func135 rfl rfl (le_of_ble rfl) (le_of_ble rfl) (mutOk_imm rfl _) ?_
  have hc := c176 g p hp xs hl
  repeat' first | refine go_seq ?_ | refine go_region ?_ | ((first | refine go_op rfl ?_ | refine go_nil ?_ | refine go_call [] (hc) rfl rfl rfl rfl ?_) <;> conv => whnf) | ((first | refine ⟨by kernel_rfl, ?_⟩ | refine go_ret ?_) <;> conv => whnf) | ((first | refine go_skip ?_) <;> conv => whnf) | refine ⟨rfl, ?_⟩ | ((first | refine ⟨trivial, ?_⟩ | refine ⟨le_of_ble rfl, ?_⟩) <;> conv => whnf) | fail
  exact ret_imm rfl rfl rfl rfl (by rw [idxF_ge]) rfl

theorem c176d (g : FuncId) (d : D) (p : Message → Bool) (hp : ∀ v, CallOk Try.prog g [.imm (.agg v.enc), .imm d] { res := [.imm (.bool (p v))] }) (xs : List Message) (hl : xs.length ≤ 1048576) :
    CallOk Try.prog 176 [.imm (.list (xs.map Message.enc)), .imm (.fn g [d])] { res := [.imm (.int .i64 (idxF p xs))] } := by
  refine callOk_of tyOk Try.func176 rfl rfl (le_of_ble rfl) (le_of_ble rfl) (mutOk_imm rfl _) ?_
  repeat' first | refine go_seq ?_ | refine go_region ?_ | ((first | refine go_op rfl ?_ | refine go_nil ?_) <;> conv => whnf) | ((first | refine go_loadB ?_ | refine ⟨by kernel_rfl, ?_⟩ | refine go_ret ?_) <;> conv => whnf) | refine go_block ?_ | ((first | refine go_skip ?_ | refine go_exit ?_) <;> conv => whnf) | refine go_true rfl ?_ | refine go_false rfl ?_ | refine go_cond rfl (fun h => ?_) (fun h => ?_) | refine ⟨rfl, ?_⟩ | ((first | refine ⟨trivial, ?_⟩ | refine ⟨le_of_ble rfl, ?_⟩) <;> conv => whnf) | fail
  refine go_loop (α := Nat) (fun i => i ≤ xs.length ∧ (xs.take i).any p = false) (fun i => xs.length - i) (fun i => st Try.f176.ntmps [(0, .imm (.list (xs.map Message.enc))), (1, .imm (.fn g [d])), (7, .imm (.int .i64 (xs.map Message.enc).length)), (8, .imm (.int .i64 (i : Nat)))] [] []) 0
    ⟨Nat.zero_le _, rfl⟩ (ref_st0 rfl ⟨rfl, rfl, rfl, rfl, trivial⟩ rfl) ?_
  rintro i ⟨hi, ha⟩
  cases hx : xs[i]? with
  | none =>
    have hge := le_of_at hx
    rw [List.take_of_length_le hge] at ha
    repeat' first | refine go_seq ?_ | refine go_region ?_ | ((first | refine go_op rfl ?_ | refine go_nil ?_) <;> conv => whnf) | ((first | refine go_loadB ?_ | refine ⟨by kernel_rfl, ?_⟩ | refine go_ret ?_) <;> conv => whnf) | refine go_block ?_ | ((first | refine go_skip ?_ | refine go_exit ?_) <;> conv => whnf) | refine go_true rfl ?_ | refine go_false rfl ?_ | refine go_cond rfl (fun h => ?_) (fun h => ?_) | refine ⟨rfl, ?_⟩ | ((first | refine ⟨trivial, ?_⟩ | refine ⟨le_of_ble rfl, ?_⟩) <;> conv => whnf) | fail
    · exfalso; simp at h; omega
    · exact ret_imm rfl rfl rfl rfl (by rw [idxF_miss ha]) rfl
  | some v =>
    have hlt := lt_of_at hx
    have hr := row_at Message.enc hx
    repeat' first | refine go_seq ?_ | refine go_region ?_ | ((first | refine go_op rfl ?_ | refine go_nil ?_ | refine go_call [] (hp v) rfl rfl rfl rfl ?_ | refine go_idx rfl rfl rfl rfl (by omega) hr rfl ?_) <;> conv => whnf) | ((first | refine go_loadB ?_ | refine ⟨by kernel_rfl, ?_⟩ | refine go_ret ?_) <;> conv => whnf) | refine go_block ?_ | ((first | refine go_skip ?_ | refine go_exit ?_) <;> conv => whnf) | refine go_true rfl ?_ | refine go_false rfl ?_ | refine go_cond rfl (fun h => ?_) (fun h => ?_) | refine ⟨rfl, ?_⟩ | ((first | refine ⟨trivial, ?_⟩ | refine ⟨le_of_ble rfl, ?_⟩) <;> conv => whnf) | fail
    · exact ret_imm rfl rfl rfl rfl (by rw [idxF_hit hx h ha]) rfl
    · exact go_next (i + 1) ⟨by omega, any_next hx ha h⟩ (by omega) (ref_st0 rfl ⟨rfl, rfl, rfl, next_i (by omega), trivial⟩ rfl)
    · exfalso; simp at h; omega

theorem c135d (g : FuncId) (d : D) (p : Message → Bool) (hp : ∀ v, CallOk Try.prog g [.imm (.agg v.enc), .imm d] { res := [.imm (.bool (p v))] }) (xs : List Message) (hl : xs.length ≤ 1048576) :
    CallOk Try.prog 135 [.imm (.list (xs.map Message.enc)), .imm (.fn g [d])] { res := [.imm (.bool (xs.any p))] } := by
  refine callOk_of tyOk Try.func135 rfl rfl (le_of_ble rfl) (le_of_ble rfl) (mutOk_imm rfl _) ?_
  have hc := c176d g d p hp xs hl
  repeat' first | refine go_seq ?_ | refine go_region ?_ | ((first | refine go_op rfl ?_ | refine go_nil ?_ | refine go_call [] (hc) rfl rfl rfl rfl ?_) <;> conv => whnf) | ((first | refine ⟨by kernel_rfl, ?_⟩ | refine go_ret ?_) <;> conv => whnf) | ((first | refine go_skip ?_) <;> conv => whnf) | refine ⟨rfl, ?_⟩ | ((first | refine ⟨trivial, ?_⟩ | refine ⟨le_of_ble rfl, ?_⟩) <;> conv => whnf) | fail
  exact ret_imm rfl rfl rfl rfl (by rw [idxF_ge]) rfl

/-! ### Notices -/

def noticeOk (xs : List Message) : Bool := decide (xs.length ≤ 10) && xs.all msgOk

theorem not_any (xs : List Message) : (!(xs.any fun v => !msgOk v)) = xs.all msgOk := by
  induction xs with
  | nil => rfl
  | cons v xs ih => simp only [List.any_cons, List.all_cons, Bool.not_or, Bool.not_not, ih]

theorem c172 (v : Message) : CallOk Try.prog 172 [.imm (.agg v.enc)] { res := [.imm (.bool (!msgOk v))] } := by
  refine callOk_of tyOk Try.func172 rfl rfl (le_of_ble rfl) (le_of_ble rfl) (mutOk_imm rfl _) ?_
  repeat' first | refine go_seq ?_ | refine go_region ?_ | ((first | refine go_op rfl ?_ | refine go_nil ?_ | refine go_call [] (c173 v) rfl rfl rfl rfl ?_) <;> conv => whnf) | ((first | refine go_loadB ?_ | refine ⟨by kernel_rfl, ?_⟩ | refine go_ret ?_) <;> conv => whnf) | ((first | refine go_skip ?_) <;> conv => whnf) | refine ⟨rfl, ?_⟩ | ((first | refine ⟨trivial, ?_⟩ | refine ⟨le_of_ble rfl, ?_⟩) <;> conv => whnf) | fail
  exact ret_imm rfl rfl rfl rfl rfl rfl

theorem c132 (xs : List Message) (hl : xs.length ≤ 1048576) : CallOk Try.prog 132 [.imm (.list (xs.map Message.enc))] { res := [.imm (.bool (noticeOk xs))] } := by
  refine callOk_of tyOk Try.func132 rfl rfl (le_of_ble rfl) (le_of_ble rfl) (mutOk_imm rfl _) ?_
  have hc := c135 172 (fun v => !msgOk v) c172 xs hl
  repeat' first | refine go_seq ?_ | refine go_region ?_ | refine go_miss rfl rfl rfl ?_ | refine go_undef rfl rfl rfl ?_ | ((first | refine go_op rfl ?_ | refine go_nil ?_ | refine go_hit rfl rfl rfl ?_ | refine go_splitT rfl rfl rfl (fun h => ?_) (fun h => ?_) | refine go_splitF rfl rfl rfl (fun h => ?_) (fun h => ?_) | refine go_pickT rfl ?_ | refine go_pickF rfl ?_ | refine go_pick rfl (fun h => ?_) (fun h => ?_) | refine go_call [] (hc) rfl rfl rfl rfl ?_) <;> conv => whnf) | ((first | refine ⟨by kernel_rfl, ?_⟩ | refine go_ret ?_) <;> conv => whnf) | ((first | refine go_skip ?_) <;> conv => whnf) | refine ⟨rfl, ?_⟩ | ((first | refine ⟨trivial, ?_⟩ | refine ⟨le_of_ble rfl, ?_⟩) <;> conv => whnf) | fail
  · refine ret_imm rfl rfl rfl rfl ?_ rfl
    rw [not_any]
    have : decide (xs.length ≤ 10) = true := by simp at h; simp; omega
    simp only [noticeOk, this, Bool.true_and]
  · refine ret_imm rfl rfl rfl rfl ?_ rfl
    have : decide (xs.length ≤ 10) = false := by simp at h; simp; omega
    simp only [noticeOk, this, Bool.false_and]

theorem c130 (xs : List Message) (hl : xs.length ≤ 1048576) : CallOk Try.prog 130 [.imm (.list (xs.map Message.enc))] { res := [.imm (.bool (noticeOk xs))] } := by
  refine callOk_of tyOk Try.func130 rfl rfl (le_of_ble rfl) (le_of_ble rfl) (mutOk_imm rfl _) ?_
  repeat' first | refine go_seq ?_ | refine go_region ?_ | ((first | refine go_op rfl ?_ | refine go_nil ?_) <;> conv => whnf) | ((first | refine go_loadB ?_ | refine ⟨by kernel_rfl, ?_⟩ | refine go_ret ?_) <;> conv => whnf) | refine go_block ?_ | ((first | refine go_skip ?_ | refine go_exit ?_) <;> conv => whnf) | refine go_true rfl ?_ | refine go_false rfl ?_ | refine go_cond rfl (fun h => ?_) (fun h => ?_) | refine ⟨rfl, ?_⟩ | ((first | refine ⟨trivial, ?_⟩ | refine ⟨le_of_ble rfl, ?_⟩) <;> conv => whnf) | fail
  refine go_loop (α := Nat) (fun i => i ≤ xs.length ∧ (xs.take i).all msgOk = true) (fun i => xs.length - i) (fun i => st Try.f130.ntmps [(0, .imm (.list (xs.map Message.enc))), (3, .imm (.int .i64 (i : Nat)))] [] []) 0
    ⟨Nat.zero_le _, rfl⟩ (ref_st0 rfl ⟨rfl, rfl, trivial⟩ rfl) ?_
  rintro i ⟨hi, ha⟩
  cases hx : xs[i]? with
  | none =>
    have hge := le_of_at hx
    repeat' first | refine go_seq ?_ | refine go_region ?_ | ((first | refine go_op rfl ?_ | refine go_nil ?_) <;> conv => whnf) | ((first | refine go_loadB ?_ | refine ⟨by kernel_rfl, ?_⟩ | refine go_ret ?_) <;> conv => whnf) | refine go_block ?_ | ((first | refine go_skip ?_ | refine go_exit ?_) <;> conv => whnf) | refine go_true rfl ?_ | refine go_false rfl ?_ | refine go_cond rfl (fun h => ?_) (fun h => ?_) | refine ⟨rfl, ?_⟩ | ((first | refine ⟨trivial, ?_⟩ | refine ⟨le_of_ble rfl, ?_⟩) <;> conv => whnf) | fail
    · exfalso; simp at h; omega
    · refine ret_imm rfl rfl rfl rfl ?_ rfl
      rw [noticeOk, all_end hge ha]
      simp
      omega
  | some v =>
    have hlt := lt_of_at hx
    have hr := row_at Message.enc hx
    have hno := fun h => all_not (p := msgOk) hx h
    repeat' first | refine go_seq ?_ | refine go_region ?_ | ((first | refine go_op rfl ?_ | refine go_nil ?_ | refine go_call [] (c171 v) rfl rfl rfl rfl ?_ | refine go_idx rfl rfl rfl rfl (by omega) hr rfl ?_) <;> conv => whnf) | ((first | refine go_loadB ?_ | refine ⟨by kernel_rfl, ?_⟩ | refine go_ret ?_) <;> conv => whnf) | refine go_block ?_ | ((first | refine go_skip ?_ | refine go_exit ?_) <;> conv => whnf) | refine go_true rfl ?_ | refine go_false rfl ?_ | refine go_cond rfl (fun h => ?_) (fun h => ?_) | refine ⟨rfl, ?_⟩ | ((first | refine ⟨trivial, ?_⟩ | refine ⟨le_of_ble rfl, ?_⟩) <;> conv => whnf) | fail
    · refine ret_imm rfl rfl rfl rfl ?_ rfl
      rw [noticeOk, hno (by simpa using h), Bool.and_false]
    · exact go_next (i + 1) ⟨by omega, all_next hx ha (by simpa using h)⟩ (by omega) (ref_st0 rfl ⟨rfl, next_i (by omega), trivial⟩ rfl)
    · exfalso; simp at h; omega
end Go.Proofs.Ytbjjhiihoiogoaa

