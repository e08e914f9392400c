/- The walks of the messages for a line or a stop, and of those that matter at a time. -/
import Derived.Test.YtlkmbamenkjcmaaM4
namespace Go.Proofs.Ytlkmbamenkjcmaa
open Go Go.Am
set_option maxRecDepth 100000
set_option maxHeartbeats 4000000
attribute [local irreducible] amOps amC opCall opIndexAddr opPick retQ opMake opStore amDraw opAppend opLoad opNilCmp opIndex

/-- The places of the elements that are taken, below i. -/
def selAt {α : Type} (p : α → Bool) (xs : List α) : Nat → List Int
  | 0 => []
  | i + 1 => selAt p xs i ++ (match xs[i]? with | some v => if p v then [(i : Int)] else [] | none => [])
theorem sel_hit {α : Type} {p : α → Bool} {xs : List α} {i : Nat} {v : α} (hx : xs[i]? = some v) (h : p v = true) : selAt p xs (i + 1) = selAt p xs i ++ [((i : Nat) : Int)] := by
  simp only [selAt, hx]; rw [if_pos h]
theorem sel_miss {α : Type} {p : α → Bool} {xs : List α} {i : Nat} {v : α} (hx : xs[i]? = some v) (h : p v = false) : selAt p xs (i + 1) = selAt p xs i := by
  simp only [selAt, hx]; rw [if_neg (by rw [h]; simp)]; simp
theorem sel_len {α : Type} (p : α → Bool) (xs : List α) : ∀ i, (selAt p xs i).length ≤ i
  | 0 => Nat.le_refl _
  | i + 1 => by
    have := sel_len p xs i
    simp only [selAt]
    split
    · split <;> simp <;> omega
    · simp; omega

def mfP (line stop : ByteArray) (v : Message) : Bool := (v.line == line) || (v.stop == stop)
def mfOk (line stop : ByteArray) (xs : List Message) : Bool := noticeOk xs && nameOk line && nameOk stop
def mfR (line stop : ByteArray) (xs : List Message) : List Int := if mfOk line stop xs then selAt (mfP line stop) xs xs.length else []

def amP (now : Int) (v : Message) : Bool := if v.kind = 2 ∨ v.kind = 5 then decide (now ≤ v.fro) else if v.kind = 3 ∨ v.kind = 4 then inR now v.fro v.to else true
def amOk (now : Int) (xs : List Message) : Bool := noticeOk xs && timeOk now
def amR (now : Int) (xs : List Message) : List Int := if amOk now xs then selAt (amP now) xs xs.length else []

theorem c26 (xs : List Message) (line stop : ByteArray) (hl : xs.length ≤ 1048576) : CallOk Try.prog 26 [.imm (.list (xs.map Message.enc)), .imm (.str line), .imm (.str stop)]
    { res := [.arr 3 1 ((mfR line stop xs).map intRow), .imm (.bool (mfOk line stop xs))] } := by
  refine callOk_of tyOk Try.func26 rfl rfl (le_of_ble rfl) (le_of_ble rfl) (mutOk_imm rfl _) ?_
  have hc0 := c97 xs hl
  have hc1 := c98 line
  have hc2 := c98 stop
  cases hok : mfOk line stop xs with
  | false =>
    have hm : mfR line stop xs = [] := by unfold mfR; rw [hok]; rfl
    rw [hm]
    cases hn : noticeOk xs with
    | false =>
      rw [hn] at hc0
      repeat' first
        | refine go_seq ?_
        | refine go_region ?_
        | (refine go_op rfl ?_; conv => whnf)
        | (refine go_nil ?_; conv => whnf)
        | (refine go_hit rfl rfl rfl ?_; conv => whnf)
        | (refine go_miss rfl rfl rfl ?_)
        | (refine go_undef rfl rfl rfl ?_)
        | (refine go_splitT rfl rfl rfl (fun h => ?_) (fun h => ?_) <;> conv => whnf)
        | (refine go_splitF rfl rfl rfl (fun h => ?_) (fun h => ?_) <;> conv => whnf)
        | (refine go_storeBox rfl rfl rfl rfl rfl rfl ?_; conv => whnf)
        | (refine go_dop rfl ?_; conv => whnf)
        | (refine go_dhit rfl rfl ?_; conv => whnf)
        | refine go_dmiss rfl rfl ?_
        | refine go_dundef rfl rfl ?_
        | (refine go_dend (by kernel_rfl) ?_; conv => whnf)
        | refine go_draw drawsOk ?_
        | (refine go_pickT rfl ?_; conv => whnf)
        | (refine go_pickF rfl ?_; conv => whnf)
        | (refine go_pick rfl (fun h => ?_) (fun h => ?_) <;> conv => whnf)
        | (refine go_call [] (hc0) rfl rfl rfl rfl ?_; conv => whnf)
        | (refine go_loadB ?_; conv => whnf)
        | (refine ⟨by kernel_rfl, ?_⟩; conv => whnf)
        | (refine go_ret ?_; conv => whnf)
        | refine go_block ?_
        | (refine go_skip ?_; conv => whnf)
        | (refine go_exit ?_; conv => whnf)
        | refine go_true rfl ?_
        | refine go_false rfl ?_
        | refine go_cond rfl (fun h => ?_) (fun h => ?_)
        | refine ⟨rfl, ?_⟩
        | (refine ⟨trivial, ?_⟩; conv => whnf)
        | (refine ⟨le_of_ble rfl, ?_⟩; conv => whnf)
        | fail
      all_goals exact ret_arr2 rfl rfl rfl rfl rfl rfl (int_gr _) rfl rfl rfl
    | true =>
      rw [hn] at hc0
      cases h1 : nameOk line with
      | false =>
        rw [h1] at hc1
        repeat' first
          | refine go_seq ?_
          | refine go_region ?_
          | (refine go_op rfl ?_; conv => whnf)
          | (refine go_nil ?_; conv => whnf)
          | (refine go_hit rfl rfl rfl ?_; conv => whnf)
          | (refine go_miss rfl rfl rfl ?_)
          | (refine go_undef rfl rfl rfl ?_)
          | (refine go_splitT rfl rfl rfl (fun h => ?_) (fun h => ?_) <;> conv => whnf)
          | (refine go_splitF rfl rfl rfl (fun h => ?_) (fun h => ?_) <;> conv => whnf)
          | (refine go_storeBox rfl rfl rfl rfl rfl rfl ?_; conv => whnf)
          | (refine go_dop rfl ?_; conv => whnf)
          | (refine go_dhit rfl rfl ?_; conv => whnf)
          | refine go_dmiss rfl rfl ?_
          | refine go_dundef rfl rfl ?_
          | (refine go_dend (by kernel_rfl) ?_; conv => whnf)
          | refine go_draw drawsOk ?_
          | (refine go_pickT rfl ?_; conv => whnf)
          | (refine go_pickF rfl ?_; conv => whnf)
          | (refine go_pick rfl (fun h => ?_) (fun h => ?_) <;> conv => whnf)
          | (refine go_call [] (hc0) rfl rfl rfl rfl ?_; conv => whnf)
          | (refine go_call [] (hc1) rfl rfl rfl rfl ?_; conv => whnf)
          | (refine go_loadB ?_; conv => whnf)
          | (refine ⟨by kernel_rfl, ?_⟩; conv => whnf)
          | (refine go_ret ?_; conv => whnf)
          | refine go_block ?_
          | (refine go_skip ?_; conv => whnf)
          | (refine go_exit ?_; conv => whnf)
          | refine go_true rfl ?_
          | refine go_false rfl ?_
          | refine go_cond rfl (fun h => ?_) (fun h => ?_)
          | refine ⟨rfl, ?_⟩
          | (refine ⟨trivial, ?_⟩; conv => whnf)
          | (refine ⟨le_of_ble rfl, ?_⟩; conv => whnf)
          | fail
        all_goals exact ret_arr2 rfl rfl rfl rfl rfl rfl (int_gr _) rfl rfl rfl
      | true =>
        have h2 : nameOk stop = false := by simpa [mfOk, hn, h1] using hok
        rw [h1] at hc1
        rw [h2] at hc2
        repeat' first
          | refine go_seq ?_
          | refine go_region ?_
          | (refine go_op rfl ?_; conv => whnf)
          | (refine go_nil ?_; conv => whnf)
          | (refine go_hit rfl rfl rfl ?_; conv => whnf)
          | (refine go_miss rfl rfl rfl ?_)
          | (refine go_undef rfl rfl rfl ?_)
          | (refine go_splitT rfl rfl rfl (fun h => ?_) (fun h => ?_) <;> conv => whnf)
          | (refine go_splitF rfl rfl rfl (fun h => ?_) (fun h => ?_) <;> conv => whnf)
          | (refine go_storeBox rfl rfl rfl rfl rfl rfl ?_; conv => whnf)
          | (refine go_dop rfl ?_; conv => whnf)
          | (refine go_dhit rfl rfl ?_; conv => whnf)
          | refine go_dmiss rfl rfl ?_
          | refine go_dundef rfl rfl ?_
          | (refine go_dend (by kernel_rfl) ?_; conv => whnf)
          | refine go_draw drawsOk ?_
          | (refine go_pickT rfl ?_; conv => whnf)
          | (refine go_pickF rfl ?_; conv => whnf)
          | (refine go_pick rfl (fun h => ?_) (fun h => ?_) <;> conv => whnf)
          | (refine go_call [] (hc0) rfl rfl rfl rfl ?_; conv => whnf)
          | (refine go_call [] (hc1) rfl rfl rfl rfl ?_; conv => whnf)
          | (refine go_call [] (hc2) rfl rfl rfl rfl ?_; conv => whnf)
          | (refine go_loadB ?_; conv => whnf)
          | (refine ⟨by kernel_rfl, ?_⟩; conv => whnf)
          | (refine go_ret ?_; conv => whnf)
          | refine go_block ?_
          | (refine go_skip ?_; conv => whnf)
          | (refine go_exit ?_; conv => whnf)
          | refine go_true rfl ?_
          | refine go_false rfl ?_
          | refine go_cond rfl (fun h => ?_) (fun h => ?_)
          | refine ⟨rfl, ?_⟩
          | (refine ⟨trivial, ?_⟩; conv => whnf)
          | (refine ⟨le_of_ble rfl, ?_⟩; conv => whnf)
          | fail
        all_goals exact ret_arr2 rfl rfl rfl rfl rfl rfl (int_gr _) rfl rfl rfl
  | true =>
    have hm : mfR line stop xs = selAt (mfP line stop) xs xs.length := by unfold mfR; rw [hok]; rfl
    rw [hm]
    have hn10 : xs.length ≤ 10 := by
      have := hok
      simp only [mfOk, noticeOk, Bool.and_eq_true, decide_eq_true_eq] at this
      omega
    have hok' := hok
    simp only [mfOk, Bool.and_eq_true] at hok'
    rw [hok'.1.1] at hc0
    rw [hok'.1.2] at hc1
    rw [hok'.2] at hc2
    repeat' first
      | refine go_seq ?_
      | refine go_region ?_
      | (refine go_op rfl ?_; conv => whnf)
      | (refine go_nil ?_; conv => whnf)
      | (refine go_hit rfl rfl rfl ?_; conv => whnf)
      | (refine go_miss rfl rfl rfl ?_)
      | (refine go_undef rfl rfl rfl ?_)
      | (refine go_splitT rfl rfl rfl (fun h => ?_) (fun h => ?_) <;> conv => whnf)
      | (refine go_splitF rfl rfl rfl (fun h => ?_) (fun h => ?_) <;> conv => whnf)
      | (refine go_storeBox rfl rfl rfl rfl rfl rfl ?_; conv => whnf)
      | (refine go_dop rfl ?_; conv => whnf)
      | (refine go_dhit rfl rfl ?_; conv => whnf)
      | refine go_dmiss rfl rfl ?_
      | refine go_dundef rfl rfl ?_
      | (refine go_dend (by kernel_rfl) ?_; conv => whnf)
      | refine go_draw drawsOk ?_
      | (refine go_pickT rfl ?_; conv => whnf)
      | (refine go_pickF rfl ?_; conv => whnf)
      | (refine go_pick rfl (fun h => ?_) (fun h => ?_) <;> conv => whnf)
      | (refine go_call [] (hc0) rfl rfl rfl rfl ?_; conv => whnf)
      | (refine go_call [] (hc1) rfl rfl rfl rfl ?_; conv => whnf)
      | (refine go_call [] (hc2) rfl rfl rfl rfl ?_; conv => whnf)
      | (refine go_loadB ?_; conv => whnf)
      | (refine ⟨by kernel_rfl, ?_⟩; conv => whnf)
      | (refine go_ret ?_; conv => whnf)
      | refine go_block ?_
      | (refine go_skip ?_; conv => whnf)
      | (refine go_exit ?_; conv => whnf)
      | refine go_true rfl ?_
      | refine go_false rfl ?_
      | refine go_cond rfl (fun h => ?_) (fun h => ?_)
      | refine ⟨rfl, ?_⟩
      | (refine ⟨trivial, ?_⟩; conv => whnf)
      | (refine ⟨le_of_ble rfl, ?_⟩; conv => whnf)
      | fail
    refine go_loop (α := Nat) (fun i => i ≤ xs.length) (fun i => xs.length - i)
      (fun i => st Try.f26.ntmps [(0, .imm (.list (xs.map Message.enc))), (1, .imm (.str line)), (2, .imm (.str stop)), (8, .own 1000 0 ((selAt (mfP line stop) xs i).map intRow).length), (9, .imm (.int .i64 (i : Nat)))] [(1000, .arr 3 1 ((selAt (mfP line stop) xs i).map intRow))] []) 0 (Nat.zero_le _) ?_ ?_
    · exact ref_st (fun _ => nid 2 10) rfl ⟨rfl, rfl, rfl, ⟨rfl, rfl⟩, rfl, trivial⟩ ⟨rfl, trivial⟩ (by simp) rfl (by simp)
    · intro i hi
      have hsl := sel_len (mfP line stop) xs i
      have hb : ((selAt (mfP line stop) xs i).map intRow).length + 1 ≤ 1073741824 := by rw [List.length_map]; omega
      cases hx : xs[i]? with
      | none =>
        have hge := le_of_at hx
        have hie : i = xs.length := by omega
        rw [hie]
        repeat' first
          | refine go_seq ?_
          | refine go_region ?_
          | (refine go_op rfl ?_; conv => whnf)
          | (refine go_nil ?_; conv => whnf)
          | (refine go_hit rfl rfl rfl ?_; conv => whnf)
          | (refine go_miss rfl rfl rfl ?_)
          | (refine go_undef rfl rfl rfl ?_)
          | (refine go_splitT rfl rfl rfl (fun h => ?_) (fun h => ?_) <;> conv => whnf)
          | (refine go_splitF rfl rfl rfl (fun h => ?_) (fun h => ?_) <;> conv => whnf)
          | (refine go_storeBox rfl rfl rfl rfl rfl rfl ?_; conv => whnf)
          | (refine go_dop rfl ?_; conv => whnf)
          | (refine go_dhit rfl rfl ?_; conv => whnf)
          | refine go_dmiss rfl rfl ?_
          | refine go_dundef rfl rfl ?_
          | (refine go_dend (by kernel_rfl) ?_; conv => whnf)
          | refine go_draw drawsOk ?_
          | (refine go_pickT rfl ?_; conv => whnf)
          | (refine go_pickF rfl ?_; conv => whnf)
          | (refine go_pick rfl (fun h => ?_) (fun h => ?_) <;> conv => whnf)
          | (refine go_loadB ?_; conv => whnf)
          | (refine ⟨by kernel_rfl, ?_⟩; conv => whnf)
          | (refine go_ret ?_; conv => whnf)
          | refine go_block ?_
          | (refine go_skip ?_; conv => whnf)
          | (refine go_exit ?_; conv => whnf)
          | refine go_true rfl ?_
          | refine go_false rfl ?_
          | refine go_cond rfl (fun h => ?_) (fun h => ?_)
          | refine ⟨rfl, ?_⟩
          | (refine ⟨trivial, ?_⟩; conv => whnf)
          | (refine ⟨le_of_ble rfl, ?_⟩; conv => whnf)
          | fail
        · exfalso; simp at h
        · exact ret_arr2 rfl rfl rfl rfl rfl (by rw [List.drop_zero, List.take_length]) (int_gr _) rfl rfl rfl
      | some v =>
        have hlt := lt_of_at hx
        have hr := row_at Message.enc hx
        have hs1 := fun h => sel_hit (p := mfP line stop) hx h
        have hs2 := fun h => sel_miss (p := mfP line stop) hx h
        repeat' first
          | refine go_seq ?_
          | refine go_region ?_
          | (refine go_op rfl ?_; conv => whnf)
          | (refine go_nil ?_; conv => whnf)
          | (refine go_hit rfl rfl rfl ?_; conv => whnf)
          | (refine go_miss rfl rfl rfl ?_)
          | (refine go_undef rfl rfl rfl ?_)
          | (refine go_splitT rfl rfl rfl (fun h => ?_) (fun h => ?_) <;> conv => whnf)
          | (refine go_splitF rfl rfl rfl (fun h => ?_) (fun h => ?_) <;> conv => whnf)
          | (refine go_storeBox rfl rfl rfl rfl rfl rfl ?_; conv => whnf)
          | (refine go_dop rfl ?_; conv => whnf)
          | (refine go_dhit rfl rfl ?_; conv => whnf)
          | refine go_dmiss rfl rfl ?_
          | refine go_dundef rfl rfl ?_
          | (refine go_dend (by kernel_rfl) ?_; conv => whnf)
          | refine go_draw drawsOk ?_
          | (refine go_pickT rfl ?_; conv => whnf)
          | (refine go_pickF rfl ?_; conv => whnf)
          | (refine go_pick rfl (fun h => ?_) (fun h => ?_) <;> conv => whnf)
          | (refine go_idx rfl rfl rfl rfl (by omega) hr rfl ?_; conv => whnf)
          | (refine go_append (rows2 := [((i : Nat) : Int)].map intRow) rfl rfl rfl rfl rfl rfl rfl rfl rfl rfl rfl rfl (int_one [((i : Nat) : Int)]) rfl rfl rfl hb ?_; conv => whnf)
          | (refine go_loadB ?_; conv => whnf)
          | (refine ⟨by kernel_rfl, ?_⟩; conv => whnf)
          | (refine go_ret ?_; conv => whnf)
          | refine go_block ?_
          | (refine go_skip ?_; conv => whnf)
          | (refine go_exit ?_; conv => whnf)
          | refine go_true rfl ?_
          | refine go_false rfl ?_
          | refine go_cond rfl (fun h => ?_) (fun h => ?_)
          | refine ⟨rfl, ?_⟩
          | (refine ⟨trivial, ?_⟩; conv => whnf)
          | (refine ⟨le_of_ble rfl, ?_⟩; conv => whnf)
          | fail
        all_goals first
          | (exfalso; simp at h; omega)
          | (refine go_next (i + 1) (by omega) (by omega) ?_
             rw [hs2 (by simp_all [mfP])]
             exact ref_st id rfl ⟨rfl, rfl, rfl, ⟨rfl, rfl⟩, next_i (by omega), trivial⟩ ⟨rfl, trivial⟩ (by simp) rfl (by simp))
          | (refine go_next (i + 1) (by omega) (by omega) ?_
             rw [hs1 (by simp_all [mfP])]
             refine ref_st (fun _ => nid 4 50) rfl ⟨rfl, rfl, rfl, ⟨?_, rfl⟩, next_i (by omega), trivial⟩ ⟨?_, trivial⟩ (by simp) rfl (by simp)
             · show AV.own _ _ _ = AV.own _ _ _
               rw [List.map_append, List.length_append]
               rfl
             · show some _ = some _
               rw [List.map_append]
               rfl)
          | trace_state

theorem c28 (xs : List Message) (line stop : ByteArray) (hl : xs.length ≤ 1048576) : CallOk Try.prog 28 [.imm (.list (xs.map Message.enc)), .imm (.str line), .imm (.str stop)]
    { res := [.arr 3 1 ((mfR line stop xs).map intRow), .imm (.bool (mfOk line stop xs))] } := by
  refine callOk_of tyOk Try.func28 rfl rfl (le_of_ble rfl) (le_of_ble rfl) (mutOk_imm rfl _) ?_
  have hc0 := c99 xs hl
  have hc1 := c86 line
  have hc2 := c86 stop
  cases hok : mfOk line stop xs with
  | false =>
    have hm : mfR line stop xs = [] := by unfold mfR; rw [hok]; rfl
    rw [hm]
    cases hn : noticeOk xs with
    | false =>
      rw [hn] at hc0
      repeat' first
        | refine go_seq ?_
        | refine go_region ?_
        | (refine go_op rfl ?_; conv => whnf)
        | (refine go_nil ?_; conv => whnf)
        | (refine go_hit rfl rfl rfl ?_; conv => whnf)
        | (refine go_miss rfl rfl rfl ?_)
        | (refine go_undef rfl rfl rfl ?_)
        | (refine go_splitT rfl rfl rfl (fun h => ?_) (fun h => ?_) <;> conv => whnf)
        | (refine go_splitF rfl rfl rfl (fun h => ?_) (fun h => ?_) <;> conv => whnf)
        | (refine go_storeBox rfl rfl rfl rfl rfl rfl ?_; conv => whnf)
        | (refine go_dop rfl ?_; conv => whnf)
        | (refine go_dhit rfl rfl ?_; conv => whnf)
        | refine go_dmiss rfl rfl ?_
        | refine go_dundef rfl rfl ?_
        | (refine go_dend (by kernel_rfl) ?_; conv => whnf)
        | refine go_draw drawsOk ?_
        | (refine go_pickT rfl ?_; conv => whnf)
        | (refine go_pickF rfl ?_; conv => whnf)
        | (refine go_pick rfl (fun h => ?_) (fun h => ?_) <;> conv => whnf)
        | (refine go_call [] (hc0) rfl rfl rfl rfl ?_; conv => whnf)
        | (refine go_loadB ?_; conv => whnf)
        | (refine ⟨by kernel_rfl, ?_⟩; conv => whnf)
        | (refine go_ret ?_; conv => whnf)
        | refine go_block ?_
        | (refine go_skip ?_; conv => whnf)
        | (refine go_exit ?_; conv => whnf)
        | refine go_true rfl ?_
        | refine go_false rfl ?_
        | refine go_cond rfl (fun h => ?_) (fun h => ?_)
        | refine ⟨rfl, ?_⟩
        | (refine ⟨trivial, ?_⟩; conv => whnf)
        | (refine ⟨le_of_ble rfl, ?_⟩; conv => whnf)
        | fail
      all_goals exact ret_arr2 rfl rfl rfl rfl rfl rfl (int_gr _) rfl rfl rfl
    | true =>
      rw [hn] at hc0
      cases h1 : nameOk line with
      | false =>
        rw [h1] at hc1
        repeat' first
          | refine go_seq ?_
          | refine go_region ?_
          | (refine go_op rfl ?_; conv => whnf)
          | (refine go_nil ?_; conv => whnf)
          | (refine go_hit rfl rfl rfl ?_; conv => whnf)
          | (refine go_miss rfl rfl rfl ?_)
          | (refine go_undef rfl rfl rfl ?_)
          | (refine go_splitT rfl rfl rfl (fun h => ?_) (fun h => ?_) <;> conv => whnf)
          | (refine go_splitF rfl rfl rfl (fun h => ?_) (fun h => ?_) <;> conv => whnf)
          | (refine go_storeBox rfl rfl rfl rfl rfl rfl ?_; conv => whnf)
          | (refine go_dop rfl ?_; conv => whnf)
          | (refine go_dhit rfl rfl ?_; conv => whnf)
          | refine go_dmiss rfl rfl ?_
          | refine go_dundef rfl rfl ?_
          | (refine go_dend (by kernel_rfl) ?_; conv => whnf)
          | refine go_draw drawsOk ?_
          | (refine go_pickT rfl ?_; conv => whnf)
          | (refine go_pickF rfl ?_; conv => whnf)
          | (refine go_pick rfl (fun h => ?_) (fun h => ?_) <;> conv => whnf)
          | (refine go_call [] (hc0) rfl rfl rfl rfl ?_; conv => whnf)
          | (refine go_call [] (hc1) rfl rfl rfl rfl ?_; conv => whnf)
          | (refine go_loadB ?_; conv => whnf)
          | (refine ⟨by kernel_rfl, ?_⟩; conv => whnf)
          | (refine go_ret ?_; conv => whnf)
          | refine go_block ?_
          | (refine go_skip ?_; conv => whnf)
          | (refine go_exit ?_; conv => whnf)
          | refine go_true rfl ?_
          | refine go_false rfl ?_
          | refine go_cond rfl (fun h => ?_) (fun h => ?_)
          | refine ⟨rfl, ?_⟩
          | (refine ⟨trivial, ?_⟩; conv => whnf)
          | (refine ⟨le_of_ble rfl, ?_⟩; conv => whnf)
          | fail
        all_goals exact ret_arr2 rfl rfl rfl rfl rfl rfl (int_gr _) rfl rfl rfl
      | true =>
        have h2 : nameOk stop = false := by simpa [mfOk, hn, h1] using hok
        rw [h1] at hc1
        rw [h2] at hc2
        repeat' first
          | refine go_seq ?_
          | refine go_region ?_
          | (refine go_op rfl ?_; conv => whnf)
          | (refine go_nil ?_; conv => whnf)
          | (refine go_hit rfl rfl rfl ?_; conv => whnf)
          | (refine go_miss rfl rfl rfl ?_)
          | (refine go_undef rfl rfl rfl ?_)
          | (refine go_splitT rfl rfl rfl (fun h => ?_) (fun h => ?_) <;> conv => whnf)
          | (refine go_splitF rfl rfl rfl (fun h => ?_) (fun h => ?_) <;> conv => whnf)
          | (refine go_storeBox rfl rfl rfl rfl rfl rfl ?_; conv => whnf)
          | (refine go_dop rfl ?_; conv => whnf)
          | (refine go_dhit rfl rfl ?_; conv => whnf)
          | refine go_dmiss rfl rfl ?_
          | refine go_dundef rfl rfl ?_
          | (refine go_dend (by kernel_rfl) ?_; conv => whnf)
          | refine go_draw drawsOk ?_
          | (refine go_pickT rfl ?_; conv => whnf)
          | (refine go_pickF rfl ?_; conv => whnf)
          | (refine go_pick rfl (fun h => ?_) (fun h => ?_) <;> conv => whnf)
          | (refine go_call [] (hc0) rfl rfl rfl rfl ?_; conv => whnf)
          | (refine go_call [] (hc1) rfl rfl rfl rfl ?_; conv => whnf)
          | (refine go_call [] (hc2) rfl rfl rfl rfl ?_; conv => whnf)
          | (refine go_loadB ?_; conv => whnf)
          | (refine ⟨by kernel_rfl, ?_⟩; conv => whnf)
          | (refine go_ret ?_; conv => whnf)
          | refine go_block ?_
          | (refine go_skip ?_; conv => whnf)
          | (refine go_exit ?_; conv => whnf)
          | refine go_true rfl ?_
          | refine go_false rfl ?_
          | refine go_cond rfl (fun h => ?_) (fun h => ?_)
          | refine ⟨rfl, ?_⟩
          | (refine ⟨trivial, ?_⟩; conv => whnf)
          | (refine ⟨le_of_ble rfl, ?_⟩; conv => whnf)
          | fail
        all_goals exact ret_arr2 rfl rfl rfl rfl rfl rfl (int_gr _) rfl rfl rfl
  | true =>
    have hm : mfR line stop xs = selAt (mfP line stop) xs xs.length := by unfold mfR; rw [hok]; rfl
    rw [hm]
    have hn10 : xs.length ≤ 10 := by
      have := hok
      simp only [mfOk, noticeOk, Bool.and_eq_true, decide_eq_true_eq] at this
      omega
    have hok' := hok
    simp only [mfOk, Bool.and_eq_true] at hok'
    rw [hok'.1.1] at hc0
    rw [hok'.1.2] at hc1
    rw [hok'.2] at hc2
    repeat' first
      | refine go_seq ?_
      | refine go_region ?_
      | (refine go_op rfl ?_; conv => whnf)
      | (refine go_nil ?_; conv => whnf)
      | (refine go_hit rfl rfl rfl ?_; conv => whnf)
      | (refine go_miss rfl rfl rfl ?_)
      | (refine go_undef rfl rfl rfl ?_)
      | (refine go_splitT rfl rfl rfl (fun h => ?_) (fun h => ?_) <;> conv => whnf)
      | (refine go_splitF rfl rfl rfl (fun h => ?_) (fun h => ?_) <;> conv => whnf)
      | (refine go_storeBox rfl rfl rfl rfl rfl rfl ?_; conv => whnf)
      | (refine go_dop rfl ?_; conv => whnf)
      | (refine go_dhit rfl rfl ?_; conv => whnf)
      | refine go_dmiss rfl rfl ?_
      | refine go_dundef rfl rfl ?_
      | (refine go_dend (by kernel_rfl) ?_; conv => whnf)
      | refine go_draw drawsOk ?_
      | (refine go_pickT rfl ?_; conv => whnf)
      | (refine go_pickF rfl ?_; conv => whnf)
      | (refine go_pick rfl (fun h => ?_) (fun h => ?_) <;> conv => whnf)
      | (refine go_call [] (hc0) rfl rfl rfl rfl ?_; conv => whnf)
      | (refine go_call [] (hc1) rfl rfl rfl rfl ?_; conv => whnf)
      | (refine go_call [] (hc2) rfl rfl rfl rfl ?_; conv => whnf)
      | (refine go_loadB ?_; conv => whnf)
      | (refine ⟨by kernel_rfl, ?_⟩; conv => whnf)
      | (refine go_ret ?_; conv => whnf)
      | refine go_block ?_
      | (refine go_skip ?_; conv => whnf)
      | (refine go_exit ?_; conv => whnf)
      | refine go_true rfl ?_
      | refine go_false rfl ?_
      | refine go_cond rfl (fun h => ?_) (fun h => ?_)
      | refine ⟨rfl, ?_⟩
      | (refine ⟨trivial, ?_⟩; conv => whnf)
      | (refine ⟨le_of_ble rfl, ?_⟩; conv => whnf)
      | fail
    refine go_loop (α := Nat) (fun i => i ≤ xs.length) (fun i => xs.length - i)
      (fun i => st Try.f28.ntmps [(1, .imm (.str line)), (2, .imm (.str stop)), (24, .imm (.list (xs.map Message.enc))), (25, .imm (.int .i64 (xs.map Message.enc).length)), (8, .own 1000 0 ((selAt (mfP line stop) xs i).map intRow).length), (26, .imm (.int .i64 (i : Nat)))] [(1000, .arr 3 1 ((selAt (mfP line stop) xs i).map intRow))] []) 0 (Nat.zero_le _) ?_ ?_
    · exact ref_st (fun _ => nid 3 8) rfl ⟨rfl, rfl, rfl, rfl, ⟨rfl, rfl⟩, rfl, trivial⟩ ⟨rfl, trivial⟩ (by simp) rfl (by simp)
    · intro i hi
      have hsl := sel_len (mfP line stop) xs i
      have hb : ((selAt (mfP line stop) xs i).map intRow).length + 1 ≤ 1073741824 := by rw [List.length_map]; omega
      cases hx : xs[i]? with
      | none =>
        have hge := le_of_at hx
        have hie : i = xs.length := by omega
        rw [hie]
        repeat' first
          | refine go_seq ?_
          | refine go_region ?_
          | (refine go_op rfl ?_; conv => whnf)
          | (refine go_nil ?_; conv => whnf)
          | (refine go_hit rfl rfl rfl ?_; conv => whnf)
          | (refine go_miss rfl rfl rfl ?_)
          | (refine go_undef rfl rfl rfl ?_)
          | (refine go_splitT rfl rfl rfl (fun h => ?_) (fun h => ?_) <;> conv => whnf)
          | (refine go_splitF rfl rfl rfl (fun h => ?_) (fun h => ?_) <;> conv => whnf)
          | (refine go_storeBox rfl rfl rfl rfl rfl rfl ?_; conv => whnf)
          | (refine go_dop rfl ?_; conv => whnf)
          | (refine go_dhit rfl rfl ?_; conv => whnf)
          | refine go_dmiss rfl rfl ?_
          | refine go_dundef rfl rfl ?_
          | (refine go_dend (by kernel_rfl) ?_; conv => whnf)
          | refine go_draw drawsOk ?_
          | (refine go_pickT rfl ?_; conv => whnf)
          | (refine go_pickF rfl ?_; conv => whnf)
          | (refine go_pick rfl (fun h => ?_) (fun h => ?_) <;> conv => whnf)
          | (refine go_loadB ?_; conv => whnf)
          | (refine ⟨by kernel_rfl, ?_⟩; conv => whnf)
          | (refine go_ret ?_; conv => whnf)
          | refine go_block ?_
          | (refine go_skip ?_; conv => whnf)
          | (refine go_exit ?_; conv => whnf)
          | refine go_true rfl ?_
          | refine go_false rfl ?_
          | refine go_cond rfl (fun h => ?_) (fun h => ?_)
          | refine ⟨rfl, ?_⟩
          | (refine ⟨trivial, ?_⟩; conv => whnf)
          | (refine ⟨le_of_ble rfl, ?_⟩; conv => whnf)
          | fail
        · exfalso; simp at h
        · exact ret_arr2 rfl rfl rfl rfl rfl (by rw [List.drop_zero, List.take_length]) (int_gr _) rfl rfl rfl
      | some v =>
        have hlt := lt_of_at hx
        have hr := row_at Message.enc hx
        have hs1 := fun h => sel_hit (p := mfP line stop) hx h
        have hs2 := fun h => sel_miss (p := mfP line stop) hx h
        repeat' first
          | refine go_seq ?_
          | refine go_region ?_
          | (refine go_op rfl ?_; conv => whnf)
          | (refine go_nil ?_; conv => whnf)
          | (refine go_hit rfl rfl rfl ?_; conv => whnf)
          | (refine go_miss rfl rfl rfl ?_)
          | (refine go_undef rfl rfl rfl ?_)
          | (refine go_splitT rfl rfl rfl (fun h => ?_) (fun h => ?_) <;> conv => whnf)
          | (refine go_splitF rfl rfl rfl (fun h => ?_) (fun h => ?_) <;> conv => whnf)
          | (refine go_storeBox rfl rfl rfl rfl rfl rfl ?_; conv => whnf)
          | (refine go_dop rfl ?_; conv => whnf)
          | (refine go_dhit rfl rfl ?_; conv => whnf)
          | refine go_dmiss rfl rfl ?_
          | refine go_dundef rfl rfl ?_
          | (refine go_dend (by kernel_rfl) ?_; conv => whnf)
          | refine go_draw drawsOk ?_
          | (refine go_pickT rfl ?_; conv => whnf)
          | (refine go_pickF rfl ?_; conv => whnf)
          | (refine go_pick rfl (fun h => ?_) (fun h => ?_) <;> conv => whnf)
          | (refine go_idx rfl rfl rfl rfl (by omega) hr rfl ?_; conv => whnf)
          | (refine go_append (rows2 := [((i : Nat) : Int)].map intRow) rfl rfl rfl rfl rfl rfl rfl rfl rfl rfl rfl rfl (int_one [((i : Nat) : Int)]) rfl rfl rfl hb ?_; conv => whnf)
          | (refine go_loadB ?_; conv => whnf)
          | (refine ⟨by kernel_rfl, ?_⟩; conv => whnf)
          | (refine go_ret ?_; conv => whnf)
          | refine go_block ?_
          | (refine go_skip ?_; conv => whnf)
          | (refine go_exit ?_; conv => whnf)
          | refine go_true rfl ?_
          | refine go_false rfl ?_
          | refine go_cond rfl (fun h => ?_) (fun h => ?_)
          | refine ⟨rfl, ?_⟩
          | (refine ⟨trivial, ?_⟩; conv => whnf)
          | (refine ⟨le_of_ble rfl, ?_⟩; conv => whnf)
          | fail
        all_goals first
          | (exfalso; simp at h; omega)
          | (refine go_next (i + 1) (by omega) (by omega) ?_
             rw [hs2 (by simp_all [mfP])]
             exact ref_st id rfl ⟨rfl, rfl, rfl, rfl, ⟨rfl, rfl⟩, next_i (by omega), trivial⟩ ⟨rfl, trivial⟩ (by simp) rfl (by simp))
          | (refine go_next (i + 1) (by omega) (by omega) ?_
             rw [hs1 (by simp_all [mfP])]
             refine ref_st (fun _ => nid 5 44) rfl ⟨rfl, rfl, rfl, rfl, ⟨?_, rfl⟩, next_i (by omega), trivial⟩ ⟨?_, trivial⟩ (by simp) rfl (by simp)
             · show AV.own _ _ _ = AV.own _ _ _
               rw [List.map_append, List.length_append]
               rfl
             · show some _ = some _
               rw [List.map_append]
               rfl)
          | trace_state

end Go.Proofs.Ytlkmbamenkjcmaa

