/- Charging: LevelsAfter, the first empty leg: both sides. -/
import Derived.Test.YtmijabfckmgaiaaFL4
namespace Go.Proofs.Ytmijabfckmgaiaa
open Go Go.Am
set_option maxRecDepth 100000
set_option maxHeartbeats 8000000
attribute [local irreducible] amOps amC opCall opIndexAddr opPick retQ opMake opStore amDraw opAppend opLoad opNilCmp opIndex opSlice

def lvOk (xs : List Leg) (b : Bat) (lv : Int) (p : List Int) : Bool := chgOk xs b lv && plOk xs p
def lvL (xs : List Leg) (b : Bat) (lv : Int) (p : List Int) : List Int := if lvOk xs b lv p then afL xs b lv p else []
theorem bfL_at {xs : List Leg} {b : Bat} {lv : Int} {p : List Int} {i : Nat} (h : i < xs.length) : (bfL xs b lv p)[i]? = some (bfN xs b lv p i) := by
  unfold bfL; rw [List.getElem?_map, List.getElem?_range h]; rfl
theorem afL_at {xs : List Leg} {b : Bat} {lv : Int} {p : List Int} {i : Nat} (h : i < xs.length) : (afL xs b lv p)[i]? = some (afN xs b lv p i) := by
  unfold afL; rw [List.getElem?_map, List.getElem?_range h]; rfl
theorem afL_len (xs : List Leg) (b : Bat) (lv : Int) (p : List Int) : (afL xs b lv p).length = xs.length := by unfold afL; simp

theorem c6 (xs : List Leg) (hl : xs.length ≤ 1048576) (b : Bat) (lv : Int) (p : List Int) (hp : p.length ≤ 1048576) :
    CallOk Try.prog 6 [.imm (.list (xs.map Leg.enc)), .imm (.agg (batE b)), .imm (.int .i64 lv), .imm (.list (p.map intRow))] { res := [.imm (.list ((lvL xs b lv p).map intRow)), .imm (.bool (lvOk xs b lv p))], sep := false } := by
  refine callOk_of tyOk Try.func6 rfl rfl (le_of_ble rfl) (le_of_ble rfl) (mutOk_imm rfl _) ?_
  have h1 := c23 xs hl b lv
  unfold lvL lvOk
  cases e1 : chgOk xs b lv with
  | false =>
    rw [e1] at h1
    repeat' first | refine go_seq ?_ | refine go_region ?_ | refine go_miss rfl rfl rfl ?_ | refine go_undef rfl rfl rfl ?_ | ((first | refine go_op rfl ?_ | refine go_nil ?_ | refine go_hit rfl rfl rfl ?_ | refine go_splitT rfl rfl rfl (fun h => ?_) (fun h => ?_) | refine go_splitF rfl rfl rfl (fun h => ?_) (fun h => ?_) | refine go_pickT rfl ?_ | refine go_pickF rfl ?_ | refine go_pick rfl (fun h => ?_) (fun h => ?_) | refine go_call [] (h1) rfl rfl rfl rfl ?_) <;> conv => whnf) | ((first | refine go_loadB ?_ | refine ⟨by kernel_rfl, ?_⟩ | refine go_ret ?_) <;> conv => whnf) | ((first | refine go_skip ?_) <;> conv => whnf) | refine go_true rfl ?_ | refine go_false rfl ?_ | refine go_cond rfl (fun h => ?_) (fun h => ?_) | refine ⟨rfl, ?_⟩ | ((first | refine ⟨trivial, ?_⟩ | refine ⟨le_of_ble rfl, ?_⟩) <;> conv => whnf) | fail
    all_goals exact ret_all rfl ⟨⟨rfl, (fun h => by cases h), by show _ ∉ ([] : List Nat); simp⟩, ⟨rfl, fun h => by cases h⟩, trivial⟩ (by show List.Nodup [_]; simp) List.nodup_nil trivial
  | true =>
    rw [e1] at h1
    have h2 := c24 xs (chg_at e1).1 p hp
    cases e2 : plOk xs p with
    | false =>
      rw [e2] at h2
      repeat' first | refine go_seq ?_ | refine go_region ?_ | refine go_miss rfl rfl rfl ?_ | refine go_undef rfl rfl rfl ?_ | ((first | refine go_op rfl ?_ | refine go_nil ?_ | refine go_hit rfl rfl rfl ?_ | refine go_splitT rfl rfl rfl (fun h => ?_) (fun h => ?_) | refine go_splitF rfl rfl rfl (fun h => ?_) (fun h => ?_) | refine go_pickT rfl ?_ | refine go_pickF rfl ?_ | refine go_pick rfl (fun h => ?_) (fun h => ?_) | refine go_call [] (h1) rfl rfl rfl rfl ?_ | refine go_call [] (h2) rfl rfl rfl rfl ?_) <;> conv => whnf) | ((first | refine go_loadB ?_ | refine ⟨by kernel_rfl, ?_⟩ | refine go_ret ?_) <;> conv => whnf) | ((first | refine go_skip ?_) <;> conv => whnf) | refine go_true rfl ?_ | refine go_false rfl ?_ | refine go_cond rfl (fun h => ?_) (fun h => ?_) | refine ⟨rfl, ?_⟩ | ((first | refine ⟨trivial, ?_⟩ | refine ⟨le_of_ble rfl, ?_⟩) <;> conv => whnf) | fail
      all_goals exact ret_all rfl ⟨⟨rfl, (fun h => by cases h), by show _ ∉ ([] : List Nat); simp⟩, ⟨rfl, fun h => by cases h⟩, trivial⟩ (by show List.Nodup [_]; simp) List.nodup_nil trivial
    | true =>
      rw [e2] at h2
      have h3 := c25 xs b lv p e1 e2
      repeat' first | refine go_seq ?_ | refine go_region ?_ | refine go_miss rfl rfl rfl ?_ | refine go_undef rfl rfl rfl ?_ | ((first | refine go_op rfl ?_ | refine go_nil ?_ | refine go_hit rfl rfl rfl ?_ | refine go_splitT rfl rfl rfl (fun h => ?_) (fun h => ?_) | refine go_splitF rfl rfl rfl (fun h => ?_) (fun h => ?_) | refine go_pickT rfl ?_ | refine go_pickF rfl ?_ | refine go_pick rfl (fun h => ?_) (fun h => ?_) | refine go_call [] (h1) rfl rfl rfl rfl ?_ | refine go_call [] (h2) rfl rfl rfl rfl ?_ | refine go_call [] (h3) rfl rfl rfl rfl ?_) <;> conv => whnf) | ((first | refine go_loadB ?_ | refine ⟨by kernel_rfl, ?_⟩ | refine go_ret ?_) <;> conv => whnf) | ((first | refine go_skip ?_) <;> conv => whnf) | refine go_true rfl ?_ | refine go_false rfl ?_ | refine go_cond rfl (fun h => ?_) (fun h => ?_) | refine ⟨rfl, ?_⟩ | ((first | refine ⟨trivial, ?_⟩ | refine ⟨le_of_ble rfl, ?_⟩) <;> conv => whnf) | fail
      all_goals exact ret_all rfl ⟨⟨rfl, fun h => by cases h⟩, ⟨rfl, fun h => by cases h⟩, trivial⟩ List.nodup_nil List.nodup_nil trivial

theorem c7 (xs : List Leg) (hl : xs.length ≤ 1048576) (b : Bat) (lv : Int) (p : List Int) (hp : p.length ≤ 1048576) :
    CallOk Try.prog 7 [.imm (.list (xs.map Leg.enc)), .imm (.agg (batE b)), .imm (.int .i64 lv), .imm (.list (p.map intRow))] { res := [.imm (.list ((lvL xs b lv p).map intRow)), .imm (.bool (lvOk xs b lv p))], sep := false } := by
  refine callOk_of tyOk Try.func7 rfl rfl (le_of_ble rfl) (le_of_ble rfl) (mutOk_imm rfl _) ?_
  have h1 := c26 xs hl
  have h2 := c27 b lv
  have hsplit : chgOk xs b lv = (legsOk xs && (batOk b && inR lv 0 b.cap)) := rfl
  unfold lvL lvOk
  cases e1 : legsOk xs with
  | false =>
    rw [e1] at h1 hsplit
    rw [hsplit, Bool.false_and, Bool.false_and]
    repeat' first | refine go_seq ?_ | refine go_region ?_ | refine go_miss rfl rfl rfl ?_ | refine go_undef rfl rfl rfl ?_ | refine go_draw drawsOk ?_ | ((first | refine go_op rfl ?_ | refine go_nil ?_ | refine go_hit rfl rfl rfl ?_ | refine go_splitT rfl rfl rfl (fun h => ?_) (fun h => ?_) | refine go_splitF rfl rfl rfl (fun h => ?_) (fun h => ?_) | refine go_dop rfl ?_ | refine go_dhit rfl rfl ?_ | refine go_dmiss rfl rfl ?_ | refine go_dundef rfl rfl ?_ | refine go_dend (by kernel_rfl) ?_ | refine go_pickT rfl ?_ | refine go_pickF rfl ?_ | refine go_pick rfl (fun h => ?_) (fun h => ?_) | refine go_call [] (h1) rfl rfl rfl rfl ?_ | refine go_call [] (h2) rfl rfl rfl rfl ?_) <;> conv => whnf) | ((first | refine go_dsplit2 rfl (fun h => ?_) (fun h => ?_) | refine go_loadB ?_ | refine ⟨by kernel_rfl, ?_⟩ | refine go_ret ?_) <;> conv => whnf) | refine go_block ?_ | ((first | refine go_skip ?_ | refine go_exit ?_) <;> conv => whnf) | refine go_true rfl ?_ | refine go_false rfl ?_ | refine go_cond rfl (fun h => ?_) (fun h => ?_) | refine ⟨rfl, ?_⟩ | ((first | refine ⟨trivial, ?_⟩ | refine ⟨le_of_ble rfl, ?_⟩) <;> conv => whnf) | fail
    all_goals exact ret_all rfl ⟨⟨rfl, (fun h => by cases h), by show _ ∉ ([] : List Nat); simp⟩, ⟨rfl, fun h => by cases h⟩, trivial⟩ (by show List.Nodup [_]; simp) List.nodup_nil trivial
  | true =>
    rw [e1] at h1 hsplit
    cases e2 : (batOk b && inR lv 0 b.cap) with
    | false =>
      rw [e2] at h2 hsplit
      rw [hsplit, Bool.true_and, Bool.false_and]
      repeat' first | refine go_seq ?_ | refine go_region ?_ | refine go_miss rfl rfl rfl ?_ | refine go_undef rfl rfl rfl ?_ | refine go_draw drawsOk ?_ | ((first | refine go_op rfl ?_ | refine go_nil ?_ | refine go_hit rfl rfl rfl ?_ | refine go_splitT rfl rfl rfl (fun h => ?_) (fun h => ?_) | refine go_splitF rfl rfl rfl (fun h => ?_) (fun h => ?_) | refine go_dop rfl ?_ | refine go_dhit rfl rfl ?_ | refine go_dmiss rfl rfl ?_ | refine go_dundef rfl rfl ?_ | refine go_dend (by kernel_rfl) ?_ | refine go_pickT rfl ?_ | refine go_pickF rfl ?_ | refine go_pick rfl (fun h => ?_) (fun h => ?_) | refine go_call [] (h1) rfl rfl rfl rfl ?_ | refine go_call [] (h2) rfl rfl rfl rfl ?_) <;> conv => whnf) | ((first | refine go_dsplit2 rfl (fun h => ?_) (fun h => ?_) | refine go_loadB ?_ | refine ⟨by kernel_rfl, ?_⟩ | refine go_ret ?_) <;> conv => whnf) | refine go_block ?_ | ((first | refine go_skip ?_ | refine go_exit ?_) <;> conv => whnf) | refine go_true rfl ?_ | refine go_false rfl ?_ | refine go_cond rfl (fun h => ?_) (fun h => ?_) | refine ⟨rfl, ?_⟩ | ((first | refine ⟨trivial, ?_⟩ | refine ⟨le_of_ble rfl, ?_⟩) <;> conv => whnf) | fail
      all_goals exact ret_all rfl ⟨⟨rfl, (fun h => by cases h), by show _ ∉ ([] : List Nat); simp⟩, ⟨rfl, fun h => by cases h⟩, trivial⟩ (by show List.Nodup [_]; simp) List.nodup_nil trivial
    | true =>
      rw [e2] at h2 hsplit
      have hc : chgOk xs b lv = true := hsplit
      rw [hc, Bool.true_and]
      have h3 := c28 xs e1 p hp
      cases e3 : plOk xs p with
      | false =>
        rw [e3] at h3
        repeat' first | refine go_seq ?_ | refine go_region ?_ | refine go_miss rfl rfl rfl ?_ | refine go_undef rfl rfl rfl ?_ | refine go_draw drawsOk ?_ | ((first | refine go_op rfl ?_ | refine go_nil ?_ | refine go_hit rfl rfl rfl ?_ | refine go_splitT rfl rfl rfl (fun h => ?_) (fun h => ?_) | refine go_splitF rfl rfl rfl (fun h => ?_) (fun h => ?_) | refine go_dop rfl ?_ | refine go_dhit rfl rfl ?_ | refine go_dmiss rfl rfl ?_ | refine go_dundef rfl rfl ?_ | refine go_dend (by kernel_rfl) ?_ | refine go_pickT rfl ?_ | refine go_pickF rfl ?_ | refine go_pick rfl (fun h => ?_) (fun h => ?_) | refine go_call [] (h1) rfl rfl rfl rfl ?_ | refine go_call [] (h2) rfl rfl rfl rfl ?_ | refine go_call [] (h3) rfl rfl rfl rfl ?_) <;> conv => whnf) | ((first | refine go_dsplit2 rfl (fun h => ?_) (fun h => ?_) | refine go_loadB ?_ | refine ⟨by kernel_rfl, ?_⟩ | refine go_ret ?_) <;> conv => whnf) | refine go_block ?_ | ((first | refine go_skip ?_ | refine go_exit ?_) <;> conv => whnf) | refine go_true rfl ?_ | refine go_false rfl ?_ | refine go_cond rfl (fun h => ?_) (fun h => ?_) | refine ⟨rfl, ?_⟩ | ((first | refine ⟨trivial, ?_⟩ | refine ⟨le_of_ble rfl, ?_⟩) <;> conv => whnf) | fail
        all_goals exact ret_all rfl ⟨⟨rfl, (fun h => by cases h), by show _ ∉ ([] : List Nat); simp⟩, ⟨rfl, fun h => by cases h⟩, trivial⟩ (by show List.Nodup [_]; simp) List.nodup_nil trivial
      | true =>
        rw [e3] at h3
        rw [if_pos rfl]
        have h4 := c29 xs b lv p hc e3
        have hn := (legs_at e1).1
        have hlm : ((xs.map Leg.enc).length : Int) = xs.length := by rw [List.length_map]
        repeat' first | refine go_seq ?_ | refine go_region ?_ | refine go_miss rfl rfl rfl ?_ | refine go_undef rfl rfl rfl ?_ | refine go_draw drawsOk ?_ | ((first | refine go_op rfl ?_ | refine go_nil ?_ | refine go_hit rfl rfl rfl ?_ | refine go_splitT rfl rfl rfl (fun h => ?_) (fun h => ?_) | refine go_splitF rfl rfl rfl (fun h => ?_) (fun h => ?_) | refine go_dop rfl ?_ | refine go_dhit rfl rfl ?_ | refine go_dmiss rfl rfl ?_ | refine go_dundef rfl rfl ?_ | refine go_dend (by kernel_rfl) ?_ | refine go_pickT rfl ?_ | refine go_pickF rfl ?_ | refine go_pick rfl (fun h => ?_) (fun h => ?_) | refine go_call [] (h1) rfl rfl rfl rfl ?_ | refine go_call [] (h2) rfl rfl rfl rfl ?_ | refine go_call [] (h3) rfl rfl rfl rfl ?_ | refine go_call [] (h4) rfl rfl rfl rfl ?_) <;> conv => whnf) | ((first | refine go_dsplit2 rfl (fun h => ?_) (fun h => ?_) | refine go_loadB ?_ | refine ⟨by kernel_rfl, ?_⟩ | refine go_ret ?_) <;> conv => whnf) | refine go_block ?_ | ((first | refine go_skip ?_ | refine go_exit ?_) <;> conv => whnf) | refine go_true rfl ?_ | refine go_false rfl ?_ | refine go_cond rfl (fun h => ?_) (fun h => ?_) | refine ⟨rfl, ?_⟩ | ((first | refine ⟨trivial, ?_⟩ | refine ⟨le_of_ble rfl, ?_⟩) <;> conv => whnf) | fail
        refine go_loop (α := Nat) (fun i => i ≤ xs.length) (fun i => xs.length - i)
          (fun i => st Try.f7.ntmps [(0, .imm (.list (xs.map Leg.enc))), (10, .own 1000 0 (((List.range i).map (afN xs b lv p)).map intRow).length), (11, .imm (.list ((bfL xs b lv p).map intRow))), (12, .imm (.int .i64 (i : Nat)))]
            [(1000, .arr 3 1 (((List.range i).map (afN xs b lv p)).map intRow))] []) 0 (Nat.zero_le _) ?_ ?_
        · exact ref_st (fun i => nid 2 13) rfl ⟨rfl, ⟨rfl, rfl⟩, rfl, rfl, trivial⟩ ⟨rfl, trivial⟩ (by simp) rfl (by simp)
        intro i hi
        cases hx : xs[i]? with
        | none =>
          have hge := le_of_at hx
          have hie : i = xs.length := by omega
          subst hie
          repeat' first | refine go_seq ?_ | refine go_region ?_ | refine go_miss rfl rfl rfl ?_ | refine go_undef rfl rfl rfl ?_ | refine go_draw drawsOk ?_ | ((first | refine go_op rfl ?_ | refine go_nil ?_ | refine go_hit rfl rfl rfl ?_ | refine go_splitT rfl rfl rfl (fun h => ?_) (fun h => ?_) | refine go_splitF rfl rfl rfl (fun h => ?_) (fun h => ?_) | refine go_dop rfl ?_ | refine go_dhit rfl rfl ?_ | refine go_dmiss rfl rfl ?_ | refine go_dundef rfl rfl ?_ | refine go_dend (by kernel_rfl) ?_ | refine go_pickT rfl ?_ | refine go_pickF rfl ?_ | refine go_pick rfl (fun h => ?_) (fun h => ?_)) <;> conv => whnf) | ((first | refine go_dsplit2 rfl (fun h => ?_) (fun h => ?_) | refine go_loadB ?_ | refine ⟨by kernel_rfl, ?_⟩ | refine go_ret ?_) <;> conv => whnf) | refine go_block ?_ | ((first | refine go_skip ?_ | refine go_exit ?_) <;> conv => whnf) | refine go_true rfl ?_ | refine go_false rfl ?_ | refine go_cond rfl (fun h => ?_) (fun h => ?_) | refine ⟨rfl, ?_⟩ | ((first | refine ⟨trivial, ?_⟩ | refine ⟨le_of_ble rfl, ?_⟩) <;> conv => whnf) | fail
          all_goals first
            | (exfalso; simp only [decide_eq_true_eq, decide_eq_false_iff_not, hlm] at *; omega)
            | (refine ret_all rfl ⟨⟨?_, (fun h => by cases h), by show _ ∉ ([] : List Nat); simp⟩, ⟨rfl, fun h => by cases h⟩, trivial⟩ (by show List.Nodup [_]; simp) List.nodup_nil trivial
               show D.list _ = D.list _
               rw [List.drop_zero, List.take_length]; rfl)
            | trace_state
        | some l =>
          have hlt := lt_of_at hx
          have hr := row_at Leg.enc hx
          have hrb := row_at intRow (bfL_at (xs := xs) (b := b) (lv := lv) (p := p) hlt)
          have haf := af_in hc e3 hlt
          have hbt := bat_at (chg_at hc).2.1
          have hlu := legAt_of hx
          have hwa : IntKind.i64.wrap (bfN xs b lv p i - l.use) = afN xs b lv p i := by
            unfold afN at haf ⊢
            rw [hlu] at haf ⊢
            exact wrap_small (by omega) (by omega)
          have hone := int_one [IntKind.i64.wrap (bfN xs b lv p i - l.use)]
          have hbd : (((List.range i).map (afN xs b lv p)).map intRow).length + 1 ≤ 1073741824 := by simp; omega
          have hnx : (List.range (i + 1)).map (afN xs b lv p) = (List.range i).map (afN xs b lv p) ++ [IntKind.i64.wrap (bfN xs b lv p i - l.use)] := by rw [List.range_succ, List.map_append, hwa]; rfl
          repeat' first | refine go_seq ?_ | refine go_region ?_ | refine go_miss rfl rfl rfl ?_ | refine go_undef rfl rfl rfl ?_ | refine go_draw drawsOk ?_ | ((first | refine go_op rfl ?_ | refine go_nil ?_ | refine go_hit rfl rfl rfl ?_ | refine go_splitT rfl rfl rfl (fun h => ?_) (fun h => ?_) | refine go_splitF rfl rfl rfl (fun h => ?_) (fun h => ?_) | refine go_dop rfl ?_ | refine go_dhit rfl rfl ?_ | refine go_dmiss rfl rfl ?_ | refine go_dundef rfl rfl ?_ | refine go_dend (by kernel_rfl) ?_ | refine go_pickT rfl ?_ | refine go_pickF rfl ?_ | refine go_pick rfl (fun h => ?_) (fun h => ?_) | refine go_idx rfl rfl rfl rfl (by omega) hr rfl ?_ | refine go_idx rfl rfl rfl rfl (by omega) hrb rfl ?_ | refine go_append (rows2 := [IntKind.i64.wrap (bfN xs b lv p i - l.use)].map intRow) rfl rfl rfl rfl rfl rfl rfl rfl rfl rfl rfl rfl hone rfl rfl rfl hbd ?_) <;> conv => whnf) | ((first | refine go_dsplit2 rfl (fun h => ?_) (fun h => ?_) | refine go_loadB ?_ | refine ⟨by kernel_rfl, ?_⟩ | refine go_ret ?_) <;> conv => whnf) | refine go_block ?_ | ((first | refine go_skip ?_ | refine go_exit ?_) <;> conv => whnf) | refine go_true rfl ?_ | refine go_false rfl ?_ | refine go_cond rfl (fun h => ?_) (fun h => ?_) | refine ⟨rfl, ?_⟩ | ((first | refine ⟨trivial, ?_⟩ | refine ⟨le_of_ble rfl, ?_⟩) <;> conv => whnf) | fail
          all_goals first
            | (exfalso; simp only [decide_eq_true_eq, decide_eq_false_iff_not, hlm] at *; omega)
            | (refine go_next (i + 1) (by omega) (by omega) (ref_st (fun i => nid 3 53) rfl ⟨rfl, ⟨?_, rfl⟩, rfl, next_i (by omega), trivial⟩ ⟨?_, trivial⟩ (by simp) rfl (by simp))
               · show AV.own _ _ _ = AV.own _ _ _
                 rw [hnx, List.map_append, List.length_append]; try rfl
               · show some _ = some _
                 rw [hnx, List.map_append]; try rfl)
            | trace_state

theorem c43 (b : Bat) (v : Int) : CallOk Try.prog 43 [.imm (.int .i64 v), .imm (.ptr (batE b))] { res := [.imm (.bool (decide (v < b.res)))] } := by
  refine callOk_of tyOk Try.func43 rfl rfl (le_of_ble rfl) (le_of_ble rfl) (mutOk_imm rfl _) ?_
  repeat' first | refine go_seq ?_ | refine go_region ?_ | ((first | refine go_op rfl ?_ | refine go_nil ?_) <;> conv => whnf) | ((first | refine go_loadB ?_ | refine ⟨by kernel_rfl, ?_⟩ | refine go_ret ?_) <;> conv => whnf) | ((first | refine go_skip ?_) <;> conv => whnf) | refine ⟨rfl, ?_⟩ | ((first | refine ⟨trivial, ?_⟩ | refine ⟨le_of_ble rfl, ?_⟩) <;> conv => whnf) | fail
  all_goals exact ret_imm rfl rfl rfl rfl rfl rfl
theorem c42 (g : FuncId) (d : D) (q : Int → Bool) (hq : ∀ v, CallOk Try.prog g [.imm (.int .i64 v), .imm d] { res := [.imm (.bool (q v))] }) (xs : List Int) (hl : xs.length ≤ 1048576) :
    CallOk Try.prog 42 [.imm (.list (xs.map intRow)), .imm (.fn g [d])] { res := [.imm (.int .i64 (idxF q xs))] } := by
  refine callOk_of tyOk Try.func42 rfl rfl (le_of_ble rfl) (le_of_ble rfl) (mutOk_imm rfl _) ?_
  repeat' first | refine go_seq ?_ | refine go_region ?_ | ((first | refine go_op rfl ?_ | refine go_nil ?_) <;> conv => whnf) | ((first | refine go_loadB ?_ | refine ⟨by kernel_rfl, ?_⟩ | refine go_ret ?_) <;> conv => whnf) | refine go_block ?_ | ((first | refine go_skip ?_ | refine go_exit ?_) <;> conv => whnf) | refine go_true rfl ?_ | refine go_false rfl ?_ | refine go_cond rfl (fun h => ?_) (fun h => ?_) | refine ⟨rfl, ?_⟩ | ((first | refine ⟨trivial, ?_⟩ | refine ⟨le_of_ble rfl, ?_⟩) <;> conv => whnf) | fail
  refine go_loop (α := Nat) (fun i => i ≤ xs.length ∧ (xs.take i).any q = false) (fun i => xs.length - i) (fun i => st Try.f42.ntmps [(0, .imm (.list (xs.map intRow))), (1, .imm (.fn g [d])), (7, .imm (.int .i64 (xs.map intRow).length)), (8, .imm (.int .i64 (i : Nat)))] [] []) 0
    ⟨Nat.zero_le _, rfl⟩ (ref_st0 rfl ⟨rfl, rfl, rfl, rfl, trivial⟩ rfl) ?_
  rintro i ⟨hi, ha⟩
  cases hx : xs[i]? with
  | none =>
    have hge := le_of_at hx
    rw [List.take_of_length_le hge] at ha
    repeat' first | refine go_seq ?_ | refine go_region ?_ | ((first | refine go_op rfl ?_ | refine go_nil ?_) <;> conv => whnf) | ((first | refine go_loadB ?_ | refine ⟨by kernel_rfl, ?_⟩ | refine go_ret ?_) <;> conv => whnf) | refine go_block ?_ | ((first | refine go_skip ?_ | refine go_exit ?_) <;> conv => whnf) | refine go_true rfl ?_ | refine go_false rfl ?_ | refine go_cond rfl (fun h => ?_) (fun h => ?_) | refine ⟨rfl, ?_⟩ | ((first | refine ⟨trivial, ?_⟩ | refine ⟨le_of_ble rfl, ?_⟩) <;> conv => whnf) | fail
    · exfalso; simp at h; omega
    · exact ret_imm rfl rfl rfl rfl (by rw [idxF_miss ha]) rfl
  | some v =>
    have hlt := lt_of_at hx
    have hr := row_at intRow hx
    repeat' first | refine go_seq ?_ | refine go_region ?_ | ((first | refine go_op rfl ?_ | refine go_nil ?_ | refine go_call [] (hq v) rfl rfl rfl rfl ?_ | refine go_idx rfl rfl rfl rfl (by omega) hr rfl ?_) <;> conv => whnf) | ((first | refine go_loadB ?_ | refine ⟨by kernel_rfl, ?_⟩ | refine go_ret ?_) <;> conv => whnf) | refine go_block ?_ | ((first | refine go_skip ?_ | refine go_exit ?_) <;> conv => whnf) | refine go_true rfl ?_ | refine go_false rfl ?_ | refine go_cond rfl (fun h => ?_) (fun h => ?_) | refine ⟨rfl, ?_⟩ | ((first | refine ⟨trivial, ?_⟩ | refine ⟨le_of_ble rfl, ?_⟩) <;> conv => whnf) | fail
    · exact ret_imm rfl rfl rfl rfl (by rw [idxF_hit hx h ha]) rfl
    · exact go_next (i + 1) ⟨by omega, any_next hx ha h⟩ (by omega) (ref_st0 rfl ⟨rfl, rfl, rfl, next_i (by omega), trivial⟩ rfl)
    · exfalso; simp at h; omega
theorem c30 (b : Bat) (L : List Int) (hl : L.length ≤ 1048576) : CallOk Try.prog 30 [.imm (.agg (batE b)), .imm (.list (L.map intRow))] { res := [.imm (.int .i64 (fstE b L))] } := by
  refine callOk_of tyOk Try.func30 rfl rfl (le_of_ble rfl) (le_of_ble rfl) (mutOk_imm rfl _) ?_
  have h := c42 43 (.ptr (batE b)) (fun v => decide (v < b.res)) (c43 b) L hl
  repeat' first | refine go_seq ?_ | refine go_region ?_ | ((first | refine go_op rfl ?_ | refine go_nil ?_ | refine go_call [] (h) rfl rfl rfl rfl ?_) <;> conv => whnf) | ((first | refine ⟨by kernel_rfl, ?_⟩ | refine go_ret ?_) <;> conv => whnf) | ((first | refine go_skip ?_) <;> conv => whnf) | refine ⟨rfl, ?_⟩ | ((first | refine ⟨trivial, ?_⟩ | refine ⟨le_of_ble rfl, ?_⟩) <;> conv => whnf) | fail
  all_goals exact ret_imm rfl rfl rfl rfl rfl rfl

theorem c9 (xs : List Leg) (hl : xs.length ≤ 1048576) (b : Bat) (lv : Int) (p : List Int) (hp : p.length ≤ 1048576) :
    CallOk Try.prog 9 [.imm (.list (xs.map Leg.enc)), .imm (.agg (batE b)), .imm (.int .i64 lv), .imm (.list (p.map intRow))] { res := [.imm (.int .i64 (if lvOk xs b lv p then fstE b (afL xs b lv p) else 0)), .imm (.bool (lvOk xs b lv p))] } := by
  refine callOk_of tyOk Try.func9 rfl rfl (le_of_ble rfl) (le_of_ble rfl) (mutOk_imm rfl _) ?_
  have h1 := c6 xs hl b lv p hp
  cases e : lvOk xs b lv p with
  | false =>
    rw [e] at h1
    generalize lvL xs b lv p = L at *
    repeat' first | refine go_seq ?_ | refine go_region ?_ | ((first | refine go_op rfl ?_ | refine go_nil ?_ | refine go_call [] (h1) rfl rfl rfl rfl ?_) <;> conv => whnf) | ((first | refine go_loadB ?_ | refine ⟨by kernel_rfl, ?_⟩ | refine go_ret ?_) <;> conv => whnf) | ((first | refine go_skip ?_) <;> conv => whnf) | refine go_true rfl ?_ | refine go_false rfl ?_ | refine go_cond rfl (fun h => ?_) (fun h => ?_) | refine ⟨rfl, ?_⟩ | ((first | refine ⟨trivial, ?_⟩ | refine ⟨le_of_ble rfl, ?_⟩) <;> conv => whnf) | fail
    all_goals exact ret_imm2 rfl rfl rfl rfl rfl rfl rfl rfl
  | true =>
    have hL : lvL xs b lv p = afL xs b lv p := by unfold lvL; rw [e, if_pos rfl]
    rw [e, hL] at h1
    have h2 := c30 b (afL xs b lv p) (by rw [afL_len]; exact hl)
    rw [if_pos rfl]
    repeat' first | refine go_seq ?_ | refine go_region ?_ | ((first | refine go_op rfl ?_ | refine go_nil ?_ | refine go_call [] (h1) rfl rfl rfl rfl ?_ | refine go_call [] (h2) rfl rfl rfl rfl ?_) <;> conv => whnf) | ((first | refine go_loadB ?_ | refine ⟨by kernel_rfl, ?_⟩ | refine go_ret ?_) <;> conv => whnf) | ((first | refine go_skip ?_) <;> conv => whnf) | refine go_true rfl ?_ | refine go_false rfl ?_ | refine go_cond rfl (fun h => ?_) (fun h => ?_) | refine ⟨rfl, ?_⟩ | ((first | refine ⟨trivial, ?_⟩ | refine ⟨le_of_ble rfl, ?_⟩) <;> conv => whnf) | fail
    all_goals exact ret_imm2 rfl rfl rfl rfl rfl rfl rfl rfl

theorem c36 (xs : List Leg) (b : Bat) (lv : Int) (p : List Int) (hc : chgOk xs b lv = true) (hp : plOk xs p = true) :
    CallOk Try.prog 36 [.imm (.list (xs.map Leg.enc)), .imm (.agg (batE b)), .imm (.int .i64 lv), .imm (.list (p.map intRow))] { res := [.imm (.int .i64 (fstE b (afL xs b lv p)))] } := by
  refine callOk_of tyOk Try.func36 rfl rfl (le_of_ble rfl) (le_of_ble rfl) (mutOk_imm rfl _) ?_
  have h1 := c29 xs b lv p hc hp
  have hn := (legs_at (chg_at hc).1).1
  have hlm : ((xs.map Leg.enc).length : Int) = xs.length := by rw [List.length_map]
  repeat' first | refine go_seq ?_ | refine go_region ?_ | refine go_draw drawsOk ?_ | ((first | refine go_op rfl ?_ | refine go_nil ?_ | refine go_dop rfl ?_ | refine go_dend (by kernel_rfl) ?_ | refine go_call [] (h1) rfl rfl rfl rfl ?_) <;> conv => whnf) | ((first | refine go_loadB ?_ | refine ⟨by kernel_rfl, ?_⟩ | refine go_ret ?_) <;> conv => whnf) | refine go_block ?_ | ((first | refine go_skip ?_ | refine go_exit ?_) <;> conv => whnf) | refine go_true rfl ?_ | refine go_false rfl ?_ | refine go_cond rfl (fun h => ?_) (fun h => ?_) | refine ⟨rfl, ?_⟩ | ((first | refine ⟨trivial, ?_⟩ | refine ⟨le_of_ble rfl, ?_⟩) <;> conv => whnf) | fail
  refine go_loop (α := Nat) (fun i => i ≤ xs.length ∧ ((afL xs b lv p).take i).any (fun v => decide (v < b.res)) = false) (fun i => xs.length - i)
    (fun i => st Try.f36.ntmps [(0, .imm (.list (xs.map Leg.enc))), (5, .box 1000 0), (9, .imm (.list ((bfL xs b lv p).map intRow))), (10, .imm (.int .i64 (i : Nat)))] [(1000, .box 26 ((batE b).map .imm))] []) 0 ⟨Nat.zero_le _, rfl⟩ ?_ ?_
  · exact ref_st (fun i => nid 1 5) rfl ⟨rfl, ⟨rfl, rfl⟩, rfl, rfl, trivial⟩ ⟨⟨rfl, wavs_imm _⟩, trivial⟩ (by simp) rfl (by simp)
  rintro i ⟨hi, ha⟩
  cases hx : xs[i]? with
  | none =>
    have hge := le_of_at hx
    rw [List.take_of_length_le (by rw [afL_len]; exact hge)] at ha
    repeat' first | refine go_seq ?_ | refine go_region ?_ | refine go_draw drawsOk ?_ | ((first | refine go_op rfl ?_ | refine go_nil ?_ | refine go_dop rfl ?_ | refine go_dend (by kernel_rfl) ?_) <;> conv => whnf) | ((first | refine go_loadB ?_ | refine ⟨by kernel_rfl, ?_⟩ | refine go_ret ?_) <;> conv => whnf) | refine go_block ?_ | ((first | refine go_skip ?_ | refine go_exit ?_) <;> conv => whnf) | refine go_true rfl ?_ | refine go_false rfl ?_ | refine go_cond rfl (fun h => ?_) (fun h => ?_) | refine ⟨rfl, ?_⟩ | ((first | refine ⟨trivial, ?_⟩ | refine ⟨le_of_ble rfl, ?_⟩) <;> conv => whnf) | fail
    all_goals first
      | (exfalso; simp only [decide_eq_true_eq, decide_eq_false_iff_not, hlm] at *; omega)
      | exact ret_imm rfl rfl rfl rfl (by unfold fstE; rw [idxF_miss ha]) rfl
      | trace_state
  | some l =>
    have hlt := lt_of_at hx
    have hr := row_at Leg.enc hx
    have hrb := row_at intRow (bfL_at (xs := xs) (b := b) (lv := lv) (p := p) hlt)
    have haf := af_in hc hp hlt
    have hbt := bat_at (chg_at hc).2.1
    have hlu := legAt_of hx
    have hat := afL_at (xs := xs) (b := b) (lv := lv) (p := p) hlt
    have hwa : IntKind.i64.wrap (bfN xs b lv p i - l.use) = afN xs b lv p i := by
      unfold afN at haf ⊢
      rw [hlu] at haf ⊢
      exact wrap_small (by omega) (by omega)
    repeat' first | refine go_seq ?_ | refine go_region ?_ | refine go_draw drawsOk ?_ | ((first | refine go_op rfl ?_ | refine go_nil ?_ | refine go_dop rfl ?_ | refine go_dend (by kernel_rfl) ?_ | refine go_idx rfl rfl rfl rfl (by omega) hr rfl ?_ | refine go_idx rfl rfl rfl rfl (by omega) hrb rfl ?_) <;> conv => whnf) | ((first | refine go_loadB ?_ | refine ⟨by kernel_rfl, ?_⟩ | refine go_ret ?_) <;> conv => whnf) | refine go_block ?_ | ((first | refine go_skip ?_ | refine go_exit ?_) <;> conv => whnf) | refine go_true rfl ?_ | refine go_false rfl ?_ | refine go_cond rfl (fun h => ?_) (fun h => ?_) | refine ⟨rfl, ?_⟩ | ((first | refine ⟨trivial, ?_⟩ | refine ⟨le_of_ble rfl, ?_⟩) <;> conv => whnf) | fail
    all_goals first
      | (exfalso; simp only [decide_eq_true_eq, decide_eq_false_iff_not, hlm] at *; omega)
      | exact ret_imm rfl rfl rfl rfl (by unfold fstE; rw [idxF_hit hat (by rw [← hwa]; exact h) ha]) rfl
      | exact go_next (i + 1) ⟨by omega, any_next hat ha (by rw [← hwa]; exact h)⟩ (by omega) (ref_st id rfl ⟨rfl, ⟨rfl, rfl⟩, rfl, next_i (by omega), trivial⟩ ⟨⟨rfl, wavs_imm _⟩, trivial⟩ (by simp) rfl (by simp))
      | trace_state
end Go.Proofs.Ytmijabfckmgaiaa

