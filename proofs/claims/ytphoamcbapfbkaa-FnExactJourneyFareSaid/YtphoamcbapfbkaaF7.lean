/- JourneyFare as the reference does it, and the law. -/
import Derived.Test.YtphoamcbapfbkaaF6
namespace Go.Proofs.Ytphoamcbapfbkaa
open Go Go.Am
set_option maxRecDepth 100000
set_option maxHeartbeats 4000000
attribute [local irreducible] amOps amC opCall opIndexAddr opPick retQ opMake opStore amDraw opAppend opLoad opNilCmp opIndex opSlice

theorem legs_nil (n : Network) (zs : List Int) : jfCount n zs [] = 0 := by
  unfold jfCount legsSet zcnt
  simp

theorem c19 (n : Network) (hf : n.fit) (zs : List Int) (hzl : zs.length ≤ 1048576) (p : Prices) (hpf : p.fit) (ls : List (List Int)) (hll : ls.length ≤ 1048576) (_ : ∀ l ∈ ls, l.length ≤ 1048576) :
    CallOk Try.prog 19 [.imm (.agg n.enc), .imm (.list (zs.map intRow)), .imm (.agg p.enc), .imm (.list (ls.map intsRow))] { res := [.imm (.int .i64 (jfR n zs p ls)), .imm (.bool (jfOk n zs p ls))] } := by
  refine callOk_of tyOk Try.func19 rfl rfl (le_of_ble rfl) (le_of_ble rfl) (mutOk_imm rfl _) ?_
  have h0 := c41 n hf zs hzl
  have hlen : ((ls.map intsRow).length : Int) = ls.length := by rw [List.length_map]
  have h1 : CallOk Try.prog 53 [.imm (.int .i64 ((ls.map intsRow).length : Int)), .imm (.int .i64 1), .imm (.int .i64 6)] { res := [.imm (.bool (inR ls.length 1 6))] } := by rw [hlen]; exact c53 _ _ _
  cases hz : zonesOk n zs with
  | false =>
    have hp : jfOk n zs p ls = false := by unfold jfOk jfPre; rw [hz]; rfl
    have hr : jfR n zs p ls = 0 := by unfold jfR; rw [hp]; rfl
    rw [hz] at h0
    rw [hp, hr]
    repeat' first | refine go_seq ?_ | refine go_region ?_ | refine go_miss rfl rfl rfl ?_ | refine go_undef rfl rfl rfl ?_ | refine go_draw drawsOk ?_ | ((first | refine go_op rfl ?_ | refine go_nil ?_ | refine go_hit rfl rfl rfl ?_ | refine go_splitT rfl rfl rfl (fun h => ?_) (fun h => ?_) | refine go_splitF rfl rfl rfl (fun h => ?_) (fun h => ?_) | refine go_dop rfl ?_ | refine go_dhit rfl rfl ?_ | refine go_dmiss rfl rfl ?_ | refine go_dundef rfl rfl ?_ | refine go_dend (by kernel_rfl) ?_ | refine go_pickT rfl ?_ | refine go_pickF rfl ?_ | refine go_pick rfl (fun h => ?_) (fun h => ?_) | refine go_call [] (h0) rfl rfl rfl rfl ?_) <;> conv => whnf) | ((first | refine go_dsplit2 rfl (fun h => ?_) (fun h => ?_) | refine go_loadB ?_ | refine ⟨by kernel_rfl, ?_⟩ | refine go_ret ?_) <;> conv => whnf) | refine go_block ?_ | ((first | refine go_skip ?_ | refine go_exit ?_) <;> conv => whnf) | refine go_true rfl ?_ | refine go_false rfl ?_ | refine go_cond rfl (fun h => ?_) (fun h => ?_) | refine ⟨rfl, ?_⟩ | ((first | refine ⟨trivial, ?_⟩ | refine ⟨le_of_ble rfl, ?_⟩) <;> conv => whnf) | fail
    all_goals first
      | exact ret_imm2 rfl rfl rfl rfl rfl rfl rfl rfl
      | (exfalso; simp_all; done)
      | trace_state
  | true =>
  rw [hz] at h0
  cases h16 : inR (ls.length : Int) 1 6 with
  | false =>
    have hp : jfOk n zs p ls = false := by
      unfold jfOk jfPre
      by_cases h6 : inR (ls.length : Int) 0 6 = true
      · have hn : ls = [] := by
          have h2 := (inR_iff _ _ _).1 h6
          cases ls with
          | nil => rfl
          | cons a r =>
            have : inR (((a :: r : List (List Int)).length : Nat) : Int) 1 6 = true := by
              rw [inR_iff]; simp only [List.length_cons] at *; omega
            rw [this] at h16; cases h16
        subst hn
        rw [legs_nil]
        have : fareOk p 0 = false := by unfold fareOk inR; simp
        rw [this]; simp
      · rw [Bool.not_eq_true] at h6
        rw [h6]; simp
    have hr : jfR n zs p ls = 0 := by unfold jfR; rw [hp]; rfl
    rw [h16] at h1
    rw [hp, hr]
    repeat' first | refine go_seq ?_ | refine go_region ?_ | refine go_miss rfl rfl rfl ?_ | refine go_undef rfl rfl rfl ?_ | refine go_draw drawsOk ?_ | ((first | refine go_op rfl ?_ | refine go_nil ?_ | refine go_hit rfl rfl rfl ?_ | refine go_splitT rfl rfl rfl (fun h => ?_) (fun h => ?_) | refine go_splitF rfl rfl rfl (fun h => ?_) (fun h => ?_) | refine go_dop rfl ?_ | refine go_dhit rfl rfl ?_ | refine go_dmiss rfl rfl ?_ | refine go_dundef rfl rfl ?_ | refine go_dend (by kernel_rfl) ?_ | refine go_pickT rfl ?_ | refine go_pickF rfl ?_ | refine go_pick rfl (fun h => ?_) (fun h => ?_) | refine go_call [] (h0) rfl rfl rfl rfl ?_ | refine go_call [] (h1) rfl rfl rfl rfl ?_) <;> conv => whnf) | ((first | refine go_dsplit2 rfl (fun h => ?_) (fun h => ?_) | refine go_loadB ?_ | refine ⟨by kernel_rfl, ?_⟩ | refine go_ret ?_) <;> conv => whnf) | refine go_block ?_ | ((first | refine go_skip ?_ | refine go_exit ?_) <;> conv => whnf) | refine go_true rfl ?_ | refine go_false rfl ?_ | refine go_cond rfl (fun h => ?_) (fun h => ?_) | refine ⟨rfl, ?_⟩ | ((first | refine ⟨trivial, ?_⟩ | refine ⟨le_of_ble rfl, ?_⟩) <;> conv => whnf) | fail
    all_goals first
      | exact ret_imm2 rfl rfl rfl rfl rfl rfl rfl rfl
      | trace_state
  | true =>
  rw [h16] at h1
  have h06 : inR (ls.length : Int) 0 6 = true := by have := (inR_iff _ _ _).1 h16; rw [inR_iff]; omega
  repeat' first | refine go_seq ?_ | refine go_region ?_ | refine go_miss rfl rfl rfl ?_ | refine go_undef rfl rfl rfl ?_ | refine go_draw drawsOk ?_ | ((first | refine go_op rfl ?_ | refine go_nil ?_ | refine go_hit rfl rfl rfl ?_ | refine go_splitT rfl rfl rfl (fun h => ?_) (fun h => ?_) | refine go_splitF rfl rfl rfl (fun h => ?_) (fun h => ?_) | refine go_dop rfl ?_ | refine go_dhit rfl rfl ?_ | refine go_dmiss rfl rfl ?_ | refine go_dundef rfl rfl ?_ | refine go_dend (by kernel_rfl) ?_ | refine go_pickT rfl ?_ | refine go_pickF rfl ?_ | refine go_pick rfl (fun h => ?_) (fun h => ?_) | refine go_call [] (h0) rfl rfl rfl rfl ?_ | refine go_call [] (h1) rfl rfl rfl rfl ?_) <;> conv => whnf) | ((first | refine go_dsplit2 rfl (fun h => ?_) (fun h => ?_) | refine go_loadB ?_ | refine ⟨by kernel_rfl, ?_⟩ | refine go_ret ?_) <;> conv => whnf) | refine go_block ?_ | ((first | refine go_skip ?_ | refine go_exit ?_) <;> conv => whnf) | refine go_true rfl ?_ | refine go_false rfl ?_ | refine go_cond rfl (fun h => ?_) (fun h => ?_) | refine ⟨rfl, ?_⟩ | ((first | refine ⟨trivial, ?_⟩ | refine ⟨le_of_ble rfl, ?_⟩) <;> conv => whnf) | fail
  refine go_loop (α := Nat) (fun i => i ≤ ls.length ∧ (ls.take i).all (legOk n) = true) (fun i => ls.length - i)
    (fun i => st Try.f19.ntmps [(1, .imm (.list (zs.map intRow))), (3, .imm (.list (ls.map intsRow))), (4, .box 1000 0), (6, .box 1001 0), (10, .imm (.list ((zmem (legsSet n zs (ls.take i))).map intRow))), (11, .imm (.int .i64 (i : Nat)))]
      [(1000, .box 32 (n.enc.map .imm)), (1001, .box 47 (p.enc.map .imm))] []) 0 ⟨Nat.zero_le _, rfl⟩ ?_ ?_
  · refine Ref.trans (ref_freeze 10 rfl rfl) ?_
    refine ref_st (fun x => if x = 1000 then nid 1 4 else nid 1 6) rfl ⟨rfl, rfl, ⟨rfl, rfl⟩, ⟨rfl, rfl⟩, ?_, rfl, trivial⟩ ⟨⟨rfl, wavs_imm _⟩, ⟨rfl, wavs_imm _⟩, trivial⟩ (by simp [nid]) rfl (by simp)
    show AV.imm _ = AV.imm _
    have hz0 : zmem (legsSet n zs (ls.take 0)) = [] := by rw [List.take_zero]; show zmem 0 = []; decide
    rw [hz0]
    rfl
  rintro i ⟨hi, hup⟩
  cases hx : ls[i]? with
  | none =>
    have hge := le_of_at hx
    have hal := all_end hge hup
    rw [List.take_of_length_le hge]
    have hp : jfOk n zs p ls = fareOk p (jfCount n zs ls) := by unfold jfOk jfPre; rw [hz, h06, hal]; rfl
    have hc : (((zmem (legsSet n zs ls)).map intRow).length : Int) = (jfCount n zs ls : Nat) := by rw [List.length_map, zmem_len]; rfl
    have hfare : CallOk Try.prog 54 [.imm (.agg p.enc), .imm (.int .i64 (((zmem (legsSet n zs ls)).map intRow).length : Int))] { res := [.imm (.int .i64 (fareR p (jfCount n zs ls))), .imm (.bool (fareOk p (jfCount n zs ls)))] } := by rw [hc]; exact c54 p hpf (jfCount n zs ls)
    have hr : jfR n zs p ls = fareR p (jfCount n zs ls) := by
      unfold jfR
      rw [hp]
      split
      · rfl
      · rename_i hn; unfold fareR; rw [if_neg hn]
    rw [hp, hr]
    repeat' first | refine go_seq ?_ | refine go_region ?_ | refine go_miss rfl rfl rfl ?_ | refine go_undef rfl rfl rfl ?_ | refine go_draw drawsOk ?_ | ((first | refine go_op rfl ?_ | refine go_nil ?_ | refine go_hit rfl rfl rfl ?_ | refine go_splitT rfl rfl rfl (fun h => ?_) (fun h => ?_) | refine go_splitF rfl rfl rfl (fun h => ?_) (fun h => ?_) | refine go_dop rfl ?_ | refine go_dhit rfl rfl ?_ | refine go_dmiss rfl rfl ?_ | refine go_dundef rfl rfl ?_ | refine go_dend (by kernel_rfl) ?_ | refine go_pickT rfl ?_ | refine go_pickF rfl ?_ | refine go_pick rfl (fun h => ?_) (fun h => ?_) | refine go_call [] (hfare) rfl rfl rfl rfl ?_) <;> conv => whnf) | ((first | refine go_dsplit2 rfl (fun h => ?_) (fun h => ?_) | refine go_loadB ?_ | refine ⟨by kernel_rfl, ?_⟩ | refine go_ret ?_) <;> conv => whnf) | refine go_block ?_ | ((first | refine go_skip ?_ | refine go_exit ?_) <;> conv => whnf) | refine go_true rfl ?_ | refine go_false rfl ?_ | refine go_cond rfl (fun h => ?_) (fun h => ?_) | refine ⟨rfl, ?_⟩ | ((first | refine ⟨trivial, ?_⟩ | refine ⟨le_of_ble rfl, ?_⟩) <;> conv => whnf) | fail
    all_goals first
      | exact ret_imm2 rfl rfl rfl rfl rfl rfl rfl rfl
      | (exfalso; simp at h; omega)
      | trace_state
  | some l =>
    have hlt := lt_of_at hx
    have hr := row_at intsRow hx
    have hnx := legs_next (n := n) (zs := zs) hx
    have hm := legs_lt hz (ls.take i)
    cases hg : legOk n l with
    | false =>
      have hal : ls.all (legOk n) = false := all_not hx hg
      have hp : jfOk n zs p ls = false := by unfold jfOk jfPre; rw [hal]; simp
      have hr0 : jfR n zs p ls = 0 := by unfold jfR; rw [hp]; rfl
      rw [hp, hr0]
      unfold legOk at hg
      by_cases h3 : l.length = 3
      · rw [decide_eq_true h3, Bool.true_and] at hg
        obtain ⟨a0, a1, a2⟩ := leg_at h3
        have hto := c42 n zs hz hf _ hm (l.getD 0 0) (l.getD 1 0) (l.getD 2 0)
        rw [hg] at hto
        have r0 : (l.map intRow)[((0 : Int)).toNat]? = some (intRow (l.getD 0 0)) := by rw [List.getElem?_map]; show Option.map intRow l[0]? = _; rw [a0]; rfl
        have r1 : (l.map intRow)[((1 : Int)).toNat]? = some (intRow (l.getD 1 0)) := by rw [List.getElem?_map]; show Option.map intRow l[1]? = _; rw [a1]; rfl
        have r2 : (l.map intRow)[((2 : Int)).toNat]? = some (intRow (l.getD 2 0)) := by rw [List.getElem?_map]; show Option.map intRow l[2]? = _; rw [a2]; rfl
        repeat' first | refine go_seq ?_ | refine go_region ?_ | refine go_miss rfl rfl rfl ?_ | refine go_undef rfl rfl rfl ?_ | refine go_draw drawsOk ?_ | ((first | refine go_op rfl ?_ | refine go_nil ?_ | refine go_hit rfl rfl rfl ?_ | refine go_splitT rfl rfl rfl (fun h => ?_) (fun h => ?_) | refine go_splitF rfl rfl rfl (fun h => ?_) (fun h => ?_) | refine go_dop rfl ?_ | refine go_dhit rfl rfl ?_ | refine go_dmiss rfl rfl ?_ | refine go_dundef rfl rfl ?_ | refine go_dend (by kernel_rfl) ?_ | refine go_pickT rfl ?_ | refine go_pickF rfl ?_ | refine go_pick rfl (fun h => ?_) (fun h => ?_) | refine go_call [] (hto) rfl rfl rfl rfl ?_ | refine go_idx rfl rfl rfl rfl (by omega) hr rfl ?_ | refine go_idx rfl rfl rfl rfl (by omega) r0 rfl ?_ | refine go_idx rfl rfl rfl rfl (by omega) r1 rfl ?_ | refine go_idx rfl rfl rfl rfl (by omega) r2 rfl ?_) <;> conv => whnf) | ((first | refine go_dsplit2 rfl (fun h => ?_) (fun h => ?_) | refine go_loadB ?_ | refine ⟨by kernel_rfl, ?_⟩ | refine go_ret ?_) <;> conv => whnf) | refine go_block ?_ | ((first | refine go_skip ?_ | refine go_exit ?_) <;> conv => whnf) | refine go_true rfl ?_ | refine go_false rfl ?_ | refine go_cond rfl (fun h => ?_) (fun h => ?_) | refine ⟨rfl, ?_⟩ | ((first | refine ⟨trivial, ?_⟩ | refine ⟨le_of_ble rfl, ?_⟩) <;> conv => whnf) | fail
        all_goals first
          | exact ret_imm2 rfl rfl rfl rfl rfl rfl rfl rfl
          | (exfalso; simp at h; omega)
          | (exfalso; simp_all; done)
          | trace_state
      · skip
        repeat' first | refine go_seq ?_ | refine go_region ?_ | refine go_miss rfl rfl rfl ?_ | refine go_undef rfl rfl rfl ?_ | refine go_draw drawsOk ?_ | ((first | refine go_op rfl ?_ | refine go_nil ?_ | refine go_hit rfl rfl rfl ?_ | refine go_splitT rfl rfl rfl (fun h => ?_) (fun h => ?_) | refine go_splitF rfl rfl rfl (fun h => ?_) (fun h => ?_) | refine go_dop rfl ?_ | refine go_dhit rfl rfl ?_ | refine go_dmiss rfl rfl ?_ | refine go_dundef rfl rfl ?_ | refine go_dend (by kernel_rfl) ?_ | refine go_pickT rfl ?_ | refine go_pickF rfl ?_ | refine go_pick rfl (fun h => ?_) (fun h => ?_) | refine go_idx rfl rfl rfl rfl (by omega) hr rfl ?_) <;> conv => whnf) | ((first | refine go_dsplit2 rfl (fun h => ?_) (fun h => ?_) | refine go_loadB ?_ | refine ⟨by kernel_rfl, ?_⟩ | refine go_ret ?_) <;> conv => whnf) | refine go_block ?_ | ((first | refine go_skip ?_ | refine go_exit ?_) <;> conv => whnf) | refine go_true rfl ?_ | refine go_false rfl ?_ | refine go_cond rfl (fun h => ?_) (fun h => ?_) | refine ⟨rfl, ?_⟩ | ((first | refine ⟨trivial, ?_⟩ | refine ⟨le_of_ble rfl, ?_⟩) <;> conv => whnf) | fail
        all_goals first
          | exact ret_imm2 rfl rfl rfl rfl rfl rfl rfl rfl
          | (exfalso; simp at h; omega)
          | (exfalso; simp_all; done)
          | trace_state
    | true =>
      have hup' := all_next hx hup hg
      unfold legOk at hg
      simp only [Bool.and_eq_true, decide_eq_true_eq] at hg
      obtain ⟨h3, hg⟩ := hg
      obtain ⟨a0, a1, a2⟩ := leg_at h3
      have hto := c42 n zs hz hf _ hm (l.getD 0 0) (l.getD 1 0) (l.getD 2 0)
      rw [hg, if_pos rfl] at hto
      have r0 : (l.map intRow)[((0 : Int)).toNat]? = some (intRow (l.getD 0 0)) := by rw [List.getElem?_map]; show Option.map intRow l[0]? = _; rw [a0]; rfl
      have r1 : (l.map intRow)[((1 : Int)).toNat]? = some (intRow (l.getD 1 0)) := by rw [List.getElem?_map]; show Option.map intRow l[1]? = _; rw [a1]; rfl
      have r2 : (l.map intRow)[((2 : Int)).toNat]? = some (intRow (l.getD 2 0)) := by rw [List.getElem?_map]; show Option.map intRow l[2]? = _; rw [a2]; rfl
      repeat' first | refine go_seq ?_ | refine go_region ?_ | refine go_miss rfl rfl rfl ?_ | refine go_undef rfl rfl rfl ?_ | refine go_draw drawsOk ?_ | ((first | refine go_op rfl ?_ | refine go_nil ?_ | refine go_hit rfl rfl rfl ?_ | refine go_splitT rfl rfl rfl (fun h => ?_) (fun h => ?_) | refine go_splitF rfl rfl rfl (fun h => ?_) (fun h => ?_) | refine go_dop rfl ?_ | refine go_dhit rfl rfl ?_ | refine go_dmiss rfl rfl ?_ | refine go_dundef rfl rfl ?_ | refine go_dend (by kernel_rfl) ?_ | refine go_pickT rfl ?_ | refine go_pickF rfl ?_ | refine go_pick rfl (fun h => ?_) (fun h => ?_) | refine go_call [] (hto) rfl rfl rfl rfl ?_ | refine go_idx rfl rfl rfl rfl (by omega) hr rfl ?_ | refine go_idx rfl rfl rfl rfl (by omega) r0 rfl ?_ | refine go_idx rfl rfl rfl rfl (by omega) r1 rfl ?_ | refine go_idx rfl rfl rfl rfl (by omega) r2 rfl ?_) <;> conv => whnf) | ((first | refine go_dsplit2 rfl (fun h => ?_) (fun h => ?_) | refine go_loadB ?_ | refine ⟨by kernel_rfl, ?_⟩ | refine go_ret ?_) <;> conv => whnf) | refine go_block ?_ | ((first | refine go_skip ?_ | refine go_exit ?_) <;> conv => whnf) | refine go_true rfl ?_ | refine go_false rfl ?_ | refine go_cond rfl (fun h => ?_) (fun h => ?_) | refine ⟨rfl, ?_⟩ | ((first | refine ⟨trivial, ?_⟩ | refine ⟨le_of_ble rfl, ?_⟩) <;> conv => whnf) | fail
      all_goals first
        | (refine go_next (i + 1) ⟨by omega, hup'⟩ (by omega) (ref_st id rfl ⟨rfl, rfl, ⟨rfl, rfl⟩, ⟨rfl, rfl⟩, ?_, next_i (by omega), trivial⟩ ⟨⟨rfl, wavs_imm _⟩, ⟨rfl, wavs_imm _⟩, trivial⟩ (by simp) rfl (by simp))
           show AV.imm _ = AV.imm _
           rw [hnx]
           rfl
           done)
        | (exfalso; simp at h; omega)
        | (exfalso; simp_all; done)
        | trace_state

theorem c4 (n : Network) (hok : n.ok) (zs : List Int) (_ : ∀ v ∈ zs, i64 v) (hzl : zs.length ≤ 9223372036854775807) (p : Prices) (hpk : p.ok) (ls : List (List Int)) (hlk : ∀ v ∈ ls, v.length ≤ 9223372036854775807 ∧ ∀ x ∈ v, i64 x) (hll : ls.length ≤ 9223372036854775807) :
    CallOk Try.prog 4 [.imm (.agg n.enc), .imm (.list (zs.map intRow)), .imm (.agg p.enc), .imm (.list (ls.map intsRow))] { res := [.imm (.bool true)] } := by
  refine callOk_of tyOk Try.func4 rfl rfl (le_of_ble rfl) (le_of_ble rfl) (mutOk_imm rfl _) ?_
  have hz : ((zs.map intRow).length : Int) = zs.length := by rw [List.length_map]
  by_cases hl : zs.length ≤ 1048576
  case neg =>
    repeat' first | refine go_seq ?_ | refine go_region ?_ | refine go_miss rfl rfl rfl ?_ | refine go_undef rfl rfl rfl ?_ | refine go_draw drawsOk ?_ | ((first | refine go_op rfl ?_ | refine go_nil ?_ | refine go_hit rfl rfl rfl ?_ | refine go_splitT rfl rfl rfl (fun h => ?_) (fun h => ?_) | refine go_splitF rfl rfl rfl (fun h => ?_) (fun h => ?_) | refine go_storeBox rfl rfl rfl rfl rfl rfl ?_ | refine go_dop rfl ?_ | refine go_dhit rfl rfl ?_ | refine go_dmiss rfl rfl ?_ | refine go_dundef rfl rfl ?_ | refine go_dend (by kernel_rfl) ?_ | refine go_pickT rfl ?_ | refine go_pickF rfl ?_ | refine go_pick rfl (fun h => ?_) (fun h => ?_)) <;> conv => whnf) | ((first | refine go_dsplit2 rfl (fun h => ?_) (fun h => ?_) | refine go_loadB ?_ | refine ⟨by kernel_rfl, ?_⟩ | refine go_ret ?_) <;> conv => whnf) | ((first | refine go_skip ?_) <;> conv => whnf) | refine go_true rfl ?_ | refine go_false rfl ?_ | refine go_cond rfl (fun h => ?_) (fun h => ?_) | refine ⟨rfl, ?_⟩ | ((first | refine ⟨trivial, ?_⟩ | refine ⟨le_of_ble rfl, ?_⟩) <;> conv => whnf) | fail
    all_goals first
      | exact ret_imm rfl rfl rfl rfl rfl rfl
      | (exfalso; have h' := of_decide_eq_false h; omega)
      | (exfalso; rename_i hq; have h' := of_decide_eq_false hq; omega)
  have hsz := c7 n hok 1048576 (by omega) (by omega)
  have hle1 := szNetwork_sz.le 1048576 n (by omega)
  by_cases h0 : 0 ≤ szNetwork 1048576 n
  case neg =>
    repeat' first | refine go_seq ?_ | refine go_region ?_ | refine go_miss rfl rfl rfl ?_ | refine go_undef rfl rfl rfl ?_ | refine go_draw drawsOk ?_ | ((first | refine go_op rfl ?_ | refine go_nil ?_ | refine go_hit rfl rfl rfl ?_ | refine go_splitT rfl rfl rfl (fun h => ?_) (fun h => ?_) | refine go_splitF rfl rfl rfl (fun h => ?_) (fun h => ?_) | refine go_storeBox rfl rfl rfl rfl rfl rfl ?_ | refine go_dop rfl ?_ | refine go_dhit rfl rfl ?_ | refine go_dmiss rfl rfl ?_ | refine go_dundef rfl rfl ?_ | refine go_dend (by kernel_rfl) ?_ | refine go_pickT rfl ?_ | refine go_pickF rfl ?_ | refine go_pick rfl (fun h => ?_) (fun h => ?_) | refine go_call [] (hsz) rfl rfl rfl rfl ?_) <;> conv => whnf) | ((first | refine go_dsplit2 rfl (fun h => ?_) (fun h => ?_) | refine go_loadB ?_ | refine ⟨by kernel_rfl, ?_⟩ | refine go_ret ?_) <;> conv => whnf) | ((first | refine go_skip ?_) <;> conv => whnf) | refine go_true rfl ?_ | refine go_false rfl ?_ | refine go_cond rfl (fun h => ?_) (fun h => ?_) | refine ⟨rfl, ?_⟩ | ((first | refine ⟨trivial, ?_⟩ | refine ⟨le_of_ble rfl, ?_⟩) <;> conv => whnf) | fail
    all_goals first
      | exact ret_imm rfl rfl rfl rfl rfl rfl
      | (exfalso; have h' := of_decide_eq_true h; omega)
      | (exfalso; have h' := of_decide_eq_false h; omega)
      | (exfalso; have h' := of_decide_eq_true h; omega)
      | (exfalso; rename_i hq; have h' := of_decide_eq_true hq; omega)
      | (exfalso; rename_i hq; have h' := of_decide_eq_false hq; omega)
      | (exfalso; rename_i hq _; have h' := of_decide_eq_true hq; omega)
      | (exfalso; rename_i hq _; have h' := of_decide_eq_false hq; omega)
      | trace_state
  have hf := szNetwork_fit (by omega) h0
  have hsz2 := c17 p hpk (szNetwork 1048576 n) h0 (by omega)
  have hle2 := szPrices_sz.le (szNetwork 1048576 n) p (by omega)
  by_cases h02 : 0 ≤ szPrices (szNetwork 1048576 n) p
  case neg =>
    repeat' first | refine go_seq ?_ | refine go_region ?_ | refine go_miss rfl rfl rfl ?_ | refine go_undef rfl rfl rfl ?_ | refine go_draw drawsOk ?_ | ((first | refine go_op rfl ?_ | refine go_nil ?_ | refine go_hit rfl rfl rfl ?_ | refine go_splitT rfl rfl rfl (fun h => ?_) (fun h => ?_) | refine go_splitF rfl rfl rfl (fun h => ?_) (fun h => ?_) | refine go_storeBox rfl rfl rfl rfl rfl rfl ?_ | refine go_dop rfl ?_ | refine go_dhit rfl rfl ?_ | refine go_dmiss rfl rfl ?_ | refine go_dundef rfl rfl ?_ | refine go_dend (by kernel_rfl) ?_ | refine go_pickT rfl ?_ | refine go_pickF rfl ?_ | refine go_pick rfl (fun h => ?_) (fun h => ?_) | refine go_call [] (hsz) rfl rfl rfl rfl ?_ | refine go_call [] (hsz2) rfl rfl rfl rfl ?_) <;> conv => whnf) | ((first | refine go_dsplit2 rfl (fun h => ?_) (fun h => ?_) | refine go_loadB ?_ | refine ⟨by kernel_rfl, ?_⟩ | refine go_ret ?_) <;> conv => whnf) | ((first | refine go_skip ?_) <;> conv => whnf) | refine go_true rfl ?_ | refine go_false rfl ?_ | refine go_cond rfl (fun h => ?_) (fun h => ?_) | refine ⟨rfl, ?_⟩ | ((first | refine ⟨trivial, ?_⟩ | refine ⟨le_of_ble rfl, ?_⟩) <;> conv => whnf) | fail
    all_goals first
      | exact ret_imm rfl rfl rfl rfl rfl rfl
      | (exfalso; have h' := of_decide_eq_true h; omega)
      | (exfalso; have h' := of_decide_eq_false h; omega)
      | (exfalso; have h' := of_decide_eq_true h; omega)
      | (exfalso; rename_i hq; have h' := of_decide_eq_true hq; omega)
      | (exfalso; rename_i hq; have h' := of_decide_eq_false hq; omega)
      | (exfalso; rename_i hq _; have h' := of_decide_eq_true hq; omega)
      | (exfalso; rename_i hq _; have h' := of_decide_eq_false hq; omega)
      | trace_state
  have hpf := szPrices_fit (by omega) h02
  have hsz3 := c18 ls (fun v hv => (hlk v hv).1) hll (szPrices (szNetwork 1048576 n) p) h02 (by omega)
  by_cases h03 : 0 ≤ szIntSS (szPrices (szNetwork 1048576 n) p) ls
  case neg =>
    repeat' first | refine go_seq ?_ | refine go_region ?_ | refine go_miss rfl rfl rfl ?_ | refine go_undef rfl rfl rfl ?_ | refine go_draw drawsOk ?_ | ((first | refine go_op rfl ?_ | refine go_nil ?_ | refine go_hit rfl rfl rfl ?_ | refine go_splitT rfl rfl rfl (fun h => ?_) (fun h => ?_) | refine go_splitF rfl rfl rfl (fun h => ?_) (fun h => ?_) | refine go_storeBox rfl rfl rfl rfl rfl rfl ?_ | refine go_dop rfl ?_ | refine go_dhit rfl rfl ?_ | refine go_dmiss rfl rfl ?_ | refine go_dundef rfl rfl ?_ | refine go_dend (by kernel_rfl) ?_ | refine go_pickT rfl ?_ | refine go_pickF rfl ?_ | refine go_pick rfl (fun h => ?_) (fun h => ?_) | refine go_call [] (hsz) rfl rfl rfl rfl ?_ | refine go_call [] (hsz2) rfl rfl rfl rfl ?_ | refine go_call [] (hsz3) rfl rfl rfl rfl ?_) <;> conv => whnf) | ((first | refine go_dsplit2 rfl (fun h => ?_) (fun h => ?_) | refine go_loadB ?_ | refine ⟨by kernel_rfl, ?_⟩ | refine go_ret ?_) <;> conv => whnf) | ((first | refine go_skip ?_) <;> conv => whnf) | refine go_true rfl ?_ | refine go_false rfl ?_ | refine go_cond rfl (fun h => ?_) (fun h => ?_) | refine ⟨rfl, ?_⟩ | ((first | refine ⟨trivial, ?_⟩ | refine ⟨le_of_ble rfl, ?_⟩) <;> conv => whnf) | fail
    all_goals first
      | exact ret_imm rfl rfl rfl rfl rfl rfl
      | (exfalso; have h' := of_decide_eq_true h; omega)
      | (exfalso; have h' := of_decide_eq_false h; omega)
      | (exfalso; have h' := of_decide_eq_true h; omega)
      | (exfalso; rename_i hq; have h' := of_decide_eq_true hq; omega)
      | (exfalso; rename_i hq; have h' := of_decide_eq_false hq; omega)
      | (exfalso; rename_i hq _; have h' := of_decide_eq_true hq; omega)
      | (exfalso; rename_i hq _; have h' := of_decide_eq_false hq; omega)
      | trace_state
  have hps := szList_pos szIntS_sz h03
  have hls : ls.length ≤ 1048576 := by omega
  have hall : ∀ v ∈ ls, v.length ≤ 1048576 := fun v hv => by
    obtain ⟨m, hm1, hm2⟩ := hps.2.2 v hv
    have := less_pos (k := v.length) hm2
    omega
  have t1 := c9 n hf
  have t2 := c10 zs hl
  have t3 := c20 p hpf
  have t4 := c21 ls hall hls
  have s1 := c19 n hf zs hl p hpf ls hls hall
  have s2 := c22 n hf zs hl p hpf ls hls hall
  have e1 := c13s n hf
  have e2 := c12s zs hl
  have e3 := c23s p hpf
  have e4 := c24s ls hall hls
  repeat' first | refine go_seq ?_ | refine go_region ?_ | refine go_miss rfl rfl rfl ?_ | refine go_undef rfl rfl rfl ?_ | refine go_draw drawsOk ?_ | ((first | refine go_op rfl ?_ | refine go_nil ?_ | refine go_hit rfl rfl rfl ?_ | refine go_splitT rfl rfl rfl (fun h => ?_) (fun h => ?_) | refine go_splitF rfl rfl rfl (fun h => ?_) (fun h => ?_) | refine go_storeBox rfl rfl rfl rfl rfl rfl ?_ | refine go_dop rfl ?_ | refine go_dhit rfl rfl ?_ | refine go_dmiss rfl rfl ?_ | refine go_dundef rfl rfl ?_ | refine go_dend (by kernel_rfl) ?_ | refine go_pickT rfl ?_ | refine go_pickF rfl ?_ | refine go_pick rfl (fun h => ?_) (fun h => ?_) | refine go_call [] (hsz) rfl rfl rfl rfl ?_ | refine go_call [] (hsz2) rfl rfl rfl rfl ?_ | refine go_call [] (hsz3) rfl rfl rfl rfl ?_ | refine go_call [] (t1) rfl rfl rfl rfl ?_ | refine go_call [] (t2) rfl rfl rfl rfl ?_ | refine go_call [] (t3) rfl rfl rfl rfl ?_ | refine go_call [] (t4) rfl rfl rfl rfl ?_ | refine go_call [] (s1) rfl rfl rfl rfl ?_ | refine go_call [] (s2) rfl rfl rfl rfl ?_ | refine go_call [] (e1) rfl rfl rfl rfl ?_ | refine go_call [] (e2) rfl rfl rfl rfl ?_ | refine go_call [] (e3) rfl rfl rfl rfl ?_ | refine go_call [] (e4) rfl rfl rfl rfl ?_) <;> conv => whnf) | ((first | refine go_dsplit2 rfl (fun h => ?_) (fun h => ?_) | refine go_loadB ?_ | refine ⟨by kernel_rfl, ?_⟩ | refine go_ret ?_) <;> conv => whnf) | ((first | refine go_skip ?_) <;> conv => whnf) | refine go_true rfl ?_ | refine go_false rfl ?_ | refine go_cond rfl (fun h => ?_) (fun h => ?_) | refine ⟨rfl, ?_⟩ | ((first | refine ⟨trivial, ?_⟩ | refine ⟨le_of_ble rfl, ?_⟩) <;> conv => whnf) | fail
  all_goals first
    | exact ret_imm rfl rfl rfl rfl rfl rfl
    | (exfalso; simp at h; done)
    | (exfalso; simp at h; omega)
    | (exfalso; have h' := of_decide_eq_false h; omega)
    | (exfalso; have h' := of_decide_eq_true h; omega)
    | (exfalso; rename_i hq; have h' := of_decide_eq_true hq; omega)
    | (exfalso; rename_i hq; have h' := of_decide_eq_false hq; omega)
    | (exfalso; rename_i hq _; have h' := of_decide_eq_true hq; omega)
    | (exfalso; rename_i hq _; have h' := of_decide_eq_false hq; omega)
    | trace_state
end Go.Proofs.Ytphoamcbapfbkaa

