/- JourneyFare and ZonesTouched, walked, and their laws. -/
import Derived.Test.YtphoamcbapfbkaaF5
namespace Go.Proofs.Ytphoamcbapfbkaa
open Go Go.Am
set_option maxRecDepth 100000
set_option maxHeartbeats 4000000
attribute [local irreducible] amOps amC opCall opIndexAddr opPick retQ opMake opStore amDraw opAppend opLoad opNilCmp opIndex opSlice

/-- A leg: a line and two places on it. -/
def legOk (n : Network) (l : List Int) : Bool := decide (l.length = 3) && partOk n (l.getD 0 0) (l.getD 1 0) (l.getD 2 0)
def legZ (n : Network) (zs : List Int) (l : List Int) : List Int := partZ n zs (l.getD 0 0) (l.getD 1 0) (l.getD 2 0)
/-- The set of what the legs touch. -/
def legsSet (n : Network) (zs : List Int) (ls : List (List Int)) : Nat := ls.foldl (fun m l => zadd m (legZ n zs l)) 0
def jfPre (n : Network) (zs : List Int) (ls : List (List Int)) : Bool := zonesOk n zs && inR ls.length 0 6 && ls.all (legOk n)
def jfCount (n : Network) (zs : List Int) (ls : List (List Int)) : Nat := zcnt (legsSet n zs ls) 10
def jfOk (n : Network) (zs : List Int) (p : Prices) (ls : List (List Int)) : Bool := jfPre n zs ls && fareOk p (jfCount n zs ls)
def jfR (n : Network) (zs : List Int) (p : Prices) (ls : List (List Int)) : Int := if jfOk n zs p ls then fareR p (jfCount n zs ls) else 0

theorem legs_next {n : Network} {zs : List Int} {ls : List (List Int)} {i : Nat} {l : List Int} (h : ls[i]? = some l) : legsSet n zs (ls.take (i + 1)) = zadd (legsSet n zs (ls.take i)) (legZ n zs l) := by
  unfold legsSet
  rw [List.take_add_one, h, List.foldl_append]
  rfl
theorem legs_lt {n : Network} {zs : List Int} (hz : zonesOk n zs = true) (ls : List (List Int)) : legsSet n zs ls < 1024 := by
  have : ∀ (ls : List (List Int)) (m : Nat), m < 1024 → ls.foldl (fun m l => zadd m (legZ n zs l)) m < 1024 := by
    intro ls
    induction ls with
    | nil => intro m h; exact h
    | cons l r ih => intro m h; exact ih _ (zadd_lt _ _ h (partZ_in hz _ _ _))
  exact this ls 0 (by omega)
theorem leg_at {l : List Int} (h : l.length = 3) : l[0]? = some (l.getD 0 0) ∧ l[1]? = some (l.getD 1 0) ∧ l[2]? = some (l.getD 2 0) := by
  match l, h with
  | [a, b, c], _ => exact ⟨rfl, rfl, rfl⟩

theorem c22 (n : Network) (hf : n.fit) (zs : List Int) (hzl : zs.length ≤ 1048576) (p : Prices) (hpf : p.fit) (ls : List (List Int)) (hll : ls.length ≤ 1048576) (_ : ∀ l ∈ ls, l.length ≤ 1048576) :
    CallOk Try.prog 22 [.imm (.agg n.enc), .imm (.list (zs.map intRow)), .imm (.agg p.enc), .imm (.list (ls.map intsRow))] { res := [.imm (.int .i64 (jfR n zs p ls)), .imm (.bool (jfOk n zs p ls))] } := by
  refine callOk_of tyOk Try.func22 rfl rfl (le_of_ble rfl) (le_of_ble rfl) (mutOk_imm rfl _) ?_
  have h0 := c45 n hf zs hzl
  have hlen : ((ls.map intsRow).length : Int) = ls.length := by rw [List.length_map]
  cases hz : zonesOk n zs with
  | false =>
    have hp : jfOk n zs p ls = false := by unfold jfOk jfPre; rw [hz]; rfl
    have hr : jfR n zs p ls = 0 := by unfold jfR; rw [hp]; rfl
    rw [hz] at h0
    rw [hp, hr]
    repeat' first | refine go_seq ?_ | refine go_region ?_ | refine go_miss rfl rfl rfl ?_ | refine go_undef rfl rfl rfl ?_ | refine go_draw drawsOk ?_ | ((first | refine go_op rfl ?_ | refine go_nil ?_ | refine go_hit rfl rfl rfl ?_ | refine go_splitT rfl rfl rfl (fun h => ?_) (fun h => ?_) | refine go_splitF rfl rfl rfl (fun h => ?_) (fun h => ?_) | refine go_dop rfl ?_ | refine go_dhit rfl rfl ?_ | refine go_dmiss rfl rfl ?_ | refine go_dundef rfl rfl ?_ | refine go_dend (by kernel_rfl) ?_ | refine go_pickT rfl ?_ | refine go_pickF rfl ?_ | refine go_pick rfl (fun h => ?_) (fun h => ?_) | refine go_call [] (h0) rfl rfl rfl rfl ?_) <;> conv => whnf) | ((first | refine go_dsplit2 rfl (fun h => ?_) (fun h => ?_) | refine go_loadB ?_ | refine ⟨by kernel_rfl, ?_⟩ | refine go_ret ?_) <;> conv => whnf) | refine go_block ?_ | ((first | refine go_skip ?_ | refine go_exit ?_) <;> conv => whnf) | refine go_true rfl ?_ | refine go_false rfl ?_ | refine go_cond rfl (fun h => ?_) (fun h => ?_) | refine ⟨rfl, ?_⟩ | ((first | refine ⟨trivial, ?_⟩ | refine ⟨le_of_ble rfl, ?_⟩) <;> conv => whnf) | fail
    all_goals first
      | exact ret_imm2 rfl rfl rfl rfl rfl rfl rfl rfl
      | (exfalso; simp_all; done)
      | trace_state
  | true =>
  rw [hz] at h0
  by_cases h6 : ls.length ≤ 6
  case neg =>
    have hp : jfOk n zs p ls = false := by
      have : inR (ls.length : Int) 0 6 = false := by unfold inR; simp; omega
      unfold jfOk jfPre; rw [this]; simp
    have hr : jfR n zs p ls = 0 := by unfold jfR; rw [hp]; rfl
    rw [hp, hr]
    repeat' first | refine go_seq ?_ | refine go_region ?_ | refine go_miss rfl rfl rfl ?_ | refine go_undef rfl rfl rfl ?_ | refine go_draw drawsOk ?_ | ((first | refine go_op rfl ?_ | refine go_nil ?_ | refine go_hit rfl rfl rfl ?_ | refine go_splitT rfl rfl rfl (fun h => ?_) (fun h => ?_) | refine go_splitF rfl rfl rfl (fun h => ?_) (fun h => ?_) | refine go_dop rfl ?_ | refine go_dhit rfl rfl ?_ | refine go_dmiss rfl rfl ?_ | refine go_dundef rfl rfl ?_ | refine go_dend (by kernel_rfl) ?_ | refine go_pickT rfl ?_ | refine go_pickF rfl ?_ | refine go_pick rfl (fun h => ?_) (fun h => ?_) | refine go_call [] (h0) rfl rfl rfl rfl ?_) <;> conv => whnf) | ((first | refine go_dsplit2 rfl (fun h => ?_) (fun h => ?_) | refine go_loadB ?_ | refine ⟨by kernel_rfl, ?_⟩ | refine go_ret ?_) <;> conv => whnf) | refine go_block ?_ | ((first | refine go_skip ?_ | refine go_exit ?_) <;> conv => whnf) | refine go_true rfl ?_ | refine go_false rfl ?_ | refine go_cond rfl (fun h => ?_) (fun h => ?_) | refine ⟨rfl, ?_⟩ | ((first | refine ⟨trivial, ?_⟩ | refine ⟨le_of_ble rfl, ?_⟩) <;> conv => whnf) | fail
    all_goals first
      | exact ret_imm2 rfl rfl rfl rfl rfl rfl rfl rfl
      | (exfalso; have h' := of_decide_eq_false h; rw [hlen] at h'; omega)
      | (exfalso; rename_i hq; have h' := of_decide_eq_false hq; rw [hlen] at h'; omega)
      | trace_state
  have h06 : inR (ls.length : Int) 0 6 = true := by rw [inR_iff]; omega
  repeat' first | refine go_seq ?_ | refine go_region ?_ | refine go_miss rfl rfl rfl ?_ | refine go_undef rfl rfl rfl ?_ | refine go_draw drawsOk ?_ | ((first | refine go_op rfl ?_ | refine go_nil ?_ | refine go_hit rfl rfl rfl ?_ | refine go_splitT rfl rfl rfl (fun h => ?_) (fun h => ?_) | refine go_splitF rfl rfl rfl (fun h => ?_) (fun h => ?_) | refine go_dop rfl ?_ | refine go_dhit rfl rfl ?_ | refine go_dmiss rfl rfl ?_ | refine go_dundef rfl rfl ?_ | refine go_dend (by kernel_rfl) ?_ | refine go_pickT rfl ?_ | refine go_pickF rfl ?_ | refine go_pick rfl (fun h => ?_) (fun h => ?_) | refine go_call [] (h0) rfl rfl rfl rfl ?_) <;> conv => whnf) | ((first | refine go_dsplit2 rfl (fun h => ?_) (fun h => ?_) | refine go_loadB ?_ | refine ⟨by kernel_rfl, ?_⟩ | refine go_ret ?_) <;> conv => whnf) | refine go_block ?_ | ((first | refine go_skip ?_ | refine go_exit ?_) <;> conv => whnf) | refine go_true rfl ?_ | refine go_false rfl ?_ | refine go_cond rfl (fun h => ?_) (fun h => ?_) | refine ⟨rfl, ?_⟩ | ((first | refine ⟨trivial, ?_⟩ | refine ⟨le_of_ble rfl, ?_⟩) <;> conv => whnf) | fail
  all_goals try first
    | (exfalso; have h' := of_decide_eq_true h; rw [hlen] at h'; omega)
    | (exfalso; rename_i hq; have h' := of_decide_eq_true hq; rw [hlen] at h'; omega)
  refine go_loop (α := Nat) (fun i => i ≤ ls.length ∧ (ls.take i).all (legOk n) = true) (fun i => ls.length - i)
    (fun i => st Try.f22.ntmps [(1, .imm (.list (zs.map intRow))), (4, .box 1000 0), (6, .box 1001 0), (10, .imm (.int .i64 ((legsSet n zs (ls.take i) : Nat) : Int))), (24, .imm (.list (ls.map intsRow))), (25, .imm (.int .i64 (ls.map intsRow).length)), (26, .imm (.int .i64 (i : Nat)))]
      [(1000, .box 32 (n.enc.map .imm)), (1001, .box 47 (p.enc.map .imm))] []) 0 ⟨Nat.zero_le _, rfl⟩ ?_ ?_
  · exact ref_st (fun x => if x = 1000 then nid 1 4 else nid 1 6) rfl ⟨rfl, ⟨rfl, rfl⟩, ⟨rfl, rfl⟩, rfl, rfl, rfl, rfl, trivial⟩ ⟨⟨rfl, wavs_imm _⟩, ⟨rfl, wavs_imm _⟩, trivial⟩ (by simp [nid]) rfl (by simp)
  rintro i ⟨hi, hup⟩
  cases hx : ls[i]? with
  | none =>
    have hge := le_of_at hx
    have hal := all_end hge hup
    rw [List.take_of_length_le hge]
    have hlt := legs_lt hz ls
    have hp : jfOk n zs p ls = fareOk p (jfCount n zs ls) := by unfold jfOk jfPre; rw [hz, h06, hal]; rfl
    have hc : zcnt (legsSet n zs ls) 10 = jfCount n zs ls := rfl
    generalize legsSet n zs ls = m at *
    repeat' first | refine go_seq ?_ | refine go_region ?_ | refine go_miss rfl rfl rfl ?_ | refine go_undef rfl rfl rfl ?_ | refine go_draw drawsOk ?_ | ((first | refine go_op rfl ?_ | refine go_nil ?_ | refine go_hit rfl rfl rfl ?_ | refine go_splitT rfl rfl rfl (fun h => ?_) (fun h => ?_) | refine go_splitF rfl rfl rfl (fun h => ?_) (fun h => ?_) | refine go_dop rfl ?_ | refine go_dhit rfl rfl ?_ | refine go_dmiss rfl rfl ?_ | refine go_dundef rfl rfl ?_ | refine go_dend (by kernel_rfl) ?_ | refine go_pickT rfl ?_ | refine go_pickF rfl ?_ | refine go_pick rfl (fun h => ?_) (fun h => ?_)) <;> conv => whnf) | ((first | refine go_dsplit2 rfl (fun h => ?_) (fun h => ?_) | refine go_loadB ?_ | refine ⟨by kernel_rfl, ?_⟩ | refine go_ret ?_) <;> conv => whnf) | refine go_block ?_ | ((first | refine go_skip ?_ | refine go_exit ?_) <;> conv => whnf) | refine go_true rfl ?_ | refine go_false rfl ?_ | refine go_cond rfl (fun h => ?_) (fun h => ?_) | refine ⟨rfl, ?_⟩ | ((first | refine ⟨trivial, ?_⟩ | refine ⟨le_of_ble rfl, ?_⟩) <;> conv => whnf) | fail
    all_goals try first
      | (exfalso; simp at h; omega)
    refine go_loop (α := Nat) (fun z => z ≤ 10) (fun z => 10 - z)
      (fun z => st Try.f22.ntmps [(6, .box 1001 0), (10, .imm (.int .i64 ((m : Nat) : Int))), (13, .imm (.int .i64 ((zcnt m z : Nat) : Int))), (62, .imm (.int .i64 (z : Nat)))] [(1001, .box 47 (p.enc.map .imm))] []) 0 (Nat.zero_le _) ?_ ?_
    · exact ref_st id rfl ⟨⟨rfl, rfl⟩, rfl, rfl, rfl, trivial⟩ ⟨⟨rfl, wavs_imm _⟩, trivial⟩ (by simp) rfl (by simp)
    intro z hzz
    by_cases hz10 : z < 10
    · have hb := shr_zone hlt hz10
      have hn := zcnt_next m z
      have hle := zcnt_le m z
      have hz0 : (0 : Int) ≤ (z : Nat) := by omega
      repeat' first | refine go_seq ?_ | refine go_region ?_ | refine go_miss rfl rfl rfl ?_ | refine go_undef rfl rfl rfl ?_ | refine go_draw drawsOk ?_ | ((first | refine go_op rfl ?_ | refine go_nil ?_ | refine go_hit rfl rfl rfl ?_ | refine go_splitT rfl rfl rfl (fun h => ?_) (fun h => ?_) | refine go_splitF rfl rfl rfl (fun h => ?_) (fun h => ?_) | refine go_dop rfl ?_ | refine go_dhit rfl rfl ?_ | refine go_dmiss rfl rfl ?_ | refine go_dundef rfl rfl ?_ | refine go_dend (by kernel_rfl) ?_ | refine go_pickT rfl ?_ | refine go_pickF rfl ?_ | refine go_pick rfl (fun h => ?_) (fun h => ?_) | refine ⟨hz0, ?_⟩) <;> conv => whnf) | ((first | refine go_dsplit2 rfl (fun h => ?_) (fun h => ?_) | refine go_loadB ?_ | refine ⟨by kernel_rfl, ?_⟩ | refine go_ret ?_) <;> conv => whnf) | refine go_block ?_ | ((first | refine go_skip ?_ | refine go_exit ?_) <;> conv => whnf) | refine go_true rfl ?_ | refine go_false rfl ?_ | refine go_cond rfl (fun h => ?_) (fun h => ?_) | refine ⟨rfl, ?_⟩ | ((first | refine ⟨trivial, ?_⟩ | refine ⟨le_of_ble rfl, ?_⟩) <;> conv => whnf) | fail
      all_goals first
        | (refine go_next (z + 1) (by omega) (by omega) (ref_st id rfl ⟨⟨rfl, rfl⟩, rfl, ?_, next_i (by omega), trivial⟩ ⟨⟨rfl, wavs_imm _⟩, trivial⟩ (by simp) rfl (by simp))
           show AV.imm (.int .i64 (IntKind.i64.wrap (((zcnt m z : Nat) : Int) + bits .and .i64 ((m : Int).fdiv (2 ^ (min z 64))) 1))) = AV.imm _
           rw [hb, wrap_small (by split <;> omega) (by split <;> omega), hn]
           congr 2
           split <;> simp
           done)
        | (exfalso; simp at h; omega)
        | trace_state
    · have hz' : z = 10 := by omega
      subst hz'
      rw [hc]
      have hfare := c55 p hpf (jfCount n zs ls)
      have hr : jfR n zs p ls = fareR p (jfCount n zs ls) := by
        unfold jfR
        rw [hp]
        split
        · rfl
        · rename_i hn; unfold fareR; rw [if_neg hn]
      rw [hp, hr]
      repeat' first | refine go_seq ?_ | refine go_region ?_ | refine go_miss rfl rfl rfl ?_ | refine go_undef rfl rfl rfl ?_ | refine go_draw drawsOk ?_ | ((first | refine go_op rfl ?_ | refine go_nil ?_ | refine go_hit rfl rfl rfl ?_ | refine go_splitT rfl rfl rfl (fun h => ?_) (fun h => ?_) | refine go_splitF rfl rfl rfl (fun h => ?_) (fun h => ?_) | refine go_dop rfl ?_ | refine go_dhit rfl rfl ?_ | refine go_dmiss rfl rfl ?_ | refine go_dundef rfl rfl ?_ | refine go_dend (by kernel_rfl) ?_ | refine go_pickT rfl ?_ | refine go_pickF rfl ?_ | refine go_pick rfl (fun h => ?_) (fun h => ?_) | refine go_call [] (hfare) rfl rfl rfl rfl ?_) <;> conv => whnf) | ((first | refine go_dsplit2 rfl (fun h => ?_) (fun h => ?_) | refine go_loadB ?_ | refine ⟨by kernel_rfl, ?_⟩ | refine go_ret ?_) <;> conv => whnf) | refine go_block ?_ | ((first | refine go_skip ?_ | refine go_exit ?_) <;> conv => whnf) | refine go_true rfl ?_ | refine go_false rfl ?_ | refine go_cond rfl (fun h => ?_) (fun h => ?_) | refine ⟨rfl, ?_⟩ | ((first | refine ⟨trivial, ?_⟩ | refine ⟨le_of_ble rfl, ?_⟩) <;> conv => whnf) | fail
      all_goals first
        | exact ret_imm2 rfl rfl rfl rfl rfl rfl rfl rfl
        | (exfalso; simp at h; done)
        | trace_state
  | some l =>
    have hlt := lt_of_at hx
    have hr := row_at intsRow hx
    have hnx := legs_next (n := n) (zs := zs) hx
    have hm := legs_lt hz (ls.take i)
    have hl3 : ((l.map intRow).length : Int) = l.length := by rw [List.length_map]
    cases hg : legOk n l with
    | false =>
      have hal : ls.all (legOk n) = false := all_not hx hg
      have hp : jfOk n zs p ls = false := by unfold jfOk jfPre; rw [hal]; simp
      have hr0 : jfR n zs p ls = 0 := by unfold jfR; rw [hp]; rfl
      rw [hp, hr0]
      unfold legOk at hg
      by_cases h3 : l.length = 3
      · rw [decide_eq_true h3, Bool.true_and] at hg
        obtain ⟨a0, a1, a2⟩ := leg_at h3
        have hpl := c46 n (l.getD 0 0) (l.getD 1 0) (l.getD 2 0)
        rw [hg] at hpl
        have r0 : (l.map intRow)[((0 : Int)).toNat]? = some (intRow (l.getD 0 0)) := by rw [List.getElem?_map]; show Option.map intRow l[0]? = _; rw [a0]; rfl
        have r1 : (l.map intRow)[((1 : Int)).toNat]? = some (intRow (l.getD 1 0)) := by rw [List.getElem?_map]; show Option.map intRow l[1]? = _; rw [a1]; rfl
        have r2 : (l.map intRow)[((2 : Int)).toNat]? = some (intRow (l.getD 2 0)) := by rw [List.getElem?_map]; show Option.map intRow l[2]? = _; rw [a2]; rfl
        repeat' first | refine go_seq ?_ | refine go_region ?_ | refine go_miss rfl rfl rfl ?_ | refine go_undef rfl rfl rfl ?_ | refine go_draw drawsOk ?_ | ((first | refine go_op rfl ?_ | refine go_nil ?_ | refine go_hit rfl rfl rfl ?_ | refine go_splitT rfl rfl rfl (fun h => ?_) (fun h => ?_) | refine go_splitF rfl rfl rfl (fun h => ?_) (fun h => ?_) | refine go_dop rfl ?_ | refine go_dhit rfl rfl ?_ | refine go_dmiss rfl rfl ?_ | refine go_dundef rfl rfl ?_ | refine go_dend (by kernel_rfl) ?_ | refine go_pickT rfl ?_ | refine go_pickF rfl ?_ | refine go_pick rfl (fun h => ?_) (fun h => ?_) | refine go_call [] (hpl) rfl rfl rfl rfl ?_ | refine go_idx rfl rfl rfl rfl (by omega) hr rfl ?_ | refine go_idx rfl rfl rfl rfl (by omega) r0 rfl ?_ | refine go_idx rfl rfl rfl rfl (by omega) r1 rfl ?_ | refine go_idx rfl rfl rfl rfl (by omega) r2 rfl ?_) <;> conv => whnf) | ((first | refine go_dsplit2 rfl (fun h => ?_) (fun h => ?_) | refine go_loadB ?_ | refine ⟨by kernel_rfl, ?_⟩ | refine go_ret ?_) <;> conv => whnf) | refine go_block ?_ | ((first | refine go_skip ?_ | refine go_exit ?_) <;> conv => whnf) | refine go_true rfl ?_ | refine go_false rfl ?_ | refine go_cond rfl (fun h => ?_) (fun h => ?_) | refine ⟨rfl, ?_⟩ | ((first | refine ⟨trivial, ?_⟩ | refine ⟨le_of_ble rfl, ?_⟩) <;> conv => whnf) | fail
        all_goals first
          | exact ret_imm2 rfl rfl rfl rfl rfl rfl rfl rfl
          | (exfalso; simp at h; omega)
          | (exfalso; simp_all; done)
          | trace_state
      · skip
        repeat' first | refine go_seq ?_ | refine go_region ?_ | refine go_miss rfl rfl rfl ?_ | refine go_undef rfl rfl rfl ?_ | refine go_draw drawsOk ?_ | ((first | refine go_op rfl ?_ | refine go_nil ?_ | refine go_hit rfl rfl rfl ?_ | refine go_splitT rfl rfl rfl (fun h => ?_) (fun h => ?_) | refine go_splitF rfl rfl rfl (fun h => ?_) (fun h => ?_) | refine go_dop rfl ?_ | refine go_dhit rfl rfl ?_ | refine go_dmiss rfl rfl ?_ | refine go_dundef rfl rfl ?_ | refine go_dend (by kernel_rfl) ?_ | refine go_pickT rfl ?_ | refine go_pickF rfl ?_ | refine go_pick rfl (fun h => ?_) (fun h => ?_) | refine go_idx rfl rfl rfl rfl (by omega) hr rfl ?_) <;> conv => whnf) | ((first | refine go_dsplit2 rfl (fun h => ?_) (fun h => ?_) | refine go_loadB ?_ | refine ⟨by kernel_rfl, ?_⟩ | refine go_ret ?_) <;> conv => whnf) | refine go_block ?_ | ((first | refine go_skip ?_ | refine go_exit ?_) <;> conv => whnf) | refine go_true rfl ?_ | refine go_false rfl ?_ | refine go_cond rfl (fun h => ?_) (fun h => ?_) | refine ⟨rfl, ?_⟩ | ((first | refine ⟨trivial, ?_⟩ | refine ⟨le_of_ble rfl, ?_⟩) <;> conv => whnf) | fail
        all_goals first
          | exact ret_imm2 rfl rfl rfl rfl rfl rfl rfl rfl
          | (exfalso; simp at h; omega)
          | (exfalso; simp_all; done)
          | trace_state
    | true =>
      have hup' := all_next hx hup hg
      unfold legOk at hg
      simp only [Bool.and_eq_true, decide_eq_true_eq] at hg
      obtain ⟨h3, hg⟩ := hg
      obtain ⟨a0, a1, a2⟩ := leg_at h3
      have hpl := c46 n (l.getD 0 0) (l.getD 1 0) (l.getD 2 0)
      have hto := c47 n zs hz hf (l.getD 0 0) (l.getD 1 0) (l.getD 2 0) hg
      rw [hg] at hpl
      have r0 : (l.map intRow)[((0 : Int)).toNat]? = some (intRow (l.getD 0 0)) := by rw [List.getElem?_map]; show Option.map intRow l[0]? = _; rw [a0]; rfl
      have r1 : (l.map intRow)[((1 : Int)).toNat]? = some (intRow (l.getD 1 0)) := by rw [List.getElem?_map]; show Option.map intRow l[1]? = _; rw [a1]; rfl
      have r2 : (l.map intRow)[((2 : Int)).toNat]? = some (intRow (l.getD 2 0)) := by rw [List.getElem?_map]; show Option.map intRow l[2]? = _; rw [a2]; rfl
      have hzl2 : zadd 0 (legZ n zs l) < 1024 := zadd_lt _ _ (by omega) (partZ_in hz _ _ _)
      have hor := or_two hm hzl2
      rw [zadd_or, Nat.or_zero, ← hnx] at hor
      repeat' first | refine go_seq ?_ | refine go_region ?_ | refine go_miss rfl rfl rfl ?_ | refine go_undef rfl rfl rfl ?_ | refine go_draw drawsOk ?_ | ((first | refine go_op rfl ?_ | refine go_nil ?_ | refine go_hit rfl rfl rfl ?_ | refine go_splitT rfl rfl rfl (fun h => ?_) (fun h => ?_) | refine go_splitF rfl rfl rfl (fun h => ?_) (fun h => ?_) | refine go_dop rfl ?_ | refine go_dhit rfl rfl ?_ | refine go_dmiss rfl rfl ?_ | refine go_dundef rfl rfl ?_ | refine go_dend (by kernel_rfl) ?_ | refine go_pickT rfl ?_ | refine go_pickF rfl ?_ | refine go_pick rfl (fun h => ?_) (fun h => ?_) | refine go_call [] (hpl) rfl rfl rfl rfl ?_ | refine go_call [] (hto) rfl rfl rfl rfl ?_ | refine go_idx rfl rfl rfl rfl (by omega) hr rfl ?_ | refine go_idx rfl rfl rfl rfl (by omega) r0 rfl ?_ | refine go_idx rfl rfl rfl rfl (by omega) r1 rfl ?_ | refine go_idx rfl rfl rfl rfl (by omega) r2 rfl ?_) <;> conv => whnf) | ((first | refine go_dsplit2 rfl (fun h => ?_) (fun h => ?_) | refine go_loadB ?_ | refine ⟨by kernel_rfl, ?_⟩ | refine go_ret ?_) <;> conv => whnf) | refine go_block ?_ | ((first | refine go_skip ?_ | refine go_exit ?_) <;> conv => whnf) | refine go_true rfl ?_ | refine go_false rfl ?_ | refine go_cond rfl (fun h => ?_) (fun h => ?_) | refine ⟨rfl, ?_⟩ | ((first | refine ⟨trivial, ?_⟩ | refine ⟨le_of_ble rfl, ?_⟩) <;> conv => whnf) | fail
      all_goals first
        | (refine go_next (i + 1) ⟨by omega, hup'⟩ (by omega) (ref_st id rfl ⟨rfl, ⟨rfl, rfl⟩, ⟨rfl, rfl⟩, ?_, rfl, rfl, next_i (by omega), trivial⟩ ⟨⟨rfl, wavs_imm _⟩, ⟨rfl, wavs_imm _⟩, trivial⟩ (by simp) rfl (by simp))
           exact congrArg (fun x => AV.imm (.int .i64 x)) hor)
        | (exfalso; simp at h; omega)
        | (exfalso; simp_all; done)
        | trace_state
end Go.Proofs.Ytphoamcbapfbkaa

