/- Single fares, parts of lines in the reference. -/
import Derived.Test.YtphoamcbapfbkaaF3
import Derived.Test.YtphoamcbapfbkaaF4
namespace Go.Am
open Go
theorem ret_own2N {T : TypeId → Option TI} {fn : Func} {ins : List In} {r1 r2 : ResultVar} {id off len ty sz : Nat} {rows rows' : List (List D)} {d d' : D} {σ : S} (hr : fn.results.toList = [r1, r2]) (hm : mutIdx ins = []) (hp : σ.pm = []) (hv : retAV T σ r1 = .own id off len)
    (hmm : σ.m id = some (.arr ty sz rows')) (hd : (rows'.drop off).take len = rows) (hv2 : retAV T σ r2 = .imm d') (hd2 : d' = d) : retQ T fn ins { res := [.imm (.list rows), .imm d], sep := false } .ret σ := by
  subst hd
  refine ret_all (avs := [.own id off len, .imm d']) (by rw [hr]; simp only [List.map_cons, List.map_nil, hv, hv2]) ⟨?_, ⟨hd2, fun e => by cases e⟩, trivial⟩ (by simp [ownIds]) (by rw [hp]; exact List.nodup_nil) (by rw [hm, hp]; trivial)
  simp only [Ret1, hmm]
  exact ⟨trivial, (fun e => by cases e), by rw [hp]; simp⟩
theorem ret_imm2N {T : TypeId → Option TI} {fn : Func} {ins : List In} {r1 r2 : ResultVar} {a a' b b' : D} {σ : S} (hr : fn.results.toList = [r1, r2]) (hm : mutIdx ins = []) (hp : σ.pm = []) (h1 : retAV T σ r1 = .imm a') (h2 : retAV T σ r2 = .imm b') (ha : a' = a) (hb : b' = b) :
    retQ T fn ins { res := [.imm a, .imm b], sep := false } .ret σ :=
  ret_all (avs := [.imm a', .imm b']) (by rw [hr]; simp only [List.map_cons, List.map_nil, h1, h2]) ⟨⟨ha, fun e => by cases e⟩, ⟨hb, fun e => by cases e⟩, trivial⟩ (by simp [ownIds]) (by rw [hp]; exact List.nodup_nil) (by rw [hm, hp]; trivial)
end Go.Am
namespace Go.Proofs.Ytphoamcbapfbkaa
open Go Go.Am
set_option maxRecDepth 100000
set_option maxHeartbeats 4000000
attribute [local irreducible] amOps amC opCall opIndexAddr opPick retQ opMake opStore amDraw opAppend opLoad opNilCmp opIndex opSlice

theorem c69 (a b : Int) : CallOk Try.prog 69 [.imm (.int .i64 a), .imm (.int .i64 b)] { res := [.imm (.int .i64 (if a < b then a else b))] } := by
  refine callOk_of tyOk Try.func69 rfl rfl (le_of_ble rfl) (le_of_ble rfl) (mutOk_imm rfl _) ?_
  by_cases h1 : a < b
  · rw [if_pos h1]
    repeat' first | refine go_seq ?_ | refine go_region ?_ | ((first | refine go_op rfl ?_ | refine go_nil ?_) <;> conv => whnf) | ((first | refine ⟨by kernel_rfl, ?_⟩ | refine go_ret ?_) <;> conv => whnf) | ((first | refine go_skip ?_) <;> conv => whnf) | refine go_true rfl ?_ | refine go_false rfl ?_ | refine go_cond rfl (fun h => ?_) (fun h => ?_) | refine ⟨rfl, ?_⟩ | ((first | refine ⟨trivial, ?_⟩ | refine ⟨le_of_ble rfl, ?_⟩) <;> conv => whnf) | fail
    all_goals first
      | exact ret_imm rfl rfl rfl rfl rfl rfl
      | (exfalso; simp at h; omega)
  · rw [if_neg h1]
    repeat' first | refine go_seq ?_ | refine go_region ?_ | ((first | refine go_op rfl ?_ | refine go_nil ?_) <;> conv => whnf) | ((first | refine ⟨by kernel_rfl, ?_⟩ | refine go_ret ?_) <;> conv => whnf) | ((first | refine go_skip ?_) <;> conv => whnf) | refine go_true rfl ?_ | refine go_false rfl ?_ | refine go_cond rfl (fun h => ?_) (fun h => ?_) | refine ⟨rfl, ?_⟩ | ((first | refine ⟨trivial, ?_⟩ | refine ⟨le_of_ble rfl, ?_⟩) <;> conv => whnf) | fail
    all_goals first
      | exact ret_imm rfl rfl rfl rfl rfl rfl
      | (exfalso; simp at h; omega)

theorem c66 (p : Prices) (hf : p.fit) : CallOk Try.prog 66 [.imm (.agg p.enc)] { res := [.imm (.bool (prOk p))] } := by
  refine callOk_of tyOk Try.func66 rfl rfl (le_of_ble rfl) (le_of_ble rfl) (mutOk_imm rfl _) ?_
  have hzl : ((p.zones.map intRow).length : Int) = p.zones.length := by rw [List.length_map]
  have hlen : p.zones.length ≤ 1048576 := hf
  have h0 : CallOk Try.prog 53 [.imm (.int .i64 ((p.zones.map intRow).length : Int)), .imm (.int .i64 1), .imm (.int .i64 9)] { res := [.imm (.bool (inR p.zones.length 1 9))] } := by rw [hzl]; exact c53 _ 1 9
  have hd := c53 p.day 0 10000
  have hw := c53 p.week 0 10000
  repeat' first | refine go_seq ?_ | refine go_region ?_ | refine go_miss rfl rfl rfl ?_ | refine go_undef rfl rfl rfl ?_ | refine go_draw drawsOk ?_ | ((first | refine go_op rfl ?_ | refine go_nil ?_ | refine go_hit rfl rfl rfl ?_ | refine go_splitT rfl rfl rfl (fun h => ?_) (fun h => ?_) | refine go_splitF rfl rfl rfl (fun h => ?_) (fun h => ?_) | refine go_dop rfl ?_ | refine go_dhit rfl rfl ?_ | refine go_dmiss rfl rfl ?_ | refine go_dundef rfl rfl ?_ | refine go_dend (by kernel_rfl) ?_ | refine go_pickT rfl ?_ | refine go_pickF rfl ?_ | refine go_pick rfl (fun h => ?_) (fun h => ?_)) <;> conv => whnf) | ((first | refine go_dsplit2 rfl (fun h => ?_) (fun h => ?_) | refine go_loadB ?_ | refine ⟨by kernel_rfl, ?_⟩ | refine go_ret ?_) <;> conv => whnf) | refine go_block ?_ | ((first | refine go_skip ?_ | refine go_exit ?_) <;> conv => whnf) | refine go_true rfl ?_ | refine go_false rfl ?_ | refine go_cond rfl (fun h => ?_) (fun h => ?_) | refine ⟨rfl, ?_⟩ | ((first | refine ⟨trivial, ?_⟩ | refine ⟨le_of_ble rfl, ?_⟩) <;> conv => whnf) | fail
  refine go_loop (α := Nat) (fun i => i ≤ p.zones.length ∧ upI (prAt p.zones) p.zones i = true) (fun i => p.zones.length - i)
    (fun i => st Try.f66.ntmps [(1, .box 1000 0), (3, .imm (.int .i64 (i : Nat)))] [(1000, .box 47 (p.enc.map .imm))] []) 0 ⟨Nat.zero_le _, rfl⟩ ?_ ?_
  · exact ref_st (fun _ => nid 1 1) rfl ⟨⟨rfl, rfl⟩, rfl, trivial⟩ ⟨⟨rfl, wavs_imm _⟩, trivial⟩ (by simp) rfl (by simp)
  rintro i ⟨hi, hup⟩
  cases hx : p.zones[i]? with
  | none =>
    have hge := le_of_at hx
    have hall := allI_end hge hup
    have hp : prOk p = (inR p.zones.length 1 9 && inR p.day 0 10000 && inR p.week 0 10000) := by unfold prOk; rw [hall]; simp
    rw [hp]
    cases b1 : inR (p.zones.length : Int) 1 9 <;> cases b2 : inR p.day 0 10000 <;> rw [b1] at h0 <;> rw [b2] at hd <;>
    (
    repeat' first | refine go_seq ?_ | refine go_region ?_ | refine go_miss rfl rfl rfl ?_ | refine go_undef rfl rfl rfl ?_ | refine go_draw drawsOk ?_ | ((first | refine go_op rfl ?_ | refine go_nil ?_ | refine go_hit rfl rfl rfl ?_ | refine go_splitT rfl rfl rfl (fun h => ?_) (fun h => ?_) | refine go_splitF rfl rfl rfl (fun h => ?_) (fun h => ?_) | refine go_dop rfl ?_ | refine go_dhit rfl rfl ?_ | refine go_dmiss rfl rfl ?_ | refine go_dundef rfl rfl ?_ | refine go_dend (by kernel_rfl) ?_ | refine go_pickT rfl ?_ | refine go_pickF rfl ?_ | refine go_pick rfl (fun h => ?_) (fun h => ?_) | refine go_call [] (h0) rfl rfl rfl rfl ?_ | refine go_call [] (hd) rfl rfl rfl rfl ?_ | refine go_call [] (hw) rfl rfl rfl rfl ?_) <;> conv => whnf) | ((first | refine go_dsplit2 rfl (fun h => ?_) (fun h => ?_) | refine go_loadB ?_ | refine ⟨by kernel_rfl, ?_⟩ | refine go_ret ?_) <;> conv => whnf) | refine go_block ?_ | ((first | refine go_skip ?_ | refine go_exit ?_) <;> conv => whnf) | refine go_true rfl ?_ | refine go_false rfl ?_ | refine go_cond rfl (fun h => ?_) (fun h => ?_) | refine ⟨rfl, ?_⟩ | ((first | refine ⟨trivial, ?_⟩ | refine ⟨le_of_ble rfl, ?_⟩) <;> conv => whnf) | fail
    all_goals first
      | exact ret_imm rfl rfl rfl rfl rfl rfl
      | (exfalso; simp at h; omega)
      | trace_state
    )
  | some z =>
    have hlt := lt_of_at hx
    have hr := row_at intRow hx
    have hz := c53 z 0 10000
    cases hpz : prAt p.zones i z with
    | false =>
      have hp : prOk p = false := by unfold prOk; rw [allI_not hx hpz]; simp
      rw [hp]
      unfold prAt at hpz
      cases b1 : inR z 0 10000 with
      | false =>
        rw [b1] at hz
        repeat' first | refine go_seq ?_ | refine go_region ?_ | refine go_miss rfl rfl rfl ?_ | refine go_undef rfl rfl rfl ?_ | refine go_draw drawsOk ?_ | ((first | refine go_op rfl ?_ | refine go_nil ?_ | refine go_hit rfl rfl rfl ?_ | refine go_splitT rfl rfl rfl (fun h => ?_) (fun h => ?_) | refine go_splitF rfl rfl rfl (fun h => ?_) (fun h => ?_) | refine go_dop rfl ?_ | refine go_dhit rfl rfl ?_ | refine go_dmiss rfl rfl ?_ | refine go_dundef rfl rfl ?_ | refine go_dend (by kernel_rfl) ?_ | refine go_pickT rfl ?_ | refine go_pickF rfl ?_ | refine go_pick rfl (fun h => ?_) (fun h => ?_) | refine go_call [] (hz) rfl rfl rfl rfl ?_ | refine go_idx rfl rfl rfl rfl (by omega) hr rfl ?_) <;> conv => whnf) | ((first | refine go_dsplit2 rfl (fun h => ?_) (fun h => ?_) | refine go_loadB ?_ | refine ⟨by kernel_rfl, ?_⟩ | refine go_ret ?_) <;> conv => whnf) | refine go_block ?_ | ((first | refine go_skip ?_ | refine go_exit ?_) <;> conv => whnf) | refine go_true rfl ?_ | refine go_false rfl ?_ | refine go_cond rfl (fun h => ?_) (fun h => ?_) | refine ⟨rfl, ?_⟩ | ((first | refine ⟨trivial, ?_⟩ | refine ⟨le_of_ble rfl, ?_⟩) <;> conv => whnf) | fail
        all_goals first
          | exact ret_imm rfl rfl rfl rfl rfl rfl
          | (exfalso; simp at h; omega)
          | trace_state
      | true =>
        rw [b1] at hz hpz
        simp only [Bool.true_and, Bool.or_eq_false_iff, decide_eq_false_iff_not] at hpz
        obtain ⟨k, rfl⟩ : ∃ k, i = k + 1 := ⟨i - 1, by omega⟩
        have hk : p.zones[k]? = some (p.zones[k]'(by omega)) := List.getElem?_eq_getElem (by omega)
        generalize (p.zones[k]'(by omega)) = y at *
        have hy : ¬ y ≤ z := by
          have := hpz.2
          rw [Nat.add_sub_cancel, List.getD_eq_getElem?_getD, hk] at this
          exact this
        have e1 : IntKind.i64.wrap (((k + 1 : Nat) : Int) - 1) = ((k : Nat) : Int) := by rw [wrap_small (by omega) (by omega)]; omega
        have hrk : (p.zones.map intRow)[(IntKind.i64.wrap (((k + 1 : Nat) : Int) - 1)).toNat]? = some (intRow y) := by rw [e1]; exact row_at intRow hk
        repeat' first | refine go_seq ?_ | refine go_region ?_ | refine go_miss rfl rfl rfl ?_ | refine go_undef rfl rfl rfl ?_ | refine go_draw drawsOk ?_ | ((first | refine go_op rfl ?_ | refine go_nil ?_ | refine go_hit rfl rfl rfl ?_ | refine go_splitT rfl rfl rfl (fun h => ?_) (fun h => ?_) | refine go_splitF rfl rfl rfl (fun h => ?_) (fun h => ?_) | refine go_dop rfl ?_ | refine go_dhit rfl rfl ?_ | refine go_dmiss rfl rfl ?_ | refine go_dundef rfl rfl ?_ | refine go_dend (by kernel_rfl) ?_ | refine go_pickT rfl ?_ | refine go_pickF rfl ?_ | refine go_pick rfl (fun h => ?_) (fun h => ?_) | refine go_call [] (hz) rfl rfl rfl rfl ?_ | refine go_idx rfl rfl rfl rfl (by omega) hr rfl ?_ | refine go_idx rfl rfl rfl rfl (by rw [e1]; omega) hrk rfl ?_) <;> conv => whnf) | ((first | refine go_dsplit2 rfl (fun h => ?_) (fun h => ?_) | refine go_loadB ?_ | refine ⟨by kernel_rfl, ?_⟩ | refine go_ret ?_) <;> conv => whnf) | refine go_block ?_ | ((first | refine go_skip ?_ | refine go_exit ?_) <;> conv => whnf) | refine go_true rfl ?_ | refine go_false rfl ?_ | refine go_cond rfl (fun h => ?_) (fun h => ?_) | refine ⟨rfl, ?_⟩ | ((first | refine ⟨trivial, ?_⟩ | refine ⟨le_of_ble rfl, ?_⟩) <;> conv => whnf) | fail
        all_goals first
          | exact ret_imm rfl rfl rfl rfl rfl rfl
          | (exfalso; simp at h; omega)
          | (exfalso; simp_all; omega)
          | (exfalso; simp_all; done)
          | trace_state
    | true =>
      have hnx := upI_next hx hup hpz
      unfold prAt at hpz
      simp only [Bool.and_eq_true, Bool.or_eq_true, decide_eq_true_eq] at hpz
      rw [hpz.1] at hz
      by_cases hi0 : i = 0
      · subst hi0
        repeat' first | refine go_seq ?_ | refine go_region ?_ | refine go_miss rfl rfl rfl ?_ | refine go_undef rfl rfl rfl ?_ | refine go_draw drawsOk ?_ | ((first | refine go_op rfl ?_ | refine go_nil ?_ | refine go_hit rfl rfl rfl ?_ | refine go_splitT rfl rfl rfl (fun h => ?_) (fun h => ?_) | refine go_splitF rfl rfl rfl (fun h => ?_) (fun h => ?_) | refine go_dop rfl ?_ | refine go_dhit rfl rfl ?_ | refine go_dmiss rfl rfl ?_ | refine go_dundef rfl rfl ?_ | refine go_dend (by kernel_rfl) ?_ | refine go_pickT rfl ?_ | refine go_pickF rfl ?_ | refine go_pick rfl (fun h => ?_) (fun h => ?_) | refine go_call [] (hz) rfl rfl rfl rfl ?_ | refine go_idx rfl rfl rfl rfl (by omega) hr rfl ?_) <;> conv => whnf) | ((first | refine go_dsplit2 rfl (fun h => ?_) (fun h => ?_) | refine go_loadB ?_ | refine ⟨by kernel_rfl, ?_⟩ | refine go_ret ?_) <;> conv => whnf) | refine go_block ?_ | ((first | refine go_skip ?_ | refine go_exit ?_) <;> conv => whnf) | refine go_true rfl ?_ | refine go_false rfl ?_ | refine go_cond rfl (fun h => ?_) (fun h => ?_) | refine ⟨rfl, ?_⟩ | ((first | refine ⟨trivial, ?_⟩ | refine ⟨le_of_ble rfl, ?_⟩) <;> conv => whnf) | fail
        all_goals first
          | exact go_next 1 ⟨by omega, hnx⟩ (by omega) (ref_st id rfl ⟨⟨rfl, rfl⟩, next_i (by omega), trivial⟩ ⟨⟨rfl, wavs_imm _⟩, trivial⟩ (by simp) rfl (by simp))
          | (exfalso; simp at h; omega)
          | (exfalso; simp at h; rw [h] at hlt; cases hlt; done)
          | (exfalso; have h' := of_decide_eq_false h; rw [hzl] at h'; omega)
          | trace_state
      · obtain ⟨k, rfl⟩ : ∃ k, i = k + 1 := ⟨i - 1, by omega⟩
        have hk : p.zones[k]? = some (p.zones[k]'(by omega)) := List.getElem?_eq_getElem (by omega)
        generalize (p.zones[k]'(by omega)) = y at *
        have hy : y ≤ z := by
          rcases hpz.2 with h1 | h1
          · omega
          · rw [Nat.add_sub_cancel, List.getD_eq_getElem?_getD, hk] at h1
            exact h1
        have e1 : IntKind.i64.wrap (((k + 1 : Nat) : Int) - 1) = ((k : Nat) : Int) := by rw [wrap_small (by omega) (by omega)]; omega
        have hrk : (p.zones.map intRow)[(IntKind.i64.wrap (((k + 1 : Nat) : Int) - 1)).toNat]? = some (intRow y) := by rw [e1]; exact row_at intRow hk
        repeat' first | refine go_seq ?_ | refine go_region ?_ | refine go_miss rfl rfl rfl ?_ | refine go_undef rfl rfl rfl ?_ | refine go_draw drawsOk ?_ | ((first | refine go_op rfl ?_ | refine go_nil ?_ | refine go_hit rfl rfl rfl ?_ | refine go_splitT rfl rfl rfl (fun h => ?_) (fun h => ?_) | refine go_splitF rfl rfl rfl (fun h => ?_) (fun h => ?_) | refine go_dop rfl ?_ | refine go_dhit rfl rfl ?_ | refine go_dmiss rfl rfl ?_ | refine go_dundef rfl rfl ?_ | refine go_dend (by kernel_rfl) ?_ | refine go_pickT rfl ?_ | refine go_pickF rfl ?_ | refine go_pick rfl (fun h => ?_) (fun h => ?_) | refine go_call [] (hz) rfl rfl rfl rfl ?_ | refine go_idx rfl rfl rfl rfl (by omega) hr rfl ?_ | refine go_idx rfl rfl rfl rfl (by rw [e1]; omega) hrk rfl ?_) <;> conv => whnf) | ((first | refine go_dsplit2 rfl (fun h => ?_) (fun h => ?_) | refine go_loadB ?_ | refine ⟨by kernel_rfl, ?_⟩ | refine go_ret ?_) <;> conv => whnf) | refine go_block ?_ | ((first | refine go_skip ?_ | refine go_exit ?_) <;> conv => whnf) | refine go_true rfl ?_ | refine go_false rfl ?_ | refine go_cond rfl (fun h => ?_) (fun h => ?_) | refine ⟨rfl, ?_⟩ | ((first | refine ⟨trivial, ?_⟩ | refine ⟨le_of_ble rfl, ?_⟩) <;> conv => whnf) | fail
        all_goals first
          | exact go_next (k + 1 + 1) ⟨by omega, hnx⟩ (by omega) (ref_st id rfl ⟨⟨rfl, rfl⟩, next_i (by omega), trivial⟩ ⟨⟨rfl, wavs_imm _⟩, trivial⟩ (by simp) rfl (by simp))
          | (exfalso; simp at h; omega)
          | (exfalso; simp_all; omega)
          | (exfalso; simp_all; done)
          | trace_state

/-- The price for a number of zones. -/
def fareOk (p : Prices) (c : Nat) : Bool := prOk p && inR c 1 9
def fareR (p : Prices) (c : Nat) : Int := if fareOk p c then p.zones.getD (min c p.zones.length - 1) 0 else 0
theorem fare_at {p : Prices} {c : Nat} (h : fareOk p c = true) : 1 ≤ c ∧ c ≤ 9 ∧ 1 ≤ p.zones.length ∧ p.zones.length ≤ 9 ∧ p.zones[min c p.zones.length - 1]? = some (fareR p c) := by
  have h' := h
  unfold fareOk prOk at h
  simp only [Bool.and_eq_true, inR_iff] at h
  have h2 := h.1.1.1.2
  refine ⟨by omega, by omega, by omega, by omega, ?_⟩
  unfold fareR
  rw [if_pos h', List.getD_eq_getElem?_getD]
  have hlt : min c p.zones.length - 1 < p.zones.length := by omega
  rw [List.getElem?_eq_getElem hlt]
  rfl

theorem c55 (p : Prices) (hf : p.fit) (c : Nat) : CallOk Try.prog 55 [.imm (.agg p.enc), .imm (.int .i64 (c : Nat))] { res := [.imm (.int .i64 (fareR p c)), .imm (.bool (fareOk p c))] } := by
  refine callOk_of tyOk Try.func55 rfl rfl (le_of_ble rfl) (le_of_ble rfl) (mutOk_imm rfl _) ?_
  have h0 := c73 p hf
  have h1 := c88 (c : Int) 1 9
  have hzl : ((p.zones.map intRow).length : Int) = p.zones.length := by rw [List.length_map]
  cases hp : fareOk p c with
  | false =>
    have hr : fareR p c = 0 := by unfold fareR; rw [hp]; rfl
    rw [hr]
    unfold fareOk at hp
    cases b1 : prOk p <;> rw [b1] at h0 hp <;>
    (
    repeat' first | refine go_seq ?_ | refine go_region ?_ | refine go_miss rfl rfl rfl ?_ | refine go_undef rfl rfl rfl ?_ | ((first | refine go_op rfl ?_ | refine go_nil ?_ | refine go_hit rfl rfl rfl ?_ | refine go_splitT rfl rfl rfl (fun h => ?_) (fun h => ?_) | refine go_splitF rfl rfl rfl (fun h => ?_) (fun h => ?_) | refine go_pickT rfl ?_ | refine go_pickF rfl ?_ | refine go_pick rfl (fun h => ?_) (fun h => ?_) | refine go_call [] (h0) rfl rfl rfl rfl ?_ | refine go_call [] (h1) rfl rfl rfl rfl ?_) <;> conv => whnf) | ((first | refine go_loadB ?_ | refine ⟨by kernel_rfl, ?_⟩ | refine go_ret ?_) <;> conv => whnf) | ((first | refine go_skip ?_) <;> conv => whnf) | refine go_true rfl ?_ | refine go_false rfl ?_ | refine go_cond rfl (fun h => ?_) (fun h => ?_) | refine ⟨rfl, ?_⟩ | ((first | refine ⟨trivial, ?_⟩ | refine ⟨le_of_ble rfl, ?_⟩) <;> conv => whnf) | fail
    all_goals first
      | exact ret_imm2 rfl rfl rfl rfl rfl rfl rfl rfl
      | (exfalso; simp_all; done)
      | trace_state
    )
  | true =>
    obtain ⟨q1, q2, q3, q4, q5⟩ := fare_at hp
    have e1 : IntKind.i64.wrap ((if ((p.zones.map intRow).length : Int) < c then ((p.zones.map intRow).length : Int) else (c : Int)) - 1) = ((min c p.zones.length - 1 : Nat) : Int) := by
      rw [hzl, wrap_small (by split <;> omega) (by split <;> omega)]; split <;> omega
    have hr : (p.zones.map intRow)[(IntKind.i64.wrap ((if ((p.zones.map intRow).length : Int) < c then ((p.zones.map intRow).length : Int) else (c : Int)) - 1)).toNat]? = some (intRow (fareR p c)) := by rw [e1]; exact row_at intRow q5
    have h00 := e1.symm ▸ (Int.natCast_nonneg (min c p.zones.length - 1))
    unfold fareOk at hp
    simp only [Bool.and_eq_true] at hp
    rw [hp.1] at h0
    rw [hp.2] at h1
    repeat' first | refine go_seq ?_ | refine go_region ?_ | refine go_miss rfl rfl rfl ?_ | refine go_undef rfl rfl rfl ?_ | ((first | refine go_op rfl ?_ | refine go_nil ?_ | refine go_hit rfl rfl rfl ?_ | refine go_splitT rfl rfl rfl (fun h => ?_) (fun h => ?_) | refine go_splitF rfl rfl rfl (fun h => ?_) (fun h => ?_) | refine go_pickT rfl ?_ | refine go_pickF rfl ?_ | refine go_pick rfl (fun h => ?_) (fun h => ?_) | refine go_call [] (h0) rfl rfl rfl rfl ?_ | refine go_call [] (h1) rfl rfl rfl rfl ?_ | refine go_idx rfl rfl rfl rfl h00 hr rfl ?_) <;> conv => whnf) | ((first | refine go_loadB ?_ | refine ⟨by kernel_rfl, ?_⟩ | refine go_ret ?_) <;> conv => whnf) | ((first | refine go_skip ?_) <;> conv => whnf) | refine go_true rfl ?_ | refine go_false rfl ?_ | refine go_cond rfl (fun h => ?_) (fun h => ?_) | refine ⟨rfl, ?_⟩ | ((first | refine ⟨trivial, ?_⟩ | refine ⟨le_of_ble rfl, ?_⟩) <;> conv => whnf) | fail
    all_goals first
      | exact ret_imm2 rfl rfl rfl rfl rfl rfl rfl rfl
      | trace_state

theorem c54 (p : Prices) (hf : p.fit) (c : Nat) : CallOk Try.prog 54 [.imm (.agg p.enc), .imm (.int .i64 (c : Nat))] { res := [.imm (.int .i64 (fareR p c)), .imm (.bool (fareOk p c))] } := by
  refine callOk_of tyOk Try.func54 rfl rfl (le_of_ble rfl) (le_of_ble rfl) (mutOk_imm rfl _) ?_
  have h0 := c66 p hf
  have h1 := c53 (c : Int) 1 9
  have hzl : ((p.zones.map intRow).length : Int) = p.zones.length := by rw [List.length_map]
  cases hp : fareOk p c with
  | false =>
    have hr : fareR p c = 0 := by unfold fareR; rw [hp]; rfl
    rw [hr]
    unfold fareOk at hp
    cases b1 : prOk p <;> rw [b1] at h0 hp <;>
    (
    repeat' first | refine go_seq ?_ | refine go_region ?_ | refine go_miss rfl rfl rfl ?_ | refine go_undef rfl rfl rfl ?_ | refine go_draw drawsOk ?_ | ((first | refine go_op rfl ?_ | refine go_nil ?_ | refine go_hit rfl rfl rfl ?_ | refine go_splitT rfl rfl rfl (fun h => ?_) (fun h => ?_) | refine go_splitF rfl rfl rfl (fun h => ?_) (fun h => ?_) | refine go_dop rfl ?_ | refine go_dhit rfl rfl ?_ | refine go_dmiss rfl rfl ?_ | refine go_dundef rfl rfl ?_ | refine go_dend (by kernel_rfl) ?_ | refine go_pickT rfl ?_ | refine go_pickF rfl ?_ | refine go_pick rfl (fun h => ?_) (fun h => ?_) | refine go_call [] (h0) rfl rfl rfl rfl ?_ | refine go_call [] (h1) rfl rfl rfl rfl ?_) <;> conv => whnf) | ((first | refine go_dsplit2 rfl (fun h => ?_) (fun h => ?_) | refine go_loadB ?_ | refine ⟨by kernel_rfl, ?_⟩ | refine go_ret ?_) <;> conv => whnf) | ((first | refine go_skip ?_) <;> conv => whnf) | refine go_true rfl ?_ | refine go_false rfl ?_ | refine go_cond rfl (fun h => ?_) (fun h => ?_) | refine ⟨rfl, ?_⟩ | ((first | refine ⟨trivial, ?_⟩ | refine ⟨le_of_ble rfl, ?_⟩) <;> conv => whnf) | fail
    all_goals first
      | exact ret_imm2 rfl rfl rfl rfl rfl rfl rfl rfl
      | (exfalso; simp_all; done)
      | trace_state
    )
  | true =>
    obtain ⟨q1, q2, q3, q4, q5⟩ := fare_at hp
    have e1 : IntKind.i64.wrap ((if (c : Int) < ((p.zones.map intRow).length : Int) then (c : Int) else ((p.zones.map intRow).length : Int)) - 1) = ((min c p.zones.length - 1 : Nat) : Int) := by
      rw [hzl, wrap_small (by split <;> omega) (by split <;> omega)]; split <;> omega
    have hr : (p.zones.map intRow)[(IntKind.i64.wrap ((if (c : Int) < ((p.zones.map intRow).length : Int) then (c : Int) else ((p.zones.map intRow).length : Int)) - 1)).toNat]? = some (intRow (fareR p c)) := by rw [e1]; exact row_at intRow q5
    have h2 := c69 (c : Int) ((p.zones.map intRow).length : Int)
    have h00 := e1.symm ▸ (Int.natCast_nonneg (min c p.zones.length - 1))
    unfold fareOk at hp
    simp only [Bool.and_eq_true] at hp
    rw [hp.1] at h0
    rw [hp.2] at h1
    repeat' first | refine go_seq ?_ | refine go_region ?_ | refine go_miss rfl rfl rfl ?_ | refine go_undef rfl rfl rfl ?_ | refine go_draw drawsOk ?_ | ((first | refine go_op rfl ?_ | refine go_nil ?_ | refine go_hit rfl rfl rfl ?_ | refine go_splitT rfl rfl rfl (fun h => ?_) (fun h => ?_) | refine go_splitF rfl rfl rfl (fun h => ?_) (fun h => ?_) | refine go_dop rfl ?_ | refine go_dhit rfl rfl ?_ | refine go_dmiss rfl rfl ?_ | refine go_dundef rfl rfl ?_ | refine go_dend (by kernel_rfl) ?_ | refine go_pickT rfl ?_ | refine go_pickF rfl ?_ | refine go_pick rfl (fun h => ?_) (fun h => ?_) | refine go_call [] (h0) rfl rfl rfl rfl ?_ | refine go_call [] (h1) rfl rfl rfl rfl ?_ | refine go_call [] (h2) rfl rfl rfl rfl ?_ | refine go_idx rfl rfl rfl rfl h00 hr rfl ?_) <;> conv => whnf) | ((first | refine go_dsplit2 rfl (fun h => ?_) (fun h => ?_) | refine go_loadB ?_ | refine ⟨by kernel_rfl, ?_⟩ | refine go_ret ?_) <;> conv => whnf) | ((first | refine go_skip ?_) <;> conv => whnf) | refine go_true rfl ?_ | refine go_false rfl ?_ | refine go_cond rfl (fun h => ?_) (fun h => ?_) | refine ⟨rfl, ?_⟩ | ((first | refine ⟨trivial, ?_⟩ | refine ⟨le_of_ble rfl, ?_⟩) <;> conv => whnf) | fail
    all_goals first
      | exact ret_imm2 rfl rfl rfl rfl rfl rfl rfl rfl
      | trace_state

theorem zmem_asc (m : Nat) : asc (zmem m) := by
  unfold asc zmem
  rw [List.pairwise_map]
  refine List.Pairwise.imp ?_ (List.Pairwise.filter _ List.pairwise_lt_range)
  intro a b h
  omega
theorem zmem_le (m : Nat) : (zmem m).length ≤ 10 := by rw [zmem_len]; exact zcnt_le m 10

theorem c42 (n : Network) (zs : List Int) (hz : zonesOk n zs = true) (hf : n.fit) (m : Nat) (hm : m < 1024) (line a b : Int) : CallOk Try.prog 42 [.imm (.agg n.enc), .imm (.list (zs.map intRow)), .imm (.list ((zmem m).map intRow)), .imm (.int .i64 line), .imm (.int .i64 a), .imm (.int .i64 b)] { res := [.imm (.list ((if partOk n line a b then zmem (zadd m (partZ n zs line a b)) else []).map intRow)), .imm (.bool (partOk n line a b))], sep := false } := by
  refine callOk_of tyOk Try.func42 rfl rfl (le_of_ble rfl) (le_of_ble rfl) (mutOk_imm rfl _) ?_
  have hnl : n.lines.length ≤ 1048576 := hf.2.2.1
  have e1 : IntKind.i64.wrap (((n.lines.map Line.enc).length : Int) - 1) = (n.lines.length : Int) - 1 := by rw [List.length_map, wrap_small (by omega) (by omega)]
  have h1 : CallOk Try.prog 53 [.imm (.int .i64 line), .imm (.int .i64 0), .imm (.int .i64 (IntKind.i64.wrap (((n.lines.map Line.enc).length : Int) - 1)))] { res := [.imm (.bool (inR line 0 ((n.lines.length : Int) - 1)))] } := by rw [e1]; exact c53 _ _ _
  have h3 := c53 a 0 b
  cases b1 : inR line 0 ((n.lines.length : Int) - 1) with
  | false =>
    have hp : partOk n line a b = false := by
      unfold partOk
      split
      · rename_i l hL
        have := lt_of_at hL
        have hb : ¬ (0 ≤ line ∧ line ≤ (n.lines.length : Int) - 1) := fun h => by rw [(inR_iff _ _ _).2 h] at b1; cases b1
        have : ¬ 0 ≤ line := fun h => hb ⟨h, by omega⟩
        simp [this]
      · rfl
    rw [b1] at h1
    rw [hp]
    repeat' first | refine go_seq ?_ | refine go_region ?_ | refine go_miss rfl rfl rfl ?_ | refine go_undef rfl rfl rfl ?_ | ((first | refine go_op rfl ?_ | refine go_nil ?_ | refine go_hit rfl rfl rfl ?_ | refine go_splitT rfl rfl rfl (fun h => ?_) (fun h => ?_) | refine go_splitF rfl rfl rfl (fun h => ?_) (fun h => ?_) | refine go_pickT rfl ?_ | refine go_pickF rfl ?_ | refine go_pick rfl (fun h => ?_) (fun h => ?_) | refine go_call [] (h1) rfl rfl rfl rfl ?_) <;> conv => whnf) | ((first | refine go_loadB ?_ | refine ⟨by kernel_rfl, ?_⟩ | refine go_ret ?_) <;> conv => whnf) | refine go_block ?_ | ((first | refine go_skip ?_ | refine go_exit ?_) <;> conv => whnf) | refine go_true rfl ?_ | refine go_false rfl ?_ | refine go_cond rfl (fun h => ?_) (fun h => ?_) | refine ⟨rfl, ?_⟩ | ((first | refine ⟨trivial, ?_⟩ | refine ⟨le_of_ble rfl, ?_⟩) <;> conv => whnf) | fail
    all_goals first
      | exact ret_own2N rfl rfl rfl rfl rfl rfl rfl rfl
      | trace_state
  | true =>
    have q1 := (inR_iff _ _ _).1 b1
    obtain ⟨k, rfl⟩ := Int.eq_ofNat_of_zero_le q1.1
    have hL : n.lines[k]? = some (n.lines[k]'(by omega)) := List.getElem?_eq_getElem (by omega)
    generalize (n.lines[k]'(by omega)) = l at *
    have hr := row_at Line.enc hL
    have hll : l.stops.length ≤ 1048576 := (hf.2.2.2 l (List.mem_of_getElem? hL)).2.1
    have e2 : IntKind.i64.wrap (((l.stops.map intRow).length : Int) - 1) = (l.stops.length : Int) - 1 := by rw [List.length_map, wrap_small (by omega) (by omega)]
    have h2 : CallOk Try.prog 53 [.imm (.int .i64 b), .imm (.int .i64 0), .imm (.int .i64 (IntKind.i64.wrap (((l.stops.map intRow).length : Int) - 1)))] { res := [.imm (.bool (inR b 0 ((l.stops.length : Int) - 1)))] } := by rw [e2]; exact c53 _ _ _
    have hp : partOk n k a b = (inR b 0 ((l.stops.length : Int) - 1) && inR a 0 b) := by
      unfold partOk
      rw [Int.toNat_natCast, hL]
      rw [Bool.eq_iff_iff]
      simp only [Bool.and_eq_true, decide_eq_true_eq, inR_iff]
      omega
    rw [b1] at h1
    cases b2 : inR b 0 ((l.stops.length : Int) - 1) with
    | false =>
      rw [b2] at h2 hp
      rw [hp]
      repeat' first | refine go_seq ?_ | refine go_region ?_ | refine go_miss rfl rfl rfl ?_ | refine go_undef rfl rfl rfl ?_ | ((first | refine go_op rfl ?_ | refine go_nil ?_ | refine go_hit rfl rfl rfl ?_ | refine go_splitT rfl rfl rfl (fun h => ?_) (fun h => ?_) | refine go_splitF rfl rfl rfl (fun h => ?_) (fun h => ?_) | refine go_pickT rfl ?_ | refine go_pickF rfl ?_ | refine go_pick rfl (fun h => ?_) (fun h => ?_) | refine go_call [] (h1) rfl rfl rfl rfl ?_ | refine go_call [] (h2) rfl rfl rfl rfl ?_ | refine go_idx rfl rfl rfl rfl (by omega) hr rfl ?_) <;> conv => whnf) | ((first | refine go_loadB ?_ | refine ⟨by kernel_rfl, ?_⟩ | refine go_ret ?_) <;> conv => whnf) | refine go_block ?_ | ((first | refine go_skip ?_ | refine go_exit ?_) <;> conv => whnf) | refine go_true rfl ?_ | refine go_false rfl ?_ | refine go_cond rfl (fun h => ?_) (fun h => ?_) | refine ⟨rfl, ?_⟩ | ((first | refine ⟨trivial, ?_⟩ | refine ⟨le_of_ble rfl, ?_⟩) <;> conv => whnf) | fail
      all_goals first
        | exact ret_own2N rfl rfl rfl rfl rfl rfl rfl rfl
        | trace_state
    | true =>
      rw [b2] at h2 hp
      cases b3 : inR a 0 b with
      | false =>
        rw [b3] at h3 hp
        rw [hp]
        repeat' first | refine go_seq ?_ | refine go_region ?_ | refine go_miss rfl rfl rfl ?_ | refine go_undef rfl rfl rfl ?_ | ((first | refine go_op rfl ?_ | refine go_nil ?_ | refine go_hit rfl rfl rfl ?_ | refine go_splitT rfl rfl rfl (fun h => ?_) (fun h => ?_) | refine go_splitF rfl rfl rfl (fun h => ?_) (fun h => ?_) | refine go_pickT rfl ?_ | refine go_pickF rfl ?_ | refine go_pick rfl (fun h => ?_) (fun h => ?_) | refine go_call [] (h1) rfl rfl rfl rfl ?_ | refine go_call [] (h2) rfl rfl rfl rfl ?_ | refine go_call [] (h3) rfl rfl rfl rfl ?_ | refine go_idx rfl rfl rfl rfl (by omega) hr rfl ?_) <;> conv => whnf) | ((first | refine go_loadB ?_ | refine ⟨by kernel_rfl, ?_⟩ | refine go_ret ?_) <;> conv => whnf) | refine go_block ?_ | ((first | refine go_skip ?_ | refine go_exit ?_) <;> conv => whnf) | refine go_true rfl ?_ | refine go_false rfl ?_ | refine go_cond rfl (fun h => ?_) (fun h => ?_) | refine ⟨rfl, ?_⟩ | ((first | refine ⟨trivial, ?_⟩ | refine ⟨le_of_ble rfl, ?_⟩) <;> conv => whnf) | fail
        all_goals first
          | exact ret_own2N rfl rfl rfl rfl rfl rfl rfl rfl
          | trace_state
      | true =>
        rw [b3] at h3 hp
        rw [hp]
        have q2 := (inR_iff _ _ _).1 b2
        have q3 := (inR_iff _ _ _).1 b3
        have hPin := partZ_in hz (k : Int) a b
        have hPd : partZ n zs (k : Int) a b = ((l.stops.drop a.toNat).take (b.toNat + 1 - a.toNat)).map fun s => zs.getD s.toNat 0 := by unfold partZ; rw [Int.toNat_natCast, hL]
        generalize partZ n zs (k : Int) a b = Z at *
        obtain ⟨i, rfl⟩ := Int.eq_ofNat_of_zero_le q3.1
        obtain ⟨j, rfl⟩ := Int.eq_ofNat_of_zero_le q2.1
        simp only [Int.toNat_natCast] at hPd
        have hZl : Z.length = j + 1 - i := by rw [hPd, List.length_map, List.length_take, List.length_drop]; omega
        rw [if_pos (by rfl)]
        repeat' first | refine go_seq ?_ | refine go_region ?_ | refine go_miss rfl rfl rfl ?_ | refine go_undef rfl rfl rfl ?_ | ((first | refine go_op rfl ?_ | refine go_nil ?_ | refine go_hit rfl rfl rfl ?_ | refine go_splitT rfl rfl rfl (fun h => ?_) (fun h => ?_) | refine go_splitF rfl rfl rfl (fun h => ?_) (fun h => ?_) | refine go_pickT rfl ?_ | refine go_pickF rfl ?_ | refine go_pick rfl (fun h => ?_) (fun h => ?_) | refine go_call [] (h1) rfl rfl rfl rfl ?_ | refine go_call [] (h2) rfl rfl rfl rfl ?_ | refine go_call [] (h3) rfl rfl rfl rfl ?_ | refine go_idx rfl rfl rfl rfl (by omega) hr rfl ?_) <;> conv => whnf) | ((first | refine go_loadB ?_ | refine ⟨by kernel_rfl, ?_⟩ | refine go_ret ?_) <;> conv => whnf) | refine go_block ?_ | ((first | refine go_skip ?_ | refine go_exit ?_) <;> conv => whnf) | refine go_true rfl ?_ | refine go_false rfl ?_ | refine go_cond rfl (fun h => ?_) (fun h => ?_) | refine ⟨rfl, ?_⟩ | ((first | refine ⟨trivial, ?_⟩ | refine ⟨le_of_ble rfl, ?_⟩) <;> conv => whnf) | fail
        refine go_loop (α := Nat) (fun q => q ≤ Z.length) (fun q => Z.length - q)
          (fun q => st Try.f42.ntmps [(1, .imm (.list (zs.map intRow))), (2, .imm (.list ((zmem (zadd m (Z.take q))).map intRow))), (3, .imm (.int .i64 (k : Nat))), (5, .imm (.int .i64 (j : Nat))), (6, .box 1000 0), (14, .imm (.int .i64 ((i + q : Nat) : Int)))]
            [(1000, .box 32 (n.enc.map .imm))] []) 0 (Nat.zero_le _) ?_ ?_
        · exact ref_st (fun _ => nid 1 6) rfl ⟨rfl, rfl, rfl, rfl, ⟨rfl, rfl⟩, rfl, trivial⟩ ⟨⟨rfl, wavs_imm _⟩, trivial⟩ (by simp) rfl (by simp)
        intro q hq
        cases hx : Z[q]? with
        | none =>
          have hge := le_of_at hx
          rw [List.take_of_length_le (by omega)]
          repeat' first | refine go_seq ?_ | refine go_region ?_ | refine go_miss rfl rfl rfl ?_ | refine go_undef rfl rfl rfl ?_ | ((first | refine go_op rfl ?_ | refine go_nil ?_ | refine go_hit rfl rfl rfl ?_ | refine go_splitT rfl rfl rfl (fun h => ?_) (fun h => ?_) | refine go_splitF rfl rfl rfl (fun h => ?_) (fun h => ?_) | refine go_pickT rfl ?_ | refine go_pickF rfl ?_ | refine go_pick rfl (fun h => ?_) (fun h => ?_)) <;> conv => whnf) | ((first | refine go_loadB ?_ | refine ⟨by kernel_rfl, ?_⟩ | refine go_ret ?_) <;> conv => whnf) | refine go_block ?_ | ((first | refine go_skip ?_ | refine go_exit ?_) <;> conv => whnf) | refine go_true rfl ?_ | refine go_false rfl ?_ | refine go_cond rfl (fun h => ?_) (fun h => ?_) | refine ⟨rfl, ?_⟩ | ((first | refine ⟨trivial, ?_⟩ | refine ⟨le_of_ble rfl, ?_⟩) <;> conv => whnf) | fail
          all_goals first
            | exact ret_imm2N rfl rfl rfl rfl rfl rfl rfl
            | (exfalso; simp at h; omega)
            | trace_state
        | some z =>
          have hlt := lt_of_at hx
          have hsx : ∃ s, l.stops[i + q]? = some s ∧ zs.getD s.toNat 0 = z := by
            rw [hPd, List.getElem?_map, List.getElem?_take, if_pos (by omega), List.getElem?_drop] at hx
            obtain ⟨s, hs, rfl⟩ := Option.map_eq_some_iff.1 hx
            exact ⟨s, hs, rfl⟩
          obtain ⟨s, hs, hzs⟩ := hsx
          obtain ⟨hs0, z', hz1, hz2⟩ := zones_at hz hL (List.mem_of_getElem? hs)
          have : z' = z := by rw [List.getD_eq_getElem?_getD, hz1] at hzs; exact hzs
          subst this
          have hr1 := row_at intRow hs
          have hr2 : (zs.map intRow)[s.toNat]? = some (intRow z') := by rw [List.getElem?_map, hz1]; rfl
          have hlo : zadd m (Z.take q) < 1024 := zadd_lt _ _ hm fun x hx => hPin x (List.mem_of_mem_take hx)
          have hpz := put_zmem hlo hz2
          rw [← zadd_next m hx] at hpz
          have hc := c82 (zmem (zadd m (Z.take q))) (zmem_asc _) z' (Nat.le_trans (zmem_le _) (by omega))
          rw [hpz] at hc
          repeat' first | refine go_seq ?_ | refine go_region ?_ | refine go_miss rfl rfl rfl ?_ | refine go_undef rfl rfl rfl ?_ | ((first | refine go_op rfl ?_ | refine go_nil ?_ | refine go_hit rfl rfl rfl ?_ | refine go_splitT rfl rfl rfl (fun h => ?_) (fun h => ?_) | refine go_splitF rfl rfl rfl (fun h => ?_) (fun h => ?_) | refine go_pickT rfl ?_ | refine go_pickF rfl ?_ | refine go_pick rfl (fun h => ?_) (fun h => ?_) | refine go_call [] (hc) rfl rfl rfl rfl ?_ | refine go_idx rfl rfl rfl rfl (by omega) hr rfl ?_ | refine go_idx rfl rfl rfl rfl (by omega) hr1 rfl ?_ | refine go_idx rfl rfl rfl rfl hs0 hr2 rfl ?_) <;> conv => whnf) | ((first | refine go_loadB ?_ | refine ⟨by kernel_rfl, ?_⟩ | refine go_ret ?_) <;> conv => whnf) | refine go_block ?_ | ((first | refine go_skip ?_ | refine go_exit ?_) <;> conv => whnf) | refine go_true rfl ?_ | refine go_false rfl ?_ | refine go_cond rfl (fun h => ?_) (fun h => ?_) | refine ⟨rfl, ?_⟩ | ((first | refine ⟨trivial, ?_⟩ | refine ⟨le_of_ble rfl, ?_⟩) <;> conv => whnf) | fail
          all_goals first
            | exact go_next (q + 1) (by omega) (by omega) (ref_st id rfl ⟨rfl, rfl, rfl, rfl, ⟨rfl, rfl⟩, next_i (by omega), trivial⟩ ⟨⟨rfl, wavs_imm _⟩, trivial⟩ (by simp) rfl (by simp))
            | (exfalso; simp at h; omega)
            | trace_state
end Go.Proofs.Ytphoamcbapfbkaa

