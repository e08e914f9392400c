/- Trips that overtake each other: the reference's list, and the law. -/
import Derived.Test.YtingoclokmcmhaaO3
namespace Go.Proofs.Ytingoclokmcmhaa
open Go Go.Am
set_option maxRecDepth 100000
set_option maxHeartbeats 8000000
attribute [local irreducible] amOps amC opCall opIndexAddr opPick retQ opMake opStore amDraw opAppend opLoad opNilCmp opIndex opSlice xQ

section
variable {T : TypeId → Option TI}
theorem ret_ownN2 {fn : Func} {ins : List In} {rv rv2 : ResultVar} {id off len ty sz : Nat} {rows rows' : List (List D)} {d d' : D} {σ : S} (hr : fn.results.toList = [rv, rv2]) (hm : mutIdx ins = []) (hp : σ.pm = []) (hv : retAV T σ rv = .own id off len) (hmm : σ.m id = some (.arr ty sz rows'))
    (hd : (rows'.drop off).take len = rows) (hv2 : retAV T σ rv2 = .imm d') (hd2 : d' = d) : retQ T fn ins { res := [.imm (.list rows), .imm d], sep := false } .ret σ := by
  subst hd hd2
  refine ret_all (avs := [.own id off len, .imm d']) (by rw [hr]; simp only [List.map_cons, List.map_nil, hv, hv2]) ⟨?_, ⟨rfl, fun e => by cases e⟩, trivial⟩ (by simp [ownIds]) (by rw [hp]; exact List.nodup_nil) (by rw [hm, hp]; trivial)
  simp only [Ret1, hmm]
  exact ⟨trivial, (fun e => by cases e), by rw [hp]; simp⟩
end

theorem dep_facts {t : Timetable} {ds : List TripDelay} {stop : Int} {i : Nat} {x : Trip} {l : Line} (hg : Good t i x l) {d : Dep} (hd : depOf t ds stop x = some d) : 0 ≤ d.time ∧ d.trip = x ∧ d.delay = delOf ds x.id := by
  have hd' := hd
  unfold depOf at hd'
  rw [hg.on.ln] at hd'
  simp only at hd'
  split at hd'
  · rename_i hgo
    injection hd' with hd'
    subst hd'
    simp only [goes, Bool.and_eq_true, decide_eq_true_eq] at hgo
    have := hg.rs
    have := hg.r5
    refine ⟨?_, rfl, rfl⟩
    show 0 ≤ stopAt x l (plAt l stop).toNat
    rw [hg.at _ (by omega)]
    have := hg.bd (plAt l stop).toNat (by omega)
    have := (inR_iff _ _ _).1 hg.st
    omega
  · cases hd'
def ovO (o : Option Dep) (l : List Dep) : List (List Int) := match o with | some a => ovQ a l | none => []
theorem ovO_next (o : Option Dep) {t : Timetable} {ds : List TripDelay} {stop : Int} {k : Nat} {y : Trip} (h : t.trips[k]? = some y) :
    ovO o (depsN t ds stop (k + 1)) = ovO o (depsN t ds stop k) ++ (match o, depOf t ds stop y with | some a, some b => if pairOv a b then [[a.trip.id, b.trip.id]] else [] | _, _ => []) := by
  rw [depsN_next ds stop h]
  cases o with
  | none => rfl
  | some a =>
    unfold ovO ovQ
    cases hy : depOf t ds stop y with
    | none => simp
    | some b =>
      simp only [List.filter_append, List.map_append]
      congr 1
      cases hp : pairOv a b <;> simp [hp]
theorem ovN_next (all : List Dep) {t : Timetable} {ds : List TripDelay} {stop : Int} {i : Nat} {x : Trip} (h : t.trips[i]? = some x) : ovP all (depsN t ds stop (i + 1)) = ovP all (depsN t ds stop i) ++ ovO (depOf t ds stop x) all := by
  rw [depsN_next ds stop h]
  unfold ovP
  cases hx : depOf t ds stop x <;> simp [ovO]
theorem ovO_len (o : Option Dep) (l : List Dep) : (ovO o l).length ≤ l.length := by
  cases o with
  | none => simp [ovO]
  | some a => exact ovQ_len a l

theorem c6 (t : Timetable) (hf : t.fit) (ds : List TripDelay) (hl : ds.length ≤ 1048576) (stop : Int) :
    CallOk Try.prog 6 [.imm (.agg t.enc), .imm (.list (ds.map TripDelay.enc)), .imm (.int .i64 stop)] { res := [.imm (.list ((ovR t ds stop).map intsRow)), .imm (.bool (ovOk t ds stop))], sep := false } := by
  refine callOk_of tyOk Try.func6 rfl rfl (le_of_ble rfl) (le_of_ble rfl) (mutOk_imm rfl _) ?_
  have hc0 := c19 t hf ds hl stop
  change CallOk _ _ _ { res := [.imm (.bool (ovOk t ds stop))] } at hc0
  cases hok : ovOk t ds stop with
  | false =>
    have e1 : ovR t ds stop = [] := by unfold ovR; rw [hok]; rfl
    rw [e1]
    rw [hok] at hc0
    repeat' first | refine go_seq ?_ | refine go_region ?_ | refine go_miss rfl rfl rfl ?_ | refine go_undef rfl rfl rfl ?_ | refine go_draw drawsOk ?_ | ((first | refine go_op rfl ?_ | refine go_nil ?_ | refine go_hit rfl rfl rfl ?_ | refine go_splitT rfl rfl rfl (fun h => ?_) (fun h => ?_) | refine go_splitF rfl rfl rfl (fun h => ?_) (fun h => ?_) | refine go_dop rfl ?_ | refine go_dhit rfl rfl ?_ | refine go_dmiss rfl rfl ?_ | refine go_dundef rfl rfl ?_ | refine go_dend (by kernel_rfl) ?_ | refine go_pickT rfl ?_ | refine go_pickF rfl ?_ | refine go_pick rfl (fun h => ?_) (fun h => ?_) | refine go_call [] (hc0) rfl rfl rfl rfl ?_) <;> conv => whnf) | ((first | refine go_dsplit2 rfl (fun h => ?_) (fun h => ?_) | refine go_loadB ?_ | refine ⟨by kernel_rfl, ?_⟩ | refine go_ret ?_) <;> conv => whnf) | refine go_block ?_ | ((first | refine go_skip ?_ | refine go_exit ?_) <;> conv => whnf) | refine go_true rfl ?_ | refine go_false rfl ?_ | refine go_cond rfl (fun h => ?_) (fun h => ?_) | refine ⟨rfl, ?_⟩ | ((first | refine ⟨trivial, ?_⟩ | refine ⟨le_of_ble rfl, ?_⟩) <;> conv => whnf) | fail
    all_goals first
      | exact ret_ownN2 rfl rfl rfl rfl rfl rfl rfl rfl
      | (exfalso; simp at h; done)
      | trace_state
  | true =>
    have e1 : ovR t ds stop = ovP (deps t ds stop) (deps t ds stop) := by unfold ovR; rw [hok]; rfl
    rw [e1]
    obtain ⟨htt, hdl⟩ := ov_trips hok
    rw [hok] at hc0
    have htl : t.trips.length ≤ 12 := by
      have h1 := htt
      unfold ttOk tripsOk at h1
      simp only [Bool.and_eq_true, decide_eq_true_eq] at h1
      exact h1.2.1
    have htm : (t.trips.map Trip.enc).length = t.trips.length := List.length_map _
    repeat' first | refine go_seq ?_ | refine go_region ?_ | refine go_miss rfl rfl rfl ?_ | refine go_undef rfl rfl rfl ?_ | refine go_draw drawsOk ?_ | ((first | refine go_op rfl ?_ | refine go_nil ?_ | refine go_hit rfl rfl rfl ?_ | refine go_splitT rfl rfl rfl (fun h => ?_) (fun h => ?_) | refine go_splitF rfl rfl rfl (fun h => ?_) (fun h => ?_) | refine go_dop rfl ?_ | refine go_dhit rfl rfl ?_ | refine go_dmiss rfl rfl ?_ | refine go_dundef rfl rfl ?_ | refine go_dend (by kernel_rfl) ?_ | refine go_pickT rfl ?_ | refine go_pickF rfl ?_ | refine go_pick rfl (fun h => ?_) (fun h => ?_) | refine go_call [] (hc0) rfl rfl rfl rfl ?_) <;> conv => whnf) | ((first | refine go_dsplit2 rfl (fun h => ?_) (fun h => ?_) | refine go_loadB ?_ | refine ⟨by kernel_rfl, ?_⟩ | refine go_ret ?_) <;> conv => whnf) | refine go_block ?_ | ((first | refine go_skip ?_ | refine go_exit ?_) <;> conv => whnf) | refine go_true rfl ?_ | refine go_false rfl ?_ | refine go_cond rfl (fun h => ?_) (fun h => ?_) | refine ⟨rfl, ?_⟩ | ((first | refine ⟨trivial, ?_⟩ | refine ⟨le_of_ble rfl, ?_⟩) <;> conv => whnf) | fail
    all_goals try (exfalso; simp at h; done)
    refine go_loop (α := Nat) (fun i => i ≤ t.trips.length) (fun i => t.trips.length - i)
      (fun i => st Try.f6.ntmps [(1, .imm (.list (ds.map TripDelay.enc))), (2, .imm (.int .i64 stop)), (3, .box 1000 0), (8, .own 1001 0 ((ovP (deps t ds stop) (depsN t ds stop i)).map intsRow).length), (9, .imm (.int .i64 (i : Nat)))]
        [(1000, .box 40 (t.enc.map .imm)), (1001, .arr 57 1 ((ovP (deps t ds stop) (depsN t ds stop i)).map intsRow))] []) 0 (Nat.zero_le _) ?_ ?_
    · exact ref_st (fun y => if y = 1000 then nid 1 3 else nid 2 15) rfl ⟨rfl, rfl, ⟨rfl, rfl⟩, ⟨rfl, rfl⟩, rfl, trivial⟩ ⟨⟨rfl, wavs_imm _⟩, rfl, trivial⟩ (by simp [nid]) rfl (by simp)
    intro i hi
    have hpl := ovP_len (deps t ds stop) (depsN t ds stop i)
    have hdn := depsN_len t ds stop i
    have hml : (deps t ds stop).length * (depsN t ds stop i).length ≤ 12 * 12 := Nat.mul_le_mul hdl (by omega)
    cases hx : t.trips[i]? with
    | none =>
      have hge := le_of_at hx
      rw [deps_all ds stop hge]
      repeat' first | refine go_seq ?_ | refine go_region ?_ | refine go_miss rfl rfl rfl ?_ | refine go_undef rfl rfl rfl ?_ | refine go_draw drawsOk ?_ | ((first | refine go_op rfl ?_ | refine go_nil ?_ | refine go_hit rfl rfl rfl ?_ | refine go_splitT rfl rfl rfl (fun h => ?_) (fun h => ?_) | refine go_splitF rfl rfl rfl (fun h => ?_) (fun h => ?_) | refine go_dop rfl ?_ | refine go_dhit rfl rfl ?_ | refine go_dmiss rfl rfl ?_ | refine go_dundef rfl rfl ?_ | refine go_dend (by kernel_rfl) ?_ | refine go_pickT rfl ?_ | refine go_pickF rfl ?_ | refine go_pick rfl (fun h => ?_) (fun h => ?_)) <;> conv => whnf) | ((first | refine go_dsplit2 rfl (fun h => ?_) (fun h => ?_) | refine go_loadB ?_ | refine ⟨by kernel_rfl, ?_⟩ | refine go_ret ?_) <;> conv => whnf) | refine go_block ?_ | ((first | refine go_skip ?_ | refine go_exit ?_) <;> conv => whnf) | refine go_true rfl ?_ | refine go_false rfl ?_ | refine go_cond rfl (fun h => ?_) (fun h => ?_) | refine ⟨rfl, ?_⟩ | ((first | refine ⟨trivial, ?_⟩ | refine ⟨le_of_ble rfl, ?_⟩) <;> conv => whnf) | fail
      all_goals first
        | exact ret_ownN2 rfl rfl rfl rfl rfl (by rw [List.drop_zero, List.take_length]) rfl rfl
        | (exfalso; have h' := of_decide_eq_false h; omega)
        | (exfalso; have h' := of_decide_eq_true h; omega)
        | (exfalso; rename_i hq; have h' := of_decide_eq_true hq; omega)
        | (exfalso; rename_i hq; have h' := of_decide_eq_false hq; omega)
        | (exfalso; rename_i hq _; have h' := of_decide_eq_true hq; omega)
        | (exfalso; rename_i hq _; have h' := of_decide_eq_false hq; omega)
        | (exfalso; simp at h; omega)
        | trace_state
    | some x =>
      have hlt := lt_of_at hx
      obtain ⟨lx, hgx⟩ := good_of htt hx
      have hrx : (t.trips.map Trip.enc)[((i : Nat) : Int).toNat]? = some x.enc := row_at Trip.enc hx
      have hnP := ovN_next (deps t ds stop) (ds := ds) (stop := stop) hx
      have hcx := c20 t ds hgx hf stop
      have hdx := c21 ds x.id hl
      repeat' first | refine go_seq ?_ | refine go_region ?_ | refine go_miss rfl rfl rfl ?_ | refine go_undef rfl rfl rfl ?_ | refine go_draw drawsOk ?_ | ((first | refine go_op rfl ?_ | refine go_nil ?_ | refine go_hit rfl rfl rfl ?_ | refine go_splitT rfl rfl rfl (fun h => ?_) (fun h => ?_) | refine go_splitF rfl rfl rfl (fun h => ?_) (fun h => ?_) | refine go_dop rfl ?_ | refine go_dhit rfl rfl ?_ | refine go_dmiss rfl rfl ?_ | refine go_dundef rfl rfl ?_ | refine go_dend (by kernel_rfl) ?_ | refine go_pickT rfl ?_ | refine go_pickF rfl ?_ | refine go_pick rfl (fun h => ?_) (fun h => ?_)) <;> conv => whnf) | ((first | refine go_dsplit2 rfl (fun h => ?_) (fun h => ?_) | refine go_loadB ?_ | refine ⟨by kernel_rfl, ?_⟩ | refine go_ret ?_) <;> conv => whnf) | refine go_block ?_ | ((first | refine go_skip ?_ | refine go_exit ?_) <;> conv => whnf) | refine go_true rfl ?_ | refine go_false rfl ?_ | refine go_cond rfl (fun h => ?_) (fun h => ?_) | refine ⟨rfl, ?_⟩ | ((first | refine ⟨trivial, ?_⟩ | refine ⟨le_of_ble rfl, ?_⟩) <;> conv => whnf) | fail
      all_goals try first
        | (exfalso; have h' := of_decide_eq_false h; omega)
        | (exfalso; have h' := of_decide_eq_true h; omega)
        | (exfalso; rename_i hq; have h' := of_decide_eq_true hq; omega)
        | (exfalso; rename_i hq; have h' := of_decide_eq_false hq; omega)
        | (exfalso; rename_i hq _; have h' := of_decide_eq_true hq; omega)
        | (exfalso; rename_i hq _; have h' := of_decide_eq_false hq; omega)
        | (exfalso; simp at h; omega)
      refine go_loop (α := Nat) (fun k => k ≤ t.trips.length) (fun k => t.trips.length - k)
        (fun k => st Try.f6.ntmps [(1, .imm (.list (ds.map TripDelay.enc))), (2, .imm (.int .i64 stop)), (3, .box 1000 0), (8, .own 1001 0 ((ovP (deps t ds stop) (depsN t ds stop i) ++ ovO (depOf t ds stop x) (depsN t ds stop k)).map intsRow).length), (9, .imm (.int .i64 (i : Nat))), (10, .imm (.int .i64 (k : Nat)))]
          [(1000, .box 40 (t.enc.map .imm)), (1001, .arr 57 1 ((ovP (deps t ds stop) (depsN t ds stop i) ++ ovO (depOf t ds stop x) (depsN t ds stop k)).map intsRow))] []) 0 (Nat.zero_le _) ?_ ?_
      · have e0 : ovP (deps t ds stop) (depsN t ds stop i) ++ ovO (depOf t ds stop x) (depsN t ds stop 0) = ovP (deps t ds stop) (depsN t ds stop i) := by
          have : ovO (depOf t ds stop x) (depsN t ds stop 0) = [] := by cases depOf t ds stop x <;> rfl
          rw [this, List.append_nil]
        rw [e0]
        exact ref_st id rfl ⟨rfl, rfl, ⟨rfl, rfl⟩, ⟨rfl, rfl⟩, rfl, rfl, trivial⟩ ⟨⟨rfl, wavs_imm _⟩, rfl, trivial⟩ (by simp [nid]) rfl (by simp)
      intro k hk
      have hol := ovO_len (depOf t ds stop x) (depsN t ds stop k)
      have hdk := depsN_len t ds stop k
      have hbd : ((ovP (deps t ds stop) (depsN t ds stop i) ++ ovO (depOf t ds stop x) (depsN t ds stop k)).map intsRow).length + 1 ≤ 1073741824 := by rw [List.length_map, List.length_append]; omega
      cases hy : t.trips[k]? with
      | none =>
        have hge := le_of_at hy
        rw [deps_all ds stop hge, ← hnP]
        repeat' first | refine go_seq ?_ | refine go_region ?_ | refine go_miss rfl rfl rfl ?_ | refine go_undef rfl rfl rfl ?_ | refine go_draw drawsOk ?_ | ((first | refine go_op rfl ?_ | refine go_nil ?_ | refine go_hit rfl rfl rfl ?_ | refine go_splitT rfl rfl rfl (fun h => ?_) (fun h => ?_) | refine go_splitF rfl rfl rfl (fun h => ?_) (fun h => ?_) | refine go_dop rfl ?_ | refine go_dhit rfl rfl ?_ | refine go_dmiss rfl rfl ?_ | refine go_dundef rfl rfl ?_ | refine go_dend (by kernel_rfl) ?_ | refine go_pickT rfl ?_ | refine go_pickF rfl ?_ | refine go_pick rfl (fun h => ?_) (fun h => ?_)) <;> conv => whnf) | ((first | refine go_dsplit2 rfl (fun h => ?_) (fun h => ?_) | refine go_loadB ?_ | refine ⟨by kernel_rfl, ?_⟩ | refine go_ret ?_) <;> conv => whnf) | refine go_block ?_ | ((first | refine go_skip ?_ | refine go_exit ?_) <;> conv => whnf) | refine go_true rfl ?_ | refine go_false rfl ?_ | refine go_cond rfl (fun h => ?_) (fun h => ?_) | refine ⟨rfl, ?_⟩ | ((first | refine ⟨trivial, ?_⟩ | refine ⟨le_of_ble rfl, ?_⟩) <;> conv => whnf) | fail
        all_goals first
          | exact go_next (i + 1) (by omega) (by omega) (ref_st id rfl ⟨rfl, rfl, ⟨rfl, rfl⟩, ⟨rfl, rfl⟩, next_i (by omega), trivial⟩ ⟨⟨rfl, wavs_imm _⟩, rfl, trivial⟩ (by simp) rfl (by simp))
          | (exfalso; have h' := of_decide_eq_false h; omega)
          | (exfalso; have h' := of_decide_eq_true h; omega)
          | (exfalso; rename_i hq; have h' := of_decide_eq_true hq; omega)
          | (exfalso; rename_i hq; have h' := of_decide_eq_false hq; omega)
          | (exfalso; rename_i hq _; have h' := of_decide_eq_true hq; omega)
          | (exfalso; rename_i hq _; have h' := of_decide_eq_false hq; omega)
          | (exfalso; simp at h; omega)
          | trace_state
      | some y =>
        have hlt2 := lt_of_at hy
        obtain ⟨ly, hgy⟩ := good_of htt hy
        have hry : (t.trips.map Trip.enc)[((k : Nat) : Int).toNat]? = some y.enc := row_at Trip.enc hy
        have hnO := ovO_next (depOf t ds stop x) (ds := ds) (stop := stop) hy
        have hcy := c20 t ds hgy hf stop
        have hdy := c21 ds y.id hl
        cases hox : depOf t ds stop x with
        | none =>
          rw [hox] at hcx hnO hbd
          simp only [List.append_nil] at hnO hcx
          repeat' first | refine go_seq ?_ | refine go_region ?_ | refine go_miss rfl rfl rfl ?_ | refine go_undef rfl rfl rfl ?_ | refine go_draw drawsOk ?_ | ((first | refine go_op rfl ?_ | refine go_nil ?_ | refine go_hit rfl rfl rfl ?_ | refine go_splitT rfl rfl rfl (fun h => ?_) (fun h => ?_) | refine go_splitF rfl rfl rfl (fun h => ?_) (fun h => ?_) | refine go_dop rfl ?_ | refine go_dhit rfl rfl ?_ | refine go_dmiss rfl rfl ?_ | refine go_dundef rfl rfl ?_ | refine go_dend (by kernel_rfl) ?_ | refine go_pickT rfl ?_ | refine go_pickF rfl ?_ | refine go_pick rfl (fun h => ?_) (fun h => ?_) | refine go_call [] (hcx) rfl rfl rfl rfl ?_ | refine go_call [] (hcy) rfl rfl rfl rfl ?_ | refine go_call [] (hdx) rfl rfl rfl rfl ?_ | refine go_call [] (hdy) rfl rfl rfl rfl ?_ | refine go_idx rfl rfl rfl rfl (by omega) hrx rfl ?_ | refine go_idx rfl rfl rfl rfl (by omega) hry rfl ?_) <;> conv => whnf) | ((first | refine go_dsplit2 rfl (fun h => ?_) (fun h => ?_) | refine go_loadB ?_ | refine ⟨by kernel_rfl, ?_⟩ | refine go_ret ?_) <;> conv => whnf) | refine go_block ?_ | ((first | refine go_skip ?_ | refine go_exit ?_) <;> conv => whnf) | refine go_true rfl ?_ | refine go_false rfl ?_ | refine go_cond rfl (fun h => ?_) (fun h => ?_) | refine ⟨rfl, ?_⟩ | ((first | refine ⟨trivial, ?_⟩ | refine ⟨le_of_ble rfl, ?_⟩) <;> conv => whnf) | fail
          all_goals first
            | exact go_next (k + 1) (by omega) (by omega) (by rw [hnO]; exact ref_st id rfl ⟨rfl, rfl, ⟨rfl, rfl⟩, ⟨rfl, rfl⟩, rfl, next_i (by omega), trivial⟩ ⟨⟨rfl, wavs_imm _⟩, rfl, trivial⟩ (by simp) rfl (by simp))
            | (exfalso; have h' := of_decide_eq_false h; omega)
            | (exfalso; have h' := of_decide_eq_true h; omega)
            | (exfalso; rename_i hq; have h' := of_decide_eq_true hq; omega)
            | (exfalso; rename_i hq; have h' := of_decide_eq_false hq; omega)
            | (exfalso; rename_i hq _; have h' := of_decide_eq_true hq; omega)
            | (exfalso; rename_i hq _; have h' := of_decide_eq_false hq; omega)
            | (exfalso; simp at h; done)
            | (exfalso; simp at h; omega)
            | trace_state
        | some a =>
          obtain ⟨a1, a2, a3⟩ := dep_facts hgx hox
          rw [hox] at hcx hnO hbd
          cases hoy : depOf t ds stop y with
          | none =>
            rw [hoy] at hcy hnO
            simp only [List.append_nil] at hnO hcx hcy
            repeat' first | refine go_seq ?_ | refine go_region ?_ | refine go_miss rfl rfl rfl ?_ | refine go_undef rfl rfl rfl ?_ | refine go_draw drawsOk ?_ | ((first | refine go_op rfl ?_ | refine go_nil ?_ | refine go_hit rfl rfl rfl ?_ | refine go_splitT rfl rfl rfl (fun h => ?_) (fun h => ?_) | refine go_splitF rfl rfl rfl (fun h => ?_) (fun h => ?_) | refine go_dop rfl ?_ | refine go_dhit rfl rfl ?_ | refine go_dmiss rfl rfl ?_ | refine go_dundef rfl rfl ?_ | refine go_dend (by kernel_rfl) ?_ | refine go_pickT rfl ?_ | refine go_pickF rfl ?_ | refine go_pick rfl (fun h => ?_) (fun h => ?_) | refine go_call [] (hcx) rfl rfl rfl rfl ?_ | refine go_call [] (hcy) rfl rfl rfl rfl ?_ | refine go_call [] (hdx) rfl rfl rfl rfl ?_ | refine go_call [] (hdy) rfl rfl rfl rfl ?_ | refine go_idx rfl rfl rfl rfl (by omega) hrx rfl ?_ | refine go_idx rfl rfl rfl rfl (by omega) hry rfl ?_) <;> conv => whnf) | ((first | refine go_dsplit2 rfl (fun h => ?_) (fun h => ?_) | refine go_loadB ?_ | refine ⟨by kernel_rfl, ?_⟩ | refine go_ret ?_) <;> conv => whnf) | refine go_block ?_ | ((first | refine go_skip ?_ | refine go_exit ?_) <;> conv => whnf) | refine go_true rfl ?_ | refine go_false rfl ?_ | refine go_cond rfl (fun h => ?_) (fun h => ?_) | refine ⟨rfl, ?_⟩ | ((first | refine ⟨trivial, ?_⟩ | refine ⟨le_of_ble rfl, ?_⟩) <;> conv => whnf) | fail
            all_goals first
              | exact go_next (k + 1) (by omega) (by omega) (by rw [hnO]; exact ref_st id rfl ⟨rfl, rfl, ⟨rfl, rfl⟩, ⟨rfl, rfl⟩, rfl, next_i (by omega), trivial⟩ ⟨⟨rfl, wavs_imm _⟩, rfl, trivial⟩ (by simp) rfl (by simp))
              | (exfalso; have h' := of_decide_eq_false h; omega)
              | (exfalso; have h' := of_decide_eq_true h; omega)
              | (exfalso; rename_i hq; have h' := of_decide_eq_true hq; omega)
              | (exfalso; rename_i hq; have h' := of_decide_eq_false hq; omega)
              | (exfalso; rename_i hq _; have h' := of_decide_eq_true hq; omega)
              | (exfalso; rename_i hq _; have h' := of_decide_eq_false hq; omega)
              | (exfalso; simp at h; done)
              | (exfalso; simp at h; omega)
              | (exfalso; simp_all; done)
              | trace_state
          | some b =>
            obtain ⟨b1, b2, b3⟩ := dep_facts hgy hoy
            rw [hoy] at hcy hnO
            subst a2 b2
            rw [← a3] at hdx
            rw [← b3] at hdy
            simp only at hnO hcx hcy
            cases hp : pairOv a b with
            | true =>
              rw [hp, if_pos rfl] at hnO
              have hp' := hp
              unfold pairOv kwO at hp'
              simp only [Bool.and_eq_true, decide_eq_true_eq] at hp'
              repeat' first | refine go_seq ?_ | refine go_region ?_ | refine go_miss rfl rfl rfl ?_ | refine go_undef rfl rfl rfl ?_ | refine go_draw drawsOk ?_ | ((first | refine go_op rfl ?_ | refine go_nil ?_ | refine go_hit rfl rfl rfl ?_ | refine go_splitT rfl rfl rfl (fun h => ?_) (fun h => ?_) | refine go_splitF rfl rfl rfl (fun h => ?_) (fun h => ?_) | refine go_dop rfl ?_ | refine go_dhit rfl rfl ?_ | refine go_dmiss rfl rfl ?_ | refine go_dundef rfl rfl ?_ | refine go_dend (by kernel_rfl) ?_ | refine go_pickT rfl ?_ | refine go_pickF rfl ?_ | refine go_pick rfl (fun h => ?_) (fun h => ?_) | refine go_call [] (hcx) rfl rfl rfl rfl ?_ | refine go_call [] (hcy) rfl rfl rfl rfl ?_ | refine go_call [] (hdx) rfl rfl rfl rfl ?_ | refine go_call [] (hdy) rfl rfl rfl rfl ?_ | refine go_idx rfl rfl rfl rfl (by omega) hrx rfl ?_ | refine go_idx rfl rfl rfl rfl (by omega) hry rfl ?_ | refine go_append (rows2 := [[a.trip.id, b.trip.id]].map intsRow) rfl rfl rfl rfl rfl rfl rfl rfl rfl rfl rfl rfl rfl rfl rfl rfl hbd ?_) <;> conv => whnf) | ((first | refine go_dsplit2 rfl (fun h => ?_) (fun h => ?_) | refine go_loadB ?_ | refine ⟨by kernel_rfl, ?_⟩ | refine go_ret ?_) <;> conv => whnf) | refine go_block ?_ | ((first | refine go_skip ?_ | refine go_exit ?_) <;> conv => whnf) | refine go_true rfl ?_ | refine go_false rfl ?_ | refine go_cond rfl (fun h => ?_) (fun h => ?_) | refine ⟨rfl, ?_⟩ | ((first | refine ⟨trivial, ?_⟩ | refine ⟨le_of_ble rfl, ?_⟩) <;> conv => whnf) | fail
              all_goals try first
                | (exfalso; have h' := of_decide_eq_false h; omega)
                | (exfalso; have h' := of_decide_eq_true h; omega)
                | (exfalso; rename_i hq; have h' := of_decide_eq_true hq; omega)
                | (exfalso; rename_i hq; have h' := of_decide_eq_false hq; omega)
                | (exfalso; rename_i hq _; have h' := of_decide_eq_true hq; omega)
                | (exfalso; rename_i hq _; have h' := of_decide_eq_false hq; omega)
                | (exfalso; simp at h; done)
                | (exfalso; simp at h; omega)
                | (exfalso; simp_all; done)
                | (exfalso; simp_all; omega)
              refine go_next (k + 1) (by omega) (by omega) (ref_st (fun y => if y = 1001 then nid 6 95 else y) rfl ⟨rfl, rfl, ⟨rfl, rfl⟩, ⟨?_, rfl⟩, rfl, next_i (by omega), trivial⟩ ⟨⟨rfl, wavs_imm _⟩, ?_, trivial⟩ (by simp [nid]) rfl (by simp))
              · show AV.own _ _ _ = AV.own _ _ _
                rw [hnO, ← List.append_assoc, List.map_append (l₂ := [[a.trip.id, b.trip.id]]), List.length_append]; try rfl
              · rw [hnO, ← List.append_assoc, List.map_append (l₂ := [[a.trip.id, b.trip.id]])]; rfl
            | false =>
              rw [hp, if_neg (by simp), List.append_nil] at hnO
              have hp' := hp
              unfold pairOv kwO at hp'
              simp only [Bool.and_eq_false_iff, decide_eq_false_iff_not] at hp'
              repeat' first | refine go_seq ?_ | refine go_region ?_ | refine go_miss rfl rfl rfl ?_ | refine go_undef rfl rfl rfl ?_ | refine go_draw drawsOk ?_ | ((first | refine go_op rfl ?_ | refine go_nil ?_ | refine go_hit rfl rfl rfl ?_ | refine go_splitT rfl rfl rfl (fun h => ?_) (fun h => ?_) | refine go_splitF rfl rfl rfl (fun h => ?_) (fun h => ?_) | refine go_dop rfl ?_ | refine go_dhit rfl rfl ?_ | refine go_dmiss rfl rfl ?_ | refine go_dundef rfl rfl ?_ | refine go_dend (by kernel_rfl) ?_ | refine go_pickT rfl ?_ | refine go_pickF rfl ?_ | refine go_pick rfl (fun h => ?_) (fun h => ?_) | refine go_call [] (hcx) rfl rfl rfl rfl ?_ | refine go_call [] (hcy) rfl rfl rfl rfl ?_ | refine go_call [] (hdx) rfl rfl rfl rfl ?_ | refine go_call [] (hdy) rfl rfl rfl rfl ?_ | refine go_idx rfl rfl rfl rfl (by omega) hrx rfl ?_ | refine go_idx rfl rfl rfl rfl (by omega) hry rfl ?_ | refine go_append (rows2 := [[a.trip.id, b.trip.id]].map intsRow) rfl rfl rfl rfl rfl rfl rfl rfl rfl rfl rfl rfl rfl rfl rfl rfl hbd ?_) <;> conv => whnf) | ((first | refine go_dsplit2 rfl (fun h => ?_) (fun h => ?_) | refine go_loadB ?_ | refine ⟨by kernel_rfl, ?_⟩ | refine go_ret ?_) <;> conv => whnf) | refine go_block ?_ | ((first | refine go_skip ?_ | refine go_exit ?_) <;> conv => whnf) | refine go_true rfl ?_ | refine go_false rfl ?_ | refine go_cond rfl (fun h => ?_) (fun h => ?_) | refine ⟨rfl, ?_⟩ | ((first | refine ⟨trivial, ?_⟩ | refine ⟨le_of_ble rfl, ?_⟩) <;> conv => whnf) | fail
              all_goals first
                | exact go_next (k + 1) (by omega) (by omega) (by rw [hnO]; exact ref_st id rfl ⟨rfl, rfl, ⟨rfl, rfl⟩, ⟨rfl, rfl⟩, rfl, next_i (by omega), trivial⟩ ⟨⟨rfl, wavs_imm _⟩, rfl, trivial⟩ (by simp) rfl (by simp))
                | (exfalso; have h' := of_decide_eq_false h; omega)
                | (exfalso; have h' := of_decide_eq_true h; omega)
                | (exfalso; rename_i hq; have h' := of_decide_eq_true hq; omega)
                | (exfalso; rename_i hq; have h' := of_decide_eq_false hq; omega)
                | (exfalso; rename_i hq _; have h' := of_decide_eq_true hq; omega)
                | (exfalso; rename_i hq _; have h' := of_decide_eq_false hq; omega)
                | (exfalso; simp at h; done)
                | (exfalso; simp at h; omega)
                | (exfalso; simp_all; done)
                | (exfalso; simp_all; omega)
                | trace_state
end Go.Proofs.Ytingoclokmcmhaa

