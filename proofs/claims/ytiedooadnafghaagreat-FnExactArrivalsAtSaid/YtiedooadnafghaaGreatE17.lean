/- The walk of ArrivalsAt (seat Z): the reference; the law. -/
import Derived.Test.YtiedooadnafghaaGreatE16
namespace Go.Proofs.YtiedooadnafghaaGreat
open Go Go.Am Go.Proofs
set_option maxRecDepth 100000
set_option maxHeartbeats 4000000
attribute [local irreducible] amOps amC opCall opIndexAddr opPick retQ opMake opStore amDraw opAppend opLoad opNilCmp opIndex opSlice

def Arr.idR (a : Arr) : List D := intRow a.id
def Arr.atR (a : Arr) : List D := intRow a.at'
theorem arr_idR_one (l : List Arr) : ∀ r ∈ l.map Arr.idR, r.all D.one = true := by
  intro r hr
  obtain ⟨d, _, rfl⟩ := List.mem_map.1 hr
  rfl
theorem arr_atR_one (l : List Arr) : ∀ r ∈ l.map Arr.atR, r.all D.one = true := by
  intro r hr
  obtain ⟨d, _, rfl⟩ := List.mem_map.1 hr
  rfl
theorem arr_idR_gr (l : List Arr) : ∀ r ∈ l.map Arr.idR, r.all D.gr = true := by
  intro r hr
  obtain ⟨d, _, rfl⟩ := List.mem_map.1 hr
  rfl
def aS (t : Timetable) (ds : List TripDelay) (stop fr to : Int) (i : Nat) : List Arr := sortL atLt (arrsN t ds stop fr to i)
theorem aS_srt (t : Timetable) (ds : List TripDelay) (stop fr to : Int) (i : Nat) : Srt atLt (aS t ds stop fr to i) := sortL_srt atWeak _
theorem aS_none {t : Timetable} {i : Nat} {x : Trip} (ds : List TripDelay) (stop fr to : Int) (h : t.trips[i]? = some x) (hd : arrOf t ds stop fr to x = none) : aS t ds stop fr to (i + 1) = aS t ds stop fr to i := by
  unfold aS
  rw [arrsN_next ds stop fr to h, hd, List.append_nil]
theorem aS_some {t : Timetable} {i : Nat} {x : Trip} {d : Arr} (ds : List TripDelay) (stop fr to : Int) (h : t.trips[i]? = some x) (hd : arrOf t ds stop fr to x = some d) : aS t ds stop fr to (i + 1) = insL atLt (aS t ds stop fr to i) d := by
  unfold aS
  rw [arrsN_next ds stop fr to h, hd, sortL_next]
theorem aS_len (t : Timetable) (ds : List TripDelay) (stop fr to : Int) (i : Nat) : (aS t ds stop fr to i).length ≤ i := by
  unfold aS
  rw [sortL_len atWeak]
  exact arrsN_len t ds stop fr to i
theorem aS_all {t : Timetable} (hok : ttOk t = true) {i : Nat} (ds : List TripDelay) (stop fr to : Int) (h : t.trips.length ≤ i) : (aS t ds stop fr to i).map Arr.idR = (aaL t ds stop fr to).map intRow := by
  unfold aS aaL
  rw [arrs_all ds stop fr to h, arrs_same hok, List.map_map]
  rfl

theorem c6 (t : Timetable) (hf : t.fit) (ds : List TripDelay) (hl : ds.length ≤ 1048576) (stop fr to : Int) : CallOk Tryz.prog 6 [.imm (.agg t.enc), .imm (.list (ds.map TripDelay.enc)), .imm (.int .i64 stop), .imm (.int .i64 fr), .imm (.int .i64 to)] { res := [.arr 3 1 ((aaR t ds stop fr to).map intRow), .imm (.bool (aaOk t ds stop fr to))] } := by
  refine callOk_of tyOk Tryz.func6 rfl rfl (le_of_ble rfl) (le_of_ble rfl) (mutOk_imm rfl _) ?_
  have hc0 := c19 t hf ds hl stop
  have hc1 := c20 fr
  have hc2 := c20 to
  cases hp : aaOk t ds stop fr to with
  | false =>
    have e1 : aaR t ds stop fr to = [] := by unfold aaR; rw [hp]; rfl
    rw [e1]
    unfold aaOk nbOk at hp
    repeat' first | refine go_seq ?_ | refine go_region ?_ | refine go_miss rfl rfl rfl ?_ | refine go_undef rfl rfl rfl ?_ | refine go_draw drawsOk ?_ | ((first | refine go_op rfl ?_ | refine go_nil ?_ | refine go_hit rfl rfl rfl ?_ | refine go_splitT rfl rfl rfl (fun h => ?_) (fun h => ?_) | refine go_splitF rfl rfl rfl (fun h => ?_) (fun h => ?_) | refine go_dop rfl ?_ | refine go_dhit rfl rfl ?_ | refine go_dmiss rfl rfl ?_ | refine go_dundef rfl rfl ?_ | refine go_dend (by kernel_rfl) ?_ | refine go_pickT rfl ?_ | refine go_pickF rfl ?_ | refine go_pick rfl (fun h => ?_) (fun h => ?_) | refine go_call [] (hc0) rfl rfl rfl rfl ?_ | refine go_call [] (hc1) rfl rfl rfl rfl ?_ | refine go_call [] (hc2) rfl rfl rfl rfl ?_) <;> conv => whnf) | ((first | refine go_dsplit2 rfl (fun h => ?_) (fun h => ?_) | refine go_loadB ?_ | refine ⟨by kernel_rfl, ?_⟩ | refine go_ret ?_) <;> conv => whnf) | refine go_block ?_ | ((first | refine go_skip ?_ | refine go_exit ?_) <;> conv => whnf) | refine go_true rfl ?_ | refine go_false rfl ?_ | refine go_cond rfl (fun h => ?_) (fun h => ?_) | refine ⟨rfl, ?_⟩ | ((first | refine ⟨trivial, ?_⟩ | refine ⟨le_of_ble rfl, ?_⟩) <;> conv => whnf) | fail
    all_goals first
      | exact ret_arr2 rfl rfl rfl rfl rfl rfl (by intro r hr; cases hr) rfl rfl rfl
      | (exfalso; simp_all; done)
      | (exfalso; simp_all; omega)
      | trace_state
  | true =>
    have e1 : aaR t ds stop fr to = aaL t ds stop fr to := by unfold aaR; rw [hp]; rfl
    rw [e1]
    unfold aaOk nbOk at hp
    simp only [Bool.and_eq_true, decide_eq_true_eq] at hp
    have hok : ttOk t = true := by
      have := hp.1.1
      unfold delaysOk at this
      simp only [Bool.and_eq_true] at this
      exact this.1
    rw [hp.1.1, hp.1.2.1] at hc0
    rw [hp.1.2.2] at hc1
    rw [hp.2.1] at hc2
    have hft := hp.2.2
    have hnt : t.trips.length ≤ 1048576 := hf.2.1
    have htl : (t.trips.map Trip.enc).length = t.trips.length := List.length_map _
    repeat' first | refine go_seq ?_ | refine go_region ?_ | refine go_miss rfl rfl rfl ?_ | refine go_undef rfl rfl rfl ?_ | refine go_draw drawsOk ?_ | ((first | refine go_op rfl ?_ | refine go_nil ?_ | refine go_hit rfl rfl rfl ?_ | refine go_splitT rfl rfl rfl (fun h => ?_) (fun h => ?_) | refine go_splitF rfl rfl rfl (fun h => ?_) (fun h => ?_) | refine go_dop rfl ?_ | refine go_dhit rfl rfl ?_ | refine go_dmiss rfl rfl ?_ | refine go_dundef rfl rfl ?_ | refine go_dend (by kernel_rfl) ?_ | refine go_pickT rfl ?_ | refine go_pickF rfl ?_ | refine go_pick rfl (fun h => ?_) (fun h => ?_) | refine go_call [] (hc0) rfl rfl rfl rfl ?_ | refine go_call [] (hc1) rfl rfl rfl rfl ?_ | refine go_call [] (hc2) rfl rfl rfl rfl ?_) <;> conv => whnf) | ((first | refine go_dsplit2 rfl (fun h => ?_) (fun h => ?_) | refine go_loadB ?_ | refine ⟨by kernel_rfl, ?_⟩ | refine go_ret ?_) <;> conv => whnf) | refine go_block ?_ | ((first | refine go_skip ?_ | refine go_exit ?_) <;> conv => whnf) | refine go_true rfl ?_ | refine go_false rfl ?_ | refine go_cond rfl (fun h => ?_) (fun h => ?_) | refine ⟨rfl, ?_⟩ | ((first | refine ⟨trivial, ?_⟩ | refine ⟨le_of_ble rfl, ?_⟩) <;> conv => whnf) | fail
    all_goals try first
      | (exfalso; have h' := of_decide_eq_false h; omega)
      | (exfalso; have h' := of_decide_eq_true h; omega)
      | (exfalso; rename_i hq; have h' := of_decide_eq_true hq; omega)
      | (exfalso; rename_i hq; have h' := of_decide_eq_false hq; omega)
      | (exfalso; rename_i hq _; have h' := of_decide_eq_true hq; omega)
      | (exfalso; rename_i hq _; have h' := of_decide_eq_false hq; omega)
      | (exfalso; simp at h; done)
    refine go_loop (α := Nat) (fun i => i ≤ t.trips.length) (fun i => t.trips.length - i)
      (fun i => st Tryz.f6.ntmps [(1, .imm (.list (ds.map TripDelay.enc))), (2, .imm (.int .i64 stop)), (3, .imm (.int .i64 fr)), (4, .imm (.int .i64 to)), (5, .box 1000 0), (12, .own 1001 0 (aS t ds stop fr to i).length), (13, .own 1002 0 (aS t ds stop fr to i).length), (14, .imm (.int .i64 (i : Nat)))]
        [(1000, .box 40 (t.enc.map .imm)), (1001, .arr 3 1 ((aS t ds stop fr to i).map Arr.idR)), (1002, .arr 3 1 ((aS t ds stop fr to i).map Arr.atR))] []) 0 (Nat.zero_le _) ?_ ?_
    · exact ref_st (fun y => if y = 1000 then nid 1 5 else if y = 1001 then nid 2 18 else nid 2 19) rfl ⟨rfl, rfl, rfl, rfl, ⟨rfl, rfl⟩, ⟨rfl, rfl⟩, ⟨rfl, rfl⟩, rfl, trivial⟩ ⟨⟨rfl, wavs_imm _⟩, rfl, rfl, trivial⟩ (by simp [nid]) rfl (by simp)
    intro i hi
    cases hx : t.trips[i]? with
    | none =>
      have hge := le_of_at hx
      have hall := aS_all hok ds stop fr to hge
      generalize aS t ds stop fr to i = s at *
      have hsl : (s.map Arr.idR).length = s.length := List.length_map _
      repeat' first | refine go_seq ?_ | refine go_region ?_ | refine go_miss rfl rfl rfl ?_ | refine go_undef rfl rfl rfl ?_ | refine go_draw drawsOk ?_ | ((first | refine go_op rfl ?_ | refine go_nil ?_ | refine go_hit rfl rfl rfl ?_ | refine go_splitT rfl rfl rfl (fun h => ?_) (fun h => ?_) | refine go_splitF rfl rfl rfl (fun h => ?_) (fun h => ?_) | refine go_dop rfl ?_ | refine go_dhit rfl rfl ?_ | refine go_dmiss rfl rfl ?_ | refine go_dundef rfl rfl ?_ | refine go_dend (by kernel_rfl) ?_ | refine go_pickT rfl ?_ | refine go_pickF rfl ?_ | refine go_pick rfl (fun h => ?_) (fun h => ?_)) <;> conv => whnf) | ((first | refine go_dsplit2 rfl (fun h => ?_) (fun h => ?_) | refine go_loadB ?_ | refine ⟨by kernel_rfl, ?_⟩ | refine go_ret ?_) <;> conv => whnf) | refine go_block ?_ | ((first | refine go_skip ?_ | refine go_exit ?_) <;> conv => whnf) | refine go_true rfl ?_ | refine go_false rfl ?_ | refine go_cond rfl (fun h => ?_) (fun h => ?_) | refine ⟨rfl, ?_⟩ | ((first | refine ⟨trivial, ?_⟩ | refine ⟨le_of_ble rfl, ?_⟩) <;> conv => whnf) | fail
      all_goals first
        | exact ret_arr2 rfl rfl rfl rfl rfl (by rw [List.drop_zero, ← hsl, List.take_length, hall]) (int_gr _) rfl rfl rfl
        | (exfalso; have h' := of_decide_eq_false h; omega)
        | (exfalso; have h' := of_decide_eq_true h; omega)
        | (exfalso; rename_i hq; have h' := of_decide_eq_true hq; omega)
        | (exfalso; rename_i hq; have h' := of_decide_eq_false hq; omega)
        | (exfalso; rename_i hq _; have h' := of_decide_eq_true hq; omega)
        | (exfalso; rename_i hq _; have h' := of_decide_eq_false hq; omega)
        | trace_state
    | some x =>
      have hlt := lt_of_at hx
      have hr := row_at Trip.enc hx
      obtain ⟨l, hg⟩ := good_of hok hx
      have hlf := hf.1.2.2.2 l (List.mem_of_getElem? hg.on.ln)
      have hsn := aS_len t ds stop fr to i
      have hd : arrOf t ds stop fr to x = if decide (0 < plAt l stop) && inR (arrAt x l ds stop) fr to then some ⟨arrAt x l ds stop, x.id⟩ else none := by unfold arrOf; rw [hg.on.ln]
      have hc1 := c22 hg.on
      have hc2 := c21 l stop hlf.2.1
      change CallOk _ _ _ { res := [.imm (.int .i64 (plAt l stop))] } at hc2
      have hc4 := c24 ds x.id hl
      have hc5 := c25 (arrAt x l ds stop) fr to
      unfold arrAt stopAt at hc5
      have hrs := hg.rs
      have hr5 := hg.r5
      have hpl := plAt_lt l stop
      by_cases hp0 : 0 < plAt l stop
      · have e : ((plAt l stop).toNat : Int) = plAt l stop := Int.toNat_of_nonneg (by omega)
        have hc3 := c23 hg.on (plAt l stop).toNat (by omega) hlf.2.2
        rw [e] at hc3
        cases hw : inR (arrAt x l ds stop) fr to with
        | true =>
          rw [hw, decide_eq_true hp0] at hd
          have hnx := aS_some ds stop fr to hx hd
          have hsr := aS_srt t ds stop fr to i
          have hw' := hw
          unfold arrAt stopAt at hw'
          rw [hw'] at hc5
          generalize hsd : aS t ds stop fr to i = s at *
          have hsm : (s.map Arr.idR).length = s.length := List.length_map _
          have hsm2 : (s.map Arr.atR).length = s.length := List.length_map _
          repeat' first | refine go_seq ?_ | refine go_region ?_ | refine go_miss rfl rfl rfl ?_ | refine go_undef rfl rfl rfl ?_ | refine go_draw drawsOk ?_ | ((first | refine go_op rfl ?_ | refine go_nil ?_ | refine go_hit rfl rfl rfl ?_ | refine go_splitT rfl rfl rfl (fun h => ?_) (fun h => ?_) | refine go_splitF rfl rfl rfl (fun h => ?_) (fun h => ?_) | refine go_dop rfl ?_ | refine go_dhit rfl rfl ?_ | refine go_dmiss rfl rfl ?_ | refine go_dundef rfl rfl ?_ | refine go_dend (by kernel_rfl) ?_ | refine go_pickT rfl ?_ | refine go_pickF rfl ?_ | refine go_pick rfl (fun h => ?_) (fun h => ?_) | refine go_call [] (hc1) rfl rfl rfl rfl ?_ | refine go_call [] (hc2) rfl rfl rfl rfl ?_ | refine go_call [] (hc3) rfl rfl rfl rfl ?_ | refine go_call [] (hc4) rfl rfl rfl rfl ?_ | refine go_call [] (hc5) rfl rfl rfl rfl ?_ | refine go_idx rfl rfl rfl rfl (by omega) hr rfl ?_) <;> conv => whnf) | ((first | refine go_dsplit2 rfl (fun h => ?_) (fun h => ?_) | refine go_loadB ?_ | refine ⟨by kernel_rfl, ?_⟩ | refine go_ret ?_) <;> conv => whnf) | refine go_block ?_ | ((first | refine go_skip ?_ | refine go_exit ?_) <;> conv => whnf) | refine go_true rfl ?_ | refine go_false rfl ?_ | refine go_cond rfl (fun h => ?_) (fun h => ?_) | refine ⟨rfl, ?_⟩ | ((first | refine ⟨trivial, ?_⟩ | refine ⟨le_of_ble rfl, ?_⟩) <;> conv => whnf) | fail
          all_goals try first
            | (exfalso; have h' := of_decide_eq_false h; omega)
            | (exfalso; have h' := of_decide_eq_true h; omega)
            | (exfalso; rename_i hq; have h' := of_decide_eq_true hq; omega)
            | (exfalso; rename_i hq; have h' := of_decide_eq_false hq; omega)
            | (exfalso; rename_i hq _; have h' := of_decide_eq_true hq; omega)
            | (exfalso; rename_i hq _; have h' := of_decide_eq_false hq; omega)
            | (exfalso; simp at h; done)
          refine go_loop (α := Nat) (fun k => k ≤ s.length ∧ ∀ y ∈ s.drop k, atLt ⟨arrAt x l ds stop, x.id⟩ y = true) (fun k => k)
            (fun k => st Tryz.f6.ntmps [(1, .imm (.list (ds.map TripDelay.enc))), (2, .imm (.int .i64 stop)), (3, .imm (.int .i64 fr)), (4, .imm (.int .i64 to)), (5, .box 1000 0), (12, .own 1001 0 s.length), (13, .own 1002 0 s.length), (14, .imm (.int .i64 (i : Nat))), (16, .imm (.int .i64 (arrAt x l ds stop))), (17, .imm (.int .i64 (k : Nat)))]
              [(1000, .box 40 (t.enc.map .imm)), (1001, .arr 3 1 (s.map Arr.idR)), (1002, .arr 3 1 (s.map Arr.atR))] []) s.length ⟨Nat.le_refl _, by simp⟩ ?_ ?_
          · exact ref_st id rfl ⟨rfl, rfl, rfl, rfl, ⟨rfl, rfl⟩, ⟨rfl, rfl⟩, ⟨rfl, rfl⟩, rfl, rfl, rfl, trivial⟩ ⟨⟨rfl, wavs_imm _⟩, rfl, rfl, trivial⟩ (by simp) rfl (by simp)
          rintro k ⟨hk, hdr⟩
          have hgo : (k = 0 ∨ ∃ y, s[k - 1]? = some y ∧ atLt ⟨arrAt x l ds stop, x.id⟩ y = false) → s.take k ++ [⟨arrAt x l ds stop, x.id⟩] ++ s.drop k = aS t ds stop fr to (i + 1) := fun h => by rw [hnx]; exact insL_at atWeak hsr hdr h
          have hlen' : (s.take k ++ [(⟨arrAt x l ds stop, x.id⟩ : Arr)] ++ s.drop k).length = s.length + 1 := by simp; omega
          have q1 : ((s.map Arr.idR).drop 0).take k = (s.take k).map Arr.idR := by rw [List.drop_zero, List.map_take]
          have q2 : ((s.map Arr.idR).drop k).take (s.length - k) = (s.drop k).map Arr.idR := by rw [← List.map_drop, List.take_of_length_le (by simp)]
          have q3 : ((s.map Arr.atR).drop 0).take k = (s.take k).map Arr.atR := by rw [List.drop_zero, List.map_take]
          have q4 : ((s.map Arr.atR).drop k).take (s.length - k) = (s.drop k).map Arr.atR := by rw [← List.map_drop, List.take_of_length_le (by simp)]
          have o1 := arr_idR_one (s.take k)
          have o2 := arr_idR_one (s.drop k)
          have o3 := arr_atR_one (s.take k)
          have o4 := arr_atR_one (s.drop k)
          have o5 := int_one [x.id]
          have o6 := int_one [arrAt x l ds stop]
          have hF1 : 0 + k ≤ (s.map Arr.idR).length := by omega
          have hF2 : k + (s.length - k) ≤ (s.map Arr.idR).length := by omega
          have hF3 : 0 + k ≤ (s.map Arr.atR).length := by omega
          have hF4 : k + (s.length - k) ≤ (s.map Arr.atR).length := by omega
          have hB1 : 0 + k ≤ 1073741824 := by omega
          have hB2 : 0 + k + 1 ≤ 1073741824 := by omega
          have hB3 : 0 + k + 1 + (s.length - k) ≤ 1073741824 := by omega
          have hL1 : 0 + k = (List.replicate 0 ty3.zero ++ (s.take k).map Arr.idR).length := by simp; omega
          have hL2 : 0 + k + 1 = (List.replicate 0 ty3.zero ++ (s.take k).map Arr.idR ++ [x.id].map intRow).length := by simp; omega
          have hL3 : 0 + k = (List.replicate 0 ty3.zero ++ (s.take k).map Arr.atR).length := by simp; omega
          have hL4 : 0 + k + 1 = (List.replicate 0 ty3.zero ++ (s.take k).map Arr.atR ++ [arrAt x l ds stop].map intRow).length := by simp; omega
          by_cases hk0 : k = 0
          · subst hk0
            repeat' first | refine go_seq ?_ | refine go_region ?_ | refine go_miss rfl rfl rfl ?_ | refine go_undef rfl rfl rfl ?_ | refine go_draw drawsOk ?_ | ((first | refine go_op rfl ?_ | refine go_nil ?_ | refine go_hit rfl rfl rfl ?_ | refine go_splitT rfl rfl rfl (fun h => ?_) (fun h => ?_) | refine go_splitF rfl rfl rfl (fun h => ?_) (fun h => ?_) | refine go_dop rfl ?_ | refine go_dhit rfl rfl ?_ | refine go_dmiss rfl rfl ?_ | refine go_dundef rfl rfl ?_ | refine go_dend (by kernel_rfl) ?_ | refine go_pickT rfl ?_ | refine go_pickF rfl ?_ | refine go_pick rfl (fun h => ?_) (fun h => ?_) | refine go_idx rfl rfl rfl rfl (by omega) hr rfl ?_ | refine go_sliceTo (k := 0) (id := 1001) rfl rfl rfl rfl rfl rfl hk ?_ | refine go_sliceFrom (k := 0) (id := 1001) rfl rfl rfl rfl rfl rfl hk ?_ | refine go_sliceTo (k := 0) (id := 1002) rfl rfl rfl rfl rfl rfl hk ?_ | refine go_sliceFrom (k := 0) (id := 1002) rfl rfl rfl rfl rfl rfl hk ?_ | refine go_appSl (off2 := 0) (rr := (s.take 0).map Arr.idR) rfl rfl rfl rfl rfl rfl rfl rfl rfl rfl rfl rfl hF1 q1 o1 rfl rfl hB1 ?_ | refine go_append (rows2 := [x.id].map intRow) rfl rfl rfl rfl rfl rfl rfl rfl rfl rfl rfl rfl o5 rfl hL1 rfl hB2 ?_ | refine go_appSl (off2 := 0) (rr := (s.drop 0).map Arr.idR) rfl rfl rfl rfl rfl rfl rfl rfl rfl rfl rfl rfl hF2 q2 o2 rfl hL2 hB3 ?_ | refine go_appSl (off2 := 0) (rr := (s.take 0).map Arr.atR) rfl rfl rfl rfl rfl rfl rfl rfl rfl rfl rfl rfl hF3 q3 o3 rfl rfl hB1 ?_ | refine go_append (rows2 := [arrAt x l ds stop].map intRow) rfl rfl rfl rfl rfl rfl rfl rfl rfl rfl rfl rfl o6 rfl hL3 rfl hB2 ?_ | refine go_appSl (off2 := 0) (rr := (s.drop 0).map Arr.atR) rfl rfl rfl rfl rfl rfl rfl rfl rfl rfl rfl rfl hF4 q4 o4 rfl hL4 hB3 ?_) <;> conv => whnf) | ((first | refine go_dsplit2 rfl (fun h => ?_) (fun h => ?_) | refine go_loadB ?_ | refine ⟨by kernel_rfl, ?_⟩ | refine go_ret ?_) <;> conv => whnf) | refine go_block ?_ | ((first | refine go_skip ?_ | refine go_exit ?_) <;> conv => whnf) | refine go_true rfl ?_ | refine go_false rfl ?_ | refine go_cond rfl (fun h => ?_) (fun h => ?_) | refine ⟨rfl, ?_⟩ | ((first | refine ⟨trivial, ?_⟩ | refine ⟨le_of_ble rfl, ?_⟩) <;> conv => whnf) | fail
            all_goals first
              | (refine go_next (i + 1) (by omega) (by omega) (ref_st (fun y => if y = 1001 then nid 3 104 else if y = 1002 then nid 4 116 else y) rfl ⟨rfl, rfl, rfl, rfl, ⟨rfl, rfl⟩, ⟨?_, rfl⟩, ⟨?_, rfl⟩, next_i (by omega), trivial⟩ ⟨⟨rfl, wavs_imm _⟩, ?_, ?_, trivial⟩ (by simp [nid]) rfl (by simp))
                 · show AV.own _ _ _ = AV.own _ _ _
                   congr 1
                   rw [← hgo (.inl rfl), hlen']
                   omega
                 · show AV.own _ _ _ = AV.own _ _ _
                   congr 1
                   rw [← hgo (.inl rfl), hlen']
                   omega
                 · show some _ = some _
                   rw [← hgo (.inl rfl), List.map_append, List.map_append]
                   rfl
                 · show some _ = some _
                   rw [← hgo (.inl rfl), List.map_append, List.map_append]
                   rfl
                 done)
              | (exfalso; have h' := of_decide_eq_false h; omega)
              | (exfalso; have h' := of_decide_eq_true h; omega)
              | (exfalso; rename_i hq; have h' := of_decide_eq_true hq; omega)
              | (exfalso; rename_i hq; have h' := of_decide_eq_false hq; omega)
              | (exfalso; rename_i hq _; have h' := of_decide_eq_true hq; omega)
              | (exfalso; rename_i hq _; have h' := of_decide_eq_false hq; omega)
              | trace_state
          · obtain ⟨j, rfl⟩ : ∃ j, k = j + 1 := ⟨k - 1, by omega⟩
            obtain ⟨y, hy⟩ : ∃ y, s[j]? = some y := ⟨_, List.getElem?_eq_getElem (by omega)⟩
            have r0 : (s.map Arr.atR)[j]? = some [.int .i64 y.at'] := by rw [List.getElem?_map, hy]; rfl
            have ej : IntKind.i64.wrap (((j + 1 : Nat) : Int) - 1) = (j : Nat) := by rw [wrap_small (by omega) (by omega)]; omega
            have hdj : s.drop j = y :: s.drop (j + 1) := by
              rw [List.drop_eq_getElem_cons (show j < s.length by omega)]
              congr 1
              exact (List.getElem?_eq_some_iff.1 hy).2
            repeat' first | refine go_seq ?_ | refine go_region ?_ | refine go_miss rfl rfl rfl ?_ | refine go_undef rfl rfl rfl ?_ | refine go_draw drawsOk ?_ | ((first | refine go_op rfl ?_ | refine go_nil ?_ | refine go_hit rfl rfl rfl ?_ | refine go_splitT rfl rfl rfl (fun h => ?_) (fun h => ?_) | refine go_splitF rfl rfl rfl (fun h => ?_) (fun h => ?_) | refine go_dop rfl ?_ | refine go_dhit rfl rfl ?_ | refine go_dmiss rfl rfl ?_ | refine go_dundef rfl rfl ?_ | refine go_dend (by kernel_rfl) ?_ | refine go_pickT rfl ?_ | refine go_pickF rfl ?_ | refine go_pick rfl (fun h => ?_) (fun h => ?_) | refine go_idx rfl rfl rfl rfl (by omega) hr rfl ?_ | refine go_sliceTo (k := j + 1) (id := 1001) rfl rfl rfl rfl rfl rfl hk ?_ | refine go_sliceFrom (k := j + 1) (id := 1001) rfl rfl rfl rfl rfl rfl hk ?_ | refine go_sliceTo (k := j + 1) (id := 1002) rfl rfl rfl rfl rfl rfl hk ?_ | refine go_sliceFrom (k := j + 1) (id := 1002) rfl rfl rfl rfl rfl rfl hk ?_ | refine go_appSl (off2 := 0) (rr := (s.take (j + 1)).map Arr.idR) rfl rfl rfl rfl rfl rfl rfl rfl rfl rfl rfl rfl hF1 q1 o1 rfl rfl hB1 ?_ | refine go_append (rows2 := [x.id].map intRow) rfl rfl rfl rfl rfl rfl rfl rfl rfl rfl rfl rfl o5 rfl hL1 rfl hB2 ?_ | refine go_appSl (off2 := j + 1) (rr := (s.drop (j + 1)).map Arr.idR) rfl rfl rfl rfl rfl rfl rfl rfl rfl rfl rfl rfl hF2 q2 o2 rfl hL2 hB3 ?_ | refine go_appSl (off2 := 0) (rr := (s.take (j + 1)).map Arr.atR) rfl rfl rfl rfl rfl rfl rfl rfl rfl rfl rfl rfl hF3 q3 o3 rfl rfl hB1 ?_ | refine go_append (rows2 := [arrAt x l ds stop].map intRow) rfl rfl rfl rfl rfl rfl rfl rfl rfl rfl rfl rfl o6 rfl hL3 rfl hB2 ?_ | refine go_appSl (off2 := j + 1) (rr := (s.drop (j + 1)).map Arr.atR) rfl rfl rfl rfl rfl rfl rfl rfl rfl rfl rfl rfl hF4 q4 o4 rfl hL4 hB3 ?_ | refine go_idxOwnI (j := j) rfl rfl ej rfl rfl rfl rfl (show j < _ by omega) ?_ | refine go_loadEl (i := j) rfl rfl rfl r0 ?_) <;> conv => whnf) | ((first | refine go_dsplit2 rfl (fun h => ?_) (fun h => ?_) | refine go_loadB ?_ | refine ⟨by kernel_rfl, ?_⟩ | refine go_ret ?_) <;> conv => whnf) | refine go_block ?_ | ((first | refine go_skip ?_ | refine go_exit ?_) <;> conv => whnf) | refine go_true rfl ?_ | refine go_false rfl ?_ | refine go_cond rfl (fun h => ?_) (fun h => ?_) | refine ⟨rfl, ?_⟩ | ((first | refine ⟨trivial, ?_⟩ | refine ⟨le_of_ble rfl, ?_⟩) <;> conv => whnf) | fail
            all_goals first
              | (refine go_next j ⟨by omega, ?_⟩ (by omega) (ref_st id rfl ⟨rfl, rfl, rfl, rfl, ⟨rfl, rfl⟩, ⟨rfl, rfl⟩, ⟨rfl, rfl⟩, rfl, rfl, ?_, trivial⟩ ⟨⟨rfl, wavs_imm _⟩, rfl, rfl, trivial⟩ (by simp) rfl (by simp))
                 · intro z hz
                   rw [hdj] at hz
                   rcases List.mem_cons.1 hz with rfl | hz
                   · unfold atLt
                     simp only [decide_eq_true_eq, decide_eq_false_iff_not] at *
                     omega
                   · exact hdr z hz
                 · show AV.imm (.int .i64 _) = AV.imm (.int .i64 _)
                   rw [ej]
                 done)
              | (have hno : atLt ⟨arrAt x l ds stop, x.id⟩ y = false := by
                   unfold atLt
                   simp only [decide_eq_true_eq, decide_eq_false_iff_not] at *
                   omega
                 refine go_next (i + 1) (by omega) (by omega) (ref_st (fun y => if y = 1001 then nid 3 104 else if y = 1002 then nid 4 116 else y) rfl ⟨rfl, rfl, rfl, rfl, ⟨rfl, rfl⟩, ⟨?_, rfl⟩, ⟨?_, rfl⟩, next_i (by omega), trivial⟩ ⟨⟨rfl, wavs_imm _⟩, ?_, ?_, trivial⟩ (by simp [nid]) rfl (by simp))
                 · show AV.own _ _ _ = AV.own _ _ _
                   congr 1
                   rw [← hgo (.inr ⟨y, hy, hno⟩), hlen']
                   omega
                 · show AV.own _ _ _ = AV.own _ _ _
                   congr 1
                   rw [← hgo (.inr ⟨y, hy, hno⟩), hlen']
                   omega
                 · show some _ = some _
                   rw [← hgo (.inr ⟨y, hy, hno⟩), List.map_append, List.map_append]
                   rfl
                 · show some _ = some _
                   rw [← hgo (.inr ⟨y, hy, hno⟩), List.map_append, List.map_append]
                   rfl
                 done)
              | (exfalso; have h' := of_decide_eq_false h; omega)
              | (exfalso; have h' := of_decide_eq_true h; omega)
              | (exfalso; rename_i hq; have h' := of_decide_eq_true hq; omega)
              | (exfalso; rename_i hq; have h' := of_decide_eq_false hq; omega)
              | (exfalso; rename_i hq _; have h' := of_decide_eq_true hq; omega)
              | (exfalso; rename_i hq _; have h' := of_decide_eq_false hq; omega)
              | trace_state
        | false =>
          rw [hw, Bool.and_false] at hd
          have hnx := aS_none ds stop fr to hx hd
          have hw' := hw
          unfold arrAt stopAt at hw'
          rw [hw'] at hc5
          repeat' first | refine go_seq ?_ | refine go_region ?_ | refine go_miss rfl rfl rfl ?_ | refine go_undef rfl rfl rfl ?_ | refine go_draw drawsOk ?_ | ((first | refine go_op rfl ?_ | refine go_nil ?_ | refine go_hit rfl rfl rfl ?_ | refine go_splitT rfl rfl rfl (fun h => ?_) (fun h => ?_) | refine go_splitF rfl rfl rfl (fun h => ?_) (fun h => ?_) | refine go_dop rfl ?_ | refine go_dhit rfl rfl ?_ | refine go_dmiss rfl rfl ?_ | refine go_dundef rfl rfl ?_ | refine go_dend (by kernel_rfl) ?_ | refine go_pickT rfl ?_ | refine go_pickF rfl ?_ | refine go_pick rfl (fun h => ?_) (fun h => ?_) | refine go_call [] (hc1) rfl rfl rfl rfl ?_ | refine go_call [] (hc2) rfl rfl rfl rfl ?_ | refine go_call [] (hc3) rfl rfl rfl rfl ?_ | refine go_call [] (hc4) rfl rfl rfl rfl ?_ | refine go_call [] (hc5) rfl rfl rfl rfl ?_ | refine go_idx rfl rfl rfl rfl (by omega) hr rfl ?_) <;> conv => whnf) | ((first | refine go_dsplit2 rfl (fun h => ?_) (fun h => ?_) | refine go_loadB ?_ | refine ⟨by kernel_rfl, ?_⟩ | refine go_ret ?_) <;> conv => whnf) | refine go_block ?_ | ((first | refine go_skip ?_ | refine go_exit ?_) <;> conv => whnf) | refine go_true rfl ?_ | refine go_false rfl ?_ | refine go_cond rfl (fun h => ?_) (fun h => ?_) | refine ⟨rfl, ?_⟩ | ((first | refine ⟨trivial, ?_⟩ | refine ⟨le_of_ble rfl, ?_⟩) <;> conv => whnf) | fail
          all_goals first
            | (refine go_next (i + 1) (by omega) (by omega) (ref_st id rfl ⟨rfl, rfl, rfl, rfl, ⟨rfl, rfl⟩, ⟨?_, rfl⟩, ⟨?_, rfl⟩, next_i (by omega), trivial⟩ ⟨⟨rfl, wavs_imm _⟩, ?_, ?_, trivial⟩ (by simp) rfl (by simp)) <;> first | (show AV.own _ _ _ = AV.own _ _ _; rw [hnx]; try rfl) | (show some _ = some _; rw [hnx]; try rfl)
               done)
            | (exfalso; have h' := of_decide_eq_false h; omega)
            | (exfalso; have h' := of_decide_eq_true h; omega)
            | (exfalso; rename_i hq; have h' := of_decide_eq_true hq; omega)
            | (exfalso; rename_i hq; have h' := of_decide_eq_false hq; omega)
            | (exfalso; rename_i hq _; have h' := of_decide_eq_true hq; omega)
            | (exfalso; rename_i hq _; have h' := of_decide_eq_false hq; omega)
            | (exfalso; simp at h; done)
            | trace_state
      · rw [decide_eq_false hp0, Bool.false_and] at hd
        have hnx := aS_none ds stop fr to hx hd
        repeat' first | refine go_seq ?_ | refine go_region ?_ | refine go_miss rfl rfl rfl ?_ | refine go_undef rfl rfl rfl ?_ | refine go_draw drawsOk ?_ | ((first | refine go_op rfl ?_ | refine go_nil ?_ | refine go_hit rfl rfl rfl ?_ | refine go_splitT rfl rfl rfl (fun h => ?_) (fun h => ?_) | refine go_splitF rfl rfl rfl (fun h => ?_) (fun h => ?_) | refine go_dop rfl ?_ | refine go_dhit rfl rfl ?_ | refine go_dmiss rfl rfl ?_ | refine go_dundef rfl rfl ?_ | refine go_dend (by kernel_rfl) ?_ | refine go_pickT rfl ?_ | refine go_pickF rfl ?_ | refine go_pick rfl (fun h => ?_) (fun h => ?_) | refine go_call [] (hc1) rfl rfl rfl rfl ?_ | refine go_call [] (hc2) rfl rfl rfl rfl ?_ | refine go_call [] (hc4) rfl rfl rfl rfl ?_ | refine go_call [] (hc5) rfl rfl rfl rfl ?_ | refine go_idx rfl rfl rfl rfl (by omega) hr rfl ?_) <;> conv => whnf) | ((first | refine go_dsplit2 rfl (fun h => ?_) (fun h => ?_) | refine go_loadB ?_ | refine ⟨by kernel_rfl, ?_⟩ | refine go_ret ?_) <;> conv => whnf) | refine go_block ?_ | ((first | refine go_skip ?_ | refine go_exit ?_) <;> conv => whnf) | refine go_true rfl ?_ | refine go_false rfl ?_ | refine go_cond rfl (fun h => ?_) (fun h => ?_) | refine ⟨rfl, ?_⟩ | ((first | refine ⟨trivial, ?_⟩ | refine ⟨le_of_ble rfl, ?_⟩) <;> conv => whnf) | fail
        all_goals first
          | (refine go_next (i + 1) (by omega) (by omega) (ref_st id rfl ⟨rfl, rfl, rfl, rfl, ⟨rfl, rfl⟩, ⟨?_, rfl⟩, ⟨?_, rfl⟩, next_i (by omega), trivial⟩ ⟨⟨rfl, wavs_imm _⟩, ?_, ?_, trivial⟩ (by simp) rfl (by simp)) <;> first | (show AV.own _ _ _ = AV.own _ _ _; rw [hnx]; try rfl) | (show some _ = some _; rw [hnx]; try rfl)
             done)
          | (exfalso; have h' := of_decide_eq_false h; omega)
          | (exfalso; have h' := of_decide_eq_true h; omega)
          | (exfalso; rename_i hq; have h' := of_decide_eq_true hq; omega)
          | (exfalso; rename_i hq; have h' := of_decide_eq_false hq; omega)
          | (exfalso; rename_i hq _; have h' := of_decide_eq_true hq; omega)
          | (exfalso; rename_i hq _; have h' := of_decide_eq_false hq; omega)
          | trace_state

theorem c3 (t : Timetable) (hok_t : t.ok) (ds : List TripDelay) (_ : ∀ v ∈ ds, v.ok) (hl_ds : ds.length ≤ 9223372036854775807) (stop : Int) (_ : i64 stop) (fr : Int) (_ : i64 fr) (to : Int) (_ : i64 to) : CallOk Tryz.prog 3 [.imm (.agg t.enc), .imm (.list (ds.map TripDelay.enc)), .imm (.int .i64 stop), .imm (.int .i64 fr), .imm (.int .i64 to)] { res := [.imm (.bool true)] } := by
  refine callOk_of tyOk Tryz.func3 rfl rfl (le_of_ble rfl) (le_of_ble rfl) (mutOk_imm rfl _) ?_
  have hsz1 := c4 t hok_t (1048576) (by omega) (by omega)
  have hle1 := szTimetable_sz.le (1048576) t (by omega)
  by_cases h01 : 0 ≤ szTimetable 1048576 t
  case neg =>
    repeat' first | refine go_seq ?_ | refine go_region ?_ | refine go_miss rfl rfl rfl ?_ | refine go_undef rfl rfl rfl ?_ | refine go_draw drawsOk ?_ | ((first | refine go_op rfl ?_ | refine go_nil ?_ | refine go_hit rfl rfl rfl ?_ | refine go_splitT rfl rfl rfl (fun h => ?_) (fun h => ?_) | refine go_splitF rfl rfl rfl (fun h => ?_) (fun h => ?_) | refine go_storeBox rfl rfl rfl rfl rfl rfl ?_ | refine go_dop rfl ?_ | refine go_dhit rfl rfl ?_ | refine go_dmiss rfl rfl ?_ | refine go_dundef rfl rfl ?_ | refine go_dend (by kernel_rfl) ?_ | refine go_pickT rfl ?_ | refine go_pickF rfl ?_ | refine go_pick rfl (fun h => ?_) (fun h => ?_) | refine go_call [] (hsz1) rfl rfl rfl rfl ?_) <;> conv => whnf) | ((first | refine go_dsplit2 rfl (fun h => ?_) (fun h => ?_) | refine go_loadB ?_ | refine ⟨by kernel_rfl, ?_⟩ | refine go_ret ?_) <;> conv => whnf) | ((first | refine go_skip ?_) <;> conv => whnf) | refine go_true rfl ?_ | refine go_false rfl ?_ | refine go_cond rfl (fun h => ?_) (fun h => ?_) | refine ⟨rfl, ?_⟩ | ((first | refine ⟨trivial, ?_⟩ | refine ⟨le_of_ble rfl, ?_⟩) <;> conv => whnf) | fail
    all_goals first
      | exact ret_imm rfl rfl rfl rfl rfl rfl
      | (exfalso; have h' := of_decide_eq_false h; omega)
      | (exfalso; have h' := of_decide_eq_true h; omega)
      | (exfalso; rename_i hq; have h' := of_decide_eq_true hq; omega)
      | (exfalso; rename_i hq; have h' := of_decide_eq_false hq; omega)
      | (exfalso; rename_i hq _; have h' := of_decide_eq_true hq; omega)
      | (exfalso; rename_i hq _; have h' := of_decide_eq_false hq; omega)
      | trace_state
  have hf_t := szTimetable_fit (by omega) h01
  have hsz2 := c5 ds hl_ds (szTimetable 1048576 t) (by omega) (by omega)
  have hle2 := szTripDelayS_sz.le (szTimetable 1048576 t) ds (by omega)
  by_cases h02 : 0 ≤ szTripDelayS (szTimetable 1048576 t) ds
  case neg =>
    repeat' first | refine go_seq ?_ | refine go_region ?_ | refine go_miss rfl rfl rfl ?_ | refine go_undef rfl rfl rfl ?_ | refine go_draw drawsOk ?_ | ((first | refine go_op rfl ?_ | refine go_nil ?_ | refine go_hit rfl rfl rfl ?_ | refine go_splitT rfl rfl rfl (fun h => ?_) (fun h => ?_) | refine go_splitF rfl rfl rfl (fun h => ?_) (fun h => ?_) | refine go_storeBox rfl rfl rfl rfl rfl rfl ?_ | refine go_dop rfl ?_ | refine go_dhit rfl rfl ?_ | refine go_dmiss rfl rfl ?_ | refine go_dundef rfl rfl ?_ | refine go_dend (by kernel_rfl) ?_ | refine go_pickT rfl ?_ | refine go_pickF rfl ?_ | refine go_pick rfl (fun h => ?_) (fun h => ?_) | refine go_call [] (hsz1) rfl rfl rfl rfl ?_ | refine go_call [] (hsz2) rfl rfl rfl rfl ?_) <;> conv => whnf) | ((first | refine go_dsplit2 rfl (fun h => ?_) (fun h => ?_) | refine go_loadB ?_ | refine ⟨by kernel_rfl, ?_⟩ | refine go_ret ?_) <;> conv => whnf) | ((first | refine go_skip ?_) <;> conv => whnf) | refine go_true rfl ?_ | refine go_false rfl ?_ | refine go_cond rfl (fun h => ?_) (fun h => ?_) | refine ⟨rfl, ?_⟩ | ((first | refine ⟨trivial, ?_⟩ | refine ⟨le_of_ble rfl, ?_⟩) <;> conv => whnf) | fail
    all_goals first
      | exact ret_imm rfl rfl rfl rfl rfl rfl
      | (exfalso; have h' := of_decide_eq_false h; omega)
      | (exfalso; have h' := of_decide_eq_true h; omega)
      | (exfalso; rename_i hq; have h' := of_decide_eq_true hq; omega)
      | (exfalso; rename_i hq; have h' := of_decide_eq_false hq; omega)
      | (exfalso; rename_i hq _; have h' := of_decide_eq_true hq; omega)
      | (exfalso; rename_i hq _; have h' := of_decide_eq_false hq; omega)
      | trace_state
  have hlds : ds.length ≤ 1048576 := by have := less_pos (k := ds.length) h02; omega
  have hrl : (aaR t ds stop fr to).length ≤ 1048576 := aaR_len t hf_t ds stop fr to
  have hspec : CallOk Tryz.prog 6 [.imm (.agg t.enc), .imm (.list (((ds.map TripDelay.enc).drop 0).take (ds.map TripDelay.enc).length)), .imm (.int .i64 stop), .imm (.int .i64 fr), .imm (.int .i64 to)] { res := [.arr 3 1 ((aaR t ds stop fr to).map intRow), .imm (.bool (aaOk t ds stop fr to))] } := by rw [tripDelay_view]; exact c6 t hf_t ds hlds stop fr to
  have himpl : CallOk Tryz.prog 9 [.imm (.agg t.enc), .imm (.list (((ds.map TripDelay.enc).drop 0).take (ds.map TripDelay.enc).length)), .imm (.int .i64 stop), .imm (.int .i64 fr), .imm (.int .i64 to)] { res := [.arr 3 1 ((aaR t ds stop fr to).map intRow), .imm (.bool (aaOk t ds stop fr to))] } := by rw [tripDelay_view]; exact c9 t hf_t ds hlds stop fr to
  have hct1 := cntTimetable_le hf_t
  have hm1 := k13 t hf_t 1 (by omega) (by omega)
  have heq_ds : CallOk Tryz.prog 12 [.imm (.list (((ds.map TripDelay.enc).drop 0).take (ds.map TripDelay.enc).length)), .imm (.list (((ds.map TripDelay.enc).drop 0).take (ds.map TripDelay.enc).length))] { res := [.imm (.bool true)] } := by rw [tripDelay_view]; exact c12s ds hlds
  have hm2 := c14 ds (1 + (cntTimetable t : Nat)) (by omega) (by omega) hlds
  have hq2 := kAt_eq (k := (1 + (cntTimetable t : Nat))) (by omega) (2 * ds.length) (by omega)
  have heqR : CallOk Tryz.prog 10 [.imm (.list ((((aaR t ds stop fr to).map intRow).drop 0).take ((aaR t ds stop fr to).map intRow).length)), .imm (.list ((((aaR t ds stop fr to).map intRow).drop 0).take ((aaR t ds stop fr to).map intRow).length))] { res := [.imm (.bool true)] } := by rw [int_view]; exact c10s _ hrl
  have hmR := c15 (aaR t ds stop fr to) 1 (by omega) (by omega) hrl
  have hhR : CallOk Tryz.prog 16 [.imm (.list ((((marksIntX 1 (aaR t ds stop fr to).length).map intRow).drop 0).take ((aaR t ds stop fr to).map intRow).length)), .imm (.int .i64 1)] { res := [.imm (.int .i64 (kAt 1 (1 * (aaR t ds stop fr to).length)))] } := by
    have := c16 1 (aaR t ds stop fr to).length (by omega) (by omega) hrl
    rwa [show ((((marksIntX 1 (aaR t ds stop fr to).length).map intRow).drop 0).take ((aaR t ds stop fr to).map intRow).length) = (marksIntX 1 (aaR t ds stop fr to).length).map intRow from by rw [List.drop_zero, List.take_of_length_le (by simp [marksIntX])]]
  have hqR := kAt_eq (k := 1) (by omega) (1 * (aaR t ds stop fr to).length) (by omega)
  repeat' first | refine go_seq ?_ | refine go_region ?_ | refine go_miss rfl rfl rfl ?_ | refine go_undef rfl rfl rfl ?_ | refine go_draw drawsOk ?_ | ((first | refine go_op rfl ?_ | refine go_nil ?_ | refine go_hit rfl rfl rfl ?_ | refine go_splitT rfl rfl rfl (fun h => ?_) (fun h => ?_) | refine go_splitF rfl rfl rfl (fun h => ?_) (fun h => ?_) | refine go_storeBox rfl rfl rfl rfl rfl rfl ?_ | refine go_dop rfl ?_ | refine go_dhit rfl rfl ?_ | refine go_dmiss rfl rfl ?_ | refine go_dundef rfl rfl ?_ | refine go_dend (by kernel_rfl) ?_ | refine go_pickT rfl ?_ | refine go_pickF rfl ?_ | refine go_pick rfl (fun h => ?_) (fun h => ?_) | refine go_call [] (hsz1) rfl rfl rfl rfl ?_ | refine go_call [] (hsz2) rfl rfl rfl rfl ?_ | refine go_call [] (g7 t hf_t) rfl rfl rfl rfl ?_ | refine go_call [] (c11s t hf_t) rfl rfl rfl rfl ?_ | refine go_call [] (c8a ds hlds) rfl rfl rfl rfl ?_ | refine go_call [] (heq_ds) rfl rfl rfl rfl ?_ | refine go_call [] (hspec) rfl rfl rfl rfl ?_ | refine go_call [] (himpl) rfl rfl rfl rfl ?_ | refine go_call [] (heqR) rfl rfl rfl rfl ?_ | refine go_call [3] (hm1) rfl rfl rfl rfl ?_ | refine go_call [2, 0] hm2 (argsIn_lent rfl rfl rfl) rfl rfl rfl ?_ | refine go_call [2, 0] hmR (argsIn_lent rfl rfl rfl) rfl rfl rfl ?_ | refine go_call [] (hhR) rfl rfl rfl rfl ?_) <;> conv => whnf) | ((first | refine go_dsplit2 rfl (fun h => ?_) (fun h => ?_) | refine go_loadB ?_ | refine ⟨by kernel_rfl, ?_⟩ | refine go_ret ?_) <;> conv => whnf) | ((first | refine go_skip ?_) <;> conv => whnf) | refine go_true rfl ?_ | refine go_false rfl ?_ | refine go_cond rfl (fun h => ?_) (fun h => ?_) | refine ⟨rfl, ?_⟩ | ((first | refine ⟨trivial, ?_⟩ | refine ⟨le_of_ble rfl, ?_⟩) <;> conv => whnf) | fail
  all_goals first
    | exact ret_imm rfl rfl rfl rfl rfl rfl
    | (exfalso; simp at h; done)
    | (exfalso; simp at h; omega)
    | (exfalso; have h' := of_decide_eq_false h; omega)
    | (exfalso; have h' := of_decide_eq_true h; omega)
    | (exfalso; rename_i hq; have h' := of_decide_eq_true hq; omega)
    | (exfalso; rename_i hq; have h' := of_decide_eq_false hq; omega)
    | (exfalso; rename_i hq _; have h' := of_decide_eq_true hq; omega)
    | (exfalso; rename_i hq _; have h' := of_decide_eq_false hq; omega)
    | trace_state
end Go.Proofs.YtiedooadnafghaaGreat

