/- The rows of a board are fit for their texts; the reference's rows (out of r4/E13). -/
import Derived.Test.YtkfdhhljjeihgaaGreatDoorE12
import Derived.Test.YtkfdhhljjeihgaaGreatDoorKE
namespace Go.Proofs.YtkfdhhljjeihgaaGreatDoor
open Go Go.Am
set_option maxRecDepth 100000
set_option maxHeartbeats 4000000
attribute [local irreducible] amOps amC opCall opIndexAddr opPick retQ opMake opStore amDraw opAppend opLoad opNilCmp opIndex opSlice

def brOk (t : Timetable) (ds : List TripDelay) (stop now count : Int) : Bool := nbOk t ds stop now && inR count 1 10
def brF (t : Timetable) (ds : List TripDelay) (stop now count : Int) : List BoardRow := if brOk t ds stop now count then brR t ds stop now count else []
theorem brF_len (t : Timetable) (hf : t.fit) (ds : List TripDelay) (stop now count : Int) : (brF t ds stop now count).length ≤ 1048576 := by
  unfold brF
  split
  · unfold brR
    rw [List.length_map]
    have h1 := brs_len now count (sortL depLt (deps t ds stop))
    rw [sortL_len depWeak] at h1
    have h2 := deps_le t ds stop
    have h3 : t.trips.length ≤ 1048576 := hf.2.1
    omega
  · simp
theorem nb_ok {t : Timetable} {ds : List TripDelay} {stop now : Int} (h : nbOk t ds stop now = true) : ttOk t = true := by
  unfold nbOk delaysOk at h
  simp only [Bool.and_eq_true] at h
  exact h.1.1

theorem c14 (t : Timetable) (hf : t.fit) (ds : List TripDelay) (hl : ds.length ≤ 1048576) (stop now count : Int) : CallOk Tryz.prog 14 [.imm (.agg t.enc), .imm (.list (ds.map TripDelay.enc)), .imm (.int .i64 stop), .imm (.int .i64 now), .imm (.int .i64 count)] { res := [.arr 53 4 ((brF t ds stop now count).map BoardRow.enc), .imm (.bool (brOk t ds stop now count))] } := by
  refine callOk_of tyOk Tryz.func14 rfl rfl (le_of_ble rfl) (le_of_ble rfl) (mutOk_imm rfl _) ?_
  have hc0 := c27 t hf ds hl stop
  have hc1 := c28 now
  have hc3 := c29 count 1 10
  cases hp : brOk t ds stop now count with
  | false =>
    have e1 : brF t ds stop now count = [] := by unfold brF; rw [hp]; rfl
    rw [e1]
    unfold brOk nbOk at hp
    repeat' first | refine go_seq ?_ | refine go_region ?_ | refine go_miss rfl rfl rfl ?_ | refine go_undef rfl rfl rfl ?_ | ((first | refine go_op rfl ?_ | refine go_nil ?_ | refine go_hit rfl rfl rfl ?_ | refine go_splitT rfl rfl rfl (fun h => ?_) (fun h => ?_) | refine go_splitF rfl rfl rfl (fun h => ?_) (fun h => ?_) | refine go_pickT rfl ?_ | refine go_pickF rfl ?_ | refine go_pick rfl (fun h => ?_) (fun h => ?_) | refine go_call [] (hc0) rfl rfl rfl rfl ?_ | refine go_call [] (hc1) rfl rfl rfl rfl ?_ | refine go_call [] (hc3) rfl rfl rfl rfl ?_) <;> conv => whnf) | ((first | refine go_loadB ?_ | refine ⟨by kernel_rfl, ?_⟩ | refine go_ret ?_) <;> conv => whnf) | ((first | refine go_skip ?_) <;> conv => whnf) | refine go_true rfl ?_ | refine go_false rfl ?_ | refine go_cond rfl (fun h => ?_) (fun h => ?_) | refine ⟨rfl, ?_⟩ | ((first | refine ⟨trivial, ?_⟩ | refine ⟨le_of_ble rfl, ?_⟩) <;> conv => whnf) | fail
    all_goals first
      | exact ret_arr2 rfl rfl rfl rfl rfl rfl (by intro r hr; cases hr) rfl rfl rfl
      | (exfalso; simp_all; done)
      | trace_state
  | true =>
    have e1 : brF t ds stop now count = brR t ds stop now count := by unfold brF; rw [hp]; rfl
    rw [e1]
    unfold brOk at hp
    simp only [Bool.and_eq_true] at hp
    have hok := nb_ok hp.1
    have hp1 := hp.1
    unfold nbOk at hp1
    simp only [Bool.and_eq_true] at hp1
    rw [hp1.1, hp1.2.1] at hc0
    rw [hp1.2.2] at hc1
    rw [hp.2] at hc3
    have hcn := (inR_iff _ _ _).1 hp.2
    have hc2 := c30 t hf hok ds hl stop now
    have hbq := brR_eq t ds stop now count
    generalize hrs : (sA t ds stop now).map (rowEnc t) = rows at *
    have hc4 := c31 count rows.length
    have e4 : (if count < (rows.length : Int) then count else (rows.length : Int)) = ((min count.toNat rows.length : Nat) : Int) := by split <;> omega
    rw [e4] at hc4
    have htk : rows.take (min count.toNat rows.length) = (brR t ds stop now count).map BoardRow.enc := by
      rw [hbq]
      by_cases h : count.toNat ≤ rows.length
      · rw [Nat.min_eq_left h]
      · rw [Nat.min_eq_right (by omega), List.take_of_length_le (Nat.le_refl _), List.take_of_length_le (by omega)]
    have hkn : min count.toNat rows.length ≤ rows.length := Nat.min_le_right _ _
    repeat' first | refine go_seq ?_ | refine go_region ?_ | refine go_miss rfl rfl rfl ?_ | refine go_undef rfl rfl rfl ?_ | ((first | refine go_op rfl ?_ | refine go_nil ?_ | refine go_hit rfl rfl rfl ?_ | refine go_splitT rfl rfl rfl (fun h => ?_) (fun h => ?_) | refine go_splitF rfl rfl rfl (fun h => ?_) (fun h => ?_) | refine go_pickT rfl ?_ | refine go_pickF rfl ?_ | refine go_pick rfl (fun h => ?_) (fun h => ?_) | refine go_call [] (hc0) rfl rfl rfl rfl ?_ | refine go_call [] (hc1) rfl rfl rfl rfl ?_ | refine go_call [] (hc2) rfl rfl rfl rfl ?_ | refine go_call [] (hc3) rfl rfl rfl rfl ?_ | refine go_call [] (hc4) rfl rfl rfl rfl ?_ | refine go_sliceTo (k := min count.toNat rows.length) rfl rfl rfl rfl rfl rfl hkn ?_) <;> conv => whnf) | ((first | refine go_loadB ?_ | refine ⟨by kernel_rfl, ?_⟩ | refine go_ret ?_) <;> conv => whnf) | ((first | refine go_skip ?_) <;> conv => whnf) | refine go_true rfl ?_ | refine go_false rfl ?_ | refine go_cond rfl (fun h => ?_) (fun h => ?_) | refine ⟨rfl, ?_⟩ | ((first | refine ⟨trivial, ?_⟩ | refine ⟨le_of_ble rfl, ?_⟩) <;> conv => whnf) | fail
    all_goals first
      | exact ret_arr2 rfl rfl rfl rfl rfl (by rw [List.drop_zero]; exact htk) (boardRow_gr _) rfl rfl rfl
      | (exfalso; simp at h; done)
      | trace_state


theorem dep_time {t : Timetable} {ds : List TripDelay} {stop : Int} {i : Nat} {x : Trip} {l : Line} (hg : Good t i x l) {d : Dep} (hd : depOf t ds stop x = some d) : d.time ≤ 5999 := by
  have hd' := hd
  unfold depOf at hd'
  rw [hg.on.ln] at hd'
  simp only at hd'
  split at hd'
  · rename_i hgo
    injection hd' with hd'
    subst hd'
    simp only [goes, Bool.and_eq_true, decide_eq_true_eq] at hgo
    have := hg.rs
    have := hg.r5
    show stopAt x l (plAt l stop).toNat ≤ 5999
    rw [hg.at _ (by omega)]
    have := hg.bd (plAt l stop).toNat (by omega)
    have := (inR_iff _ _ _).1 hg.st
    omega
  · cases hd'

theorem del_in {t : Timetable} {ds : List TripDelay} (h : delaysIn t ds = true) (id : Int) : 0 ≤ delOf ds id ∧ delOf ds id ≤ 600 := by
  unfold delOf
  split
  · rename_i v hv
    obtain ⟨j, hj⟩ := List.getElem?_of_mem (List.mem_of_find?_eq_some hv)
    have h1 := (allI_iff.1 h) _ _ hj
    unfold dAt at h1
    simp only [Bool.and_eq_true] at h1
    exact (inR_iff _ _ _).1 h1.2.2
  · omega

theorem name_len {s : ByteArray} (h : nameOk s = true) : (bytes s).length ≤ 8 := by
  unfold nameOk at h
  simp only [Bool.and_eq_true] at h
  have := (inR_iff _ _ _).1 h.1.1
  rw [bytes_len]
  omega
theorem names_at {xs : List ByteArray} (h : namesOk xs = true) {j : Nat} {s : ByteArray} (hs : xs[j]? = some s) : nameOk s = true := by
  have h1 := (allI_iff.1 h) _ _ hs
  simp only [Bool.and_eq_true] at h1
  exact h1.1

theorem brR_fit {t : Timetable} {ds : List TripDelay} {stop now count : Int} (hnb : nbOk t ds stop now = true) : ∀ r ∈ brR t ds stop now count, RowFit r now := by
  intro r hr
  have hok := nb_ok hnb
  have hnb' := hnb
  unfold nbOk delaysOk at hnb'
  simp only [Bool.and_eq_true] at hnb'
  have hnow := (inR_iff _ _ _).1 hnb'.2.2
  obtain ⟨d, hd, rfl⟩ := List.mem_map.1 hr
  unfold brs at hd
  have hd1 := List.mem_filter.1 (List.mem_of_mem_take hd)
  have hd2 := mem_sortL hd1.1
  obtain ⟨x, hx, hdx⟩ := List.mem_filterMap.1 hd2
  obtain ⟨i, hi⟩ := List.getElem?_of_mem hx
  obtain ⟨l, hg⟩ := good_of hok hi
  obtain ⟨e1, e2, e3⟩ := dep_facts hg hdx
  have e4 := dep_time hg hdx
  have e5 := del_in hnb'.1.2 x.id
  have e6 := of_decide_eq_true hd1.2
  unfold kw at e6
  rw [← e1] at e5
  have hw : IntKind.i64.wrap (d.time + d.delay) = d.time + d.delay := wrap_small (by omega) (by omega)
  rw [hw] at e6
  obtain ⟨q1, q2, q3, q4⟩ := lastS_in hok hg.on.ln
  have hn : netOk t.net = true := by unfold ttOk at hok; simp only [Bool.and_eq_true] at hok; exact hok.1
  unfold netOk at hn
  simp only [Bool.and_eq_true] at hn
  have h1 : (bytes (lineNm t d)).length ≤ 8 := by
    unfold lineNm
    rw [e2, hg.on.ln]
    exact name_len (names_at hn.1.2 (by unfold lineNames; rw [List.getElem?_map, hg.on.ln]; rfl))
  have h2 : (bytes (destNm t d)).length ≤ 8 := by
    unfold destNm
    rw [e2, hg.on.ln]
    refine name_len (names_at hn.1.1.2 (j := (lastS l).toNat) ?_)
    show t.net.stops[(lastS l).toNat]? = some (t.net.stops.getD (lastS l).toNat .empty)
    rw [List.getD_eq_getElem?_getD, List.getElem?_eq_getElem (by omega)]
    rfl
  exact ⟨⟨e3, e4⟩, e5, h1, h2, hnow, e6⟩

/-- The text of a board. -/
def linesT (now : Int) (rs : List BoardRow) : List UInt8 := (rs.map fun r => rowT r now ++ [10]).flatten
theorem linesT_next {now : Int} {rs : List BoardRow} {i : Nat} {r : BoardRow} (h : rs[i]? = some r) : linesT now (rs.take (i + 1)) = linesT now (rs.take i) ++ (rowT r now ++ [10]) := by
  unfold linesT
  rw [List.take_add_one, h]
  simp
theorem rowT_len {r : BoardRow} {now : Int} (h : RowFit r now) : (rowT r now).length ≤ 100 := by
  obtain ⟨⟨ht0, ht1⟩, ⟨hd0, hd1⟩, hl8, hm8, ⟨hn0, hn1⟩, hle⟩ := h
  have hq1 := padL_len (bytes r.line) 8
  have hq2 := padL_len (bytes r.dest) 8
  have hc5 : (clockL r.time.toNat).length = 5 := rfl
  have hdue : (rowDue r now).length ≤ 25 := by
    unfold rowDue
    split
    · simp
    · split
      · have := Lg.num_len 18 (r.time + r.delay - now).toNat (by omega)
        have h2 : (numT (r.time + r.delay - now).toNat).length ≤ 19 := Nat.le_trans this (by omega)
        simp only [List.length_append, List.length_cons, List.length_nil]
        omega
      · simp
  unfold rowT
  rw [padL_len]
  have : (rowHead r).length ≤ 40 := by
    unfold rowHead
    simp only [List.length_append, List.length_cons, List.length_nil, hc5, hq1, hq2]
    omega
  rw [List.length_append]
  omega
theorem linesT_len {now : Int} : ∀ {rs : List BoardRow}, (∀ r ∈ rs, RowFit r now) → (linesT now rs).length ≤ rs.length * 101
  | [], _ => by simp [linesT]
  | r :: rs, h => by
    have h1 := rowT_len (h r (by simp))
    have h2 := linesT_len (rs := rs) fun r hr => h r (by simp [hr])
    unfold linesT at h2 ⊢
    simp only [List.map_cons, List.flatten_cons, List.length_append, List.length_cons, List.length_nil]
    omega
theorem brR_len (t : Timetable) (hf : t.fit) (ds : List TripDelay) (stop now count : Int) : (brR t ds stop now count).length ≤ 1048576 := by
  unfold brR
  rw [List.length_map]
  have h1 := brs_len now count (sortL depLt (deps t ds stop))
  rw [sortL_len depWeak] at h1
  have h2 := deps_le t ds stop
  have h3 : t.trips.length ≤ 1048576 := hf.2.1
  omega
end Go.Proofs.YtkfdhhljjeihgaaGreatDoor

