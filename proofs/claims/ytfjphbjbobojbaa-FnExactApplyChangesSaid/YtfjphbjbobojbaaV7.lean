/- Changes applied: the reference. -/
import Derived.Test.YtfjphbjbobojbaaV6
import Derived.Test.YtfjphbjbobojbaaV40
import Derived.Test.YtfjphbjbobojbaaAmF
namespace Go.Proofs.Ytfjphbjbobojbaa
open Go Go.Am
set_option maxRecDepth 100000
set_option maxHeartbeats 8000000
attribute [local irreducible] amOps amC opCall opIndexAddr opPick retQ opMake opStore amDraw opAppend opLoad opNilCmp opIndex opSlice

def prevC (cs : List Change) : Nat → Option Int
  | 0 => none
  | j + 1 => (cs[j]?).map fun c => c.trip.id
theorem find_at {xs : List Trip} {k : Int} (h : 0 ≤ findT xs k) : ∃ (j : Nat) (y : Trip), j < xs.length ∧ xs[j]? = some y ∧ y.id = k ∧ findT xs k = j := by
  unfold findT idxF at h ⊢
  split at h
  · rename_i ha
    rw [if_pos ha]
    have hlt : xs.findIdx (fun y => decide (y.id = k)) < xs.length := List.findIdx_lt_length_of_exists (by simpa using List.any_eq_true.1 ha)
    have := List.findIdx_getElem (w := hlt)
    exact ⟨_, _, hlt, List.getElem?_eq_getElem hlt, by simpa using this, rfl⟩
  · omega

/-- The loop's state: while changes are left, the trips are an array of its own; then they are given up. -/
def ownS (N : Nat) (t : Timetable) (cs : List Change) (x : Nat × List Trip) : S :=
  st N [(1, .imm (.list (cs.map Change.enc))), (2, .box 1003 0), (4, .box 1000 0), (6, .box 1004 0), (7, .box 1001 0), (8, .imm (.int .i64 (x.1 : Nat)))]
    [(1000, .box 37 ([.list [], .list [], .list []].map .imm)), (1001, .box 37 [.imm (.list (t.net.stops.map strRow)), .imm (.list (t.net.lines.map Line.enc)), .own 1002 0 (x.2.map Trip.enc).length]), (1002, .arr 54 3 (x.2.map Trip.enc)), (1003, .box 37 (t.enc.map .imm)), (1004, .box 37 ([.list [], .list [], .list []].map .imm))] []
def frzS (N : Nat) (t : Timetable) (cs : List Change) (x : Nat × List Trip) : S :=
  st N [(1, .imm (.list (cs.map Change.enc))), (2, .box 1003 0), (4, .box 1000 0), (6, .box 1004 0), (7, .box 1001 0), (8, .imm (.int .i64 (x.1 : Nat)))]
    [(1000, .box 37 ([.list [], .list [], .list []].map .imm)), (1001, .box 37 [.imm (.list (t.net.stops.map strRow)), .imm (.list (t.net.lines.map Line.enc)), .imm (.list (x.2.map Trip.enc))]), (1003, .box 37 (t.enc.map .imm)), (1004, .box 37 ([.list [], .list [], .list []].map .imm))] []
theorem own_frz (N : Nat) (t : Timetable) (cs : List Change) (x : Nat × List Trip) : Ref (ownS N t cs x) (frzS N t cs x) := by
  refine Ref.trans (ref_freezeBox (b := 1001) (id := 1002) (j := 2) rfl rfl rfl) ?_
  refine ref_st id rfl ⟨rfl, ⟨rfl, rfl⟩, ⟨rfl, rfl⟩, ⟨rfl, rfl⟩, ⟨rfl, rfl⟩, rfl, trivial⟩ ⟨⟨rfl, wavs_imm _⟩, ⟨rfl, rfl, rfl, ?_, trivial⟩, ⟨rfl, wavs_imm _⟩, ⟨rfl, wavs_imm _⟩, trivial⟩ (by simp) rfl (by simp)
  show AV.imm _ = AV.imm _
  rw [List.drop_zero, List.take_length]
theorem ref_F {N : Nat} {t : Timetable} {cs : List Change} {x : Nat × List Trip} {σ : S} (h : Ref σ (ownS N t cs x)) : Ref σ (if x.1 < cs.length then ownS N t cs x else frzS N t cs x) := by
  split
  · exact h
  · exact Ref.trans h (own_frz N t cs x)

theorem c18 (t : Timetable) (hf : t.fit) (hv : ttOk t = true) (cs : List Change) (hl : cs.length ≤ 1048576) : CallOk Try.prog 18 [.imm (.agg t.enc), .imm (.list (cs.map Change.enc))]
    { res := [.imm (.agg (apT t cs).enc), .imm (.bool (apOk t cs))], sep := false } := by
  refine callOk_of tyOk Try.func18 rfl rfl (le_of_ble rfl) (le_of_ble rfl) (mutOk_imm rfl _) ?_
  have h1 := c37 t hf
  have ht12 := tt_12 hv
  have hta := tt_asc hv
  by_cases hlong : 24 < cs.length
  · have e1 : apT t cs = ttNone := by unfold apT apO; rw [if_pos hlong]
    have e2 : apOk t cs = false := by unfold apOk apO; rw [if_pos hlong]
    rw [e1, e2]
    repeat' first | refine go_seq ?_ | refine go_region ?_ | refine go_miss rfl rfl rfl ?_ | refine go_undef rfl rfl rfl ?_ | refine go_draw drawsOk ?_ | ((first | refine go_op rfl ?_ | refine go_nil ?_ | refine go_hit rfl rfl rfl ?_ | refine go_splitT rfl rfl rfl (fun h => ?_) (fun h => ?_) | refine go_splitF rfl rfl rfl (fun h => ?_) (fun h => ?_) | refine go_storeBox rfl rfl rfl rfl rfl rfl ?_ | refine go_dop rfl ?_ | refine go_dhit rfl rfl ?_ | refine go_dmiss rfl rfl ?_ | refine go_dundef rfl rfl ?_ | refine go_dend (by kernel_rfl) ?_ | refine go_pickT rfl ?_ | refine go_pickF rfl ?_ | refine go_pick rfl (fun h => ?_) (fun h => ?_)) <;> conv => whnf) | ((first | refine Or.inl ?_ | refine go_dsplit2 rfl (fun h => ?_) (fun h => ?_) | refine go_loadB ?_ | refine ⟨by kernel_rfl, ?_⟩ | refine go_ret ?_) <;> conv => whnf) | refine go_block ?_ | ((first | refine go_skip ?_ | refine go_exit ?_) <;> conv => whnf) | refine go_true rfl ?_ | refine go_false rfl ?_ | refine go_cond rfl (fun h => ?_) (fun h => ?_) | refine ⟨rfl, ?_⟩ | ((first | refine ⟨trivial, ?_⟩ | refine ⟨le_of_ble rfl, ?_⟩) <;> conv => whnf) | fail
    all_goals first
      | exact ret_all rfl ⟨⟨rfl, fun h => by cases h⟩, ⟨rfl, fun h => by cases h⟩, trivial⟩ List.nodup_nil List.nodup_nil trivial
      | (exfalso; simp at h; omega)
      | trace_state
  have eO : apO' t cs = foldC cs t.trips none := by unfold apO'; rw [if_neg hlong]
  have hap := ap_ref hv cs
  rw [eO] at hap
  have eNone : foldC cs t.trips none = none → apT t cs = ttNone ∧ apOk t cs = false := fun h => by
    rw [h] at hap
    have : apO t cs = none := by rcases hap with h1 | h1; exact h1.symm; exact h1.1
    unfold apT apOk
    rw [this]
    exact ⟨rfl, rfl⟩
  have eSome : ∀ out, foldC cs t.trips none = some out → apT t cs = ckT ⟨t.net, out⟩ ∧ apOk t cs = ttOk ⟨t.net, out⟩ := fun out h => by
    rw [h] at hap
    rcases hap with h1 | ⟨h1, h2⟩
    · unfold apT apOk ckT
      rw [← h1]
      exact ⟨rfl, rfl⟩
    · have h3 := h2 out rfl
      unfold apT apOk ckT
      rw [h1, h3]
      exact ⟨rfl, rfl⟩
  repeat' first | refine go_seq ?_ | refine go_region ?_ | refine go_miss rfl rfl rfl ?_ | refine go_undef rfl rfl rfl ?_ | refine go_draw drawsOk ?_ | ((first | refine go_op rfl ?_ | refine go_nil ?_ | refine go_hit rfl rfl rfl ?_ | refine go_splitT rfl rfl rfl (fun h => ?_) (fun h => ?_) | refine go_splitF rfl rfl rfl (fun h => ?_) (fun h => ?_) | refine go_storeBox rfl rfl rfl rfl rfl rfl ?_ | refine go_dop rfl ?_ | refine go_dhit rfl rfl ?_ | refine go_dmiss rfl rfl ?_ | refine go_dundef rfl rfl ?_ | refine go_dend (by kernel_rfl) ?_ | refine go_pickT rfl ?_ | refine go_pickF rfl ?_ | refine go_pick rfl (fun h => ?_) (fun h => ?_) | refine go_call [] (h1) rfl rfl rfl rfl ?_) <;> conv => whnf) | ((first | refine Or.inl ?_ | refine go_dsplit2 rfl (fun h => ?_) (fun h => ?_) | refine go_loadB ?_ | refine ⟨by kernel_rfl, ?_⟩ | refine go_ret ?_) <;> conv => whnf) | refine go_block ?_ | ((first | refine go_skip ?_ | refine go_exit ?_) <;> conv => whnf) | refine go_true rfl ?_ | refine go_false rfl ?_ | refine go_cond rfl (fun h => ?_) (fun h => ?_) | refine ⟨rfl, ?_⟩ | ((first | refine ⟨trivial, ?_⟩ | refine ⟨le_of_ble rfl, ?_⟩) <;> conv => whnf) | fail
  all_goals try first
    | (exfalso; simp at h; omega)
  refine go_loop (α := Nat × List Trip) (fun x => x.1 ≤ cs.length ∧ foldC (cs.drop x.1) x.2 (prevC cs x.1) = foldC cs t.trips none ∧ x.2.length ≤ 12 + x.1 ∧ SInv t.trips x.2 (prevC cs x.1)) (fun x => cs.length - x.1)
    (fun x => if x.1 < cs.length then ownS Try.f18.ntmps t cs x else frzS Try.f18.ntmps t cs x) (0, t.trips) ⟨Nat.zero_le _, rfl, ht12, ⟨hta, fun y _ => Iff.rfl⟩⟩ (ref_F ?_) ?_
  · exact ref_st (fun i => if i = 1000 then nid 1 4 else if i = 1001 then nid 4 7 else if i = 1002 then rid 4 20 2 else if i = 1003 then nid 1 2 else nid 2 6) rfl ⟨rfl, ⟨rfl, rfl⟩, ⟨rfl, rfl⟩, ⟨rfl, rfl⟩, ⟨rfl, rfl⟩, rfl, trivial⟩ ⟨⟨rfl, wavs_imm _⟩, ⟨rfl, rfl, rfl, ⟨rfl, rfl⟩, trivial⟩, rfl, ⟨rfl, wavs_imm _⟩, ⟨rfl, wavs_imm _⟩, trivial⟩ (by simp [nid, rid]) rfl (by simp)
  rintro ⟨i, out⟩ ⟨hi, hfold, hol, hinv⟩
  simp only at hi hfold hol hinv
  have hofit : (⟨t.net, out⟩ : Timetable).fit := ⟨hf.1, by simp only; omega, fun x _ => trivial⟩
  have hview : ((out.map Trip.enc).drop 0).take (out.map Trip.enc).length = out.map Trip.enc := trip_view out
  cases hx : cs[i]? with
  | none =>
    have hge := le_of_at hx
    rw [List.drop_eq_nil_of_le hge] at hfold
    obtain ⟨e1, e2⟩ := eSome out hfold.symm
    rw [e1, e2]
    have hC : CallOk Try.prog 17 [.imm (.agg [.list (t.net.stops.map strRow), .list (t.net.lines.map Line.enc), .list (out.map Trip.enc)])] { res := [.imm (.bool (ttOk ⟨t.net, out⟩))] } := c17 ⟨t.net, out⟩ hofit
    unfold ckT
    simp only [if_neg (show ¬ i < cs.length by omega)]
    unfold frzS
    cases hok : ttOk ⟨t.net, out⟩ with
    | true =>
      rw [hok] at hC
      rw [if_pos rfl]
      repeat' first | refine go_seq ?_ | refine go_region ?_ | refine go_miss rfl rfl rfl ?_ | refine go_undef rfl rfl rfl ?_ | refine go_draw drawsOk ?_ | ((first | refine go_op rfl ?_ | refine go_nil ?_ | refine go_hit rfl rfl rfl ?_ | refine go_splitT rfl rfl rfl (fun h => ?_) (fun h => ?_) | refine go_splitF rfl rfl rfl (fun h => ?_) (fun h => ?_) | refine go_storeBox rfl rfl rfl rfl rfl rfl ?_ | refine go_dop rfl ?_ | refine go_dhit rfl rfl ?_ | refine go_dmiss rfl rfl ?_ | refine go_dundef rfl rfl ?_ | refine go_dend (by kernel_rfl) ?_ | refine go_pickT rfl ?_ | refine go_pickF rfl ?_ | refine go_pick rfl (fun h => ?_) (fun h => ?_) | refine go_call [] (hC) rfl rfl rfl rfl ?_) <;> conv => whnf) | ((first | refine Or.inl ?_ | refine go_dsplit2 rfl (fun h => ?_) (fun h => ?_) | refine go_loadB ?_ | refine ⟨by kernel_rfl, ?_⟩ | refine go_ret ?_) <;> conv => whnf) | refine go_block ?_ | ((first | refine go_skip ?_ | refine go_exit ?_) <;> conv => whnf) | refine go_true rfl ?_ | refine go_false rfl ?_ | refine go_cond rfl (fun h => ?_) (fun h => ?_) | refine ⟨rfl, ?_⟩ | ((first | refine ⟨trivial, ?_⟩ | refine ⟨le_of_ble rfl, ?_⟩) <;> conv => whnf) | fail
      all_goals first
        | exact ret_all rfl ⟨⟨rfl, fun h => by cases h⟩, ⟨rfl, fun h => by cases h⟩, trivial⟩ List.nodup_nil List.nodup_nil trivial
        | (exfalso; simp at h; done)
        | (exfalso; simp at h; omega)
        | trace_state
    | false =>
      rw [hok] at hC
      rw [if_neg (by simp)]
      repeat' first | refine go_seq ?_ | refine go_region ?_ | refine go_miss rfl rfl rfl ?_ | refine go_undef rfl rfl rfl ?_ | refine go_draw drawsOk ?_ | ((first | refine go_op rfl ?_ | refine go_nil ?_ | refine go_hit rfl rfl rfl ?_ | refine go_splitT rfl rfl rfl (fun h => ?_) (fun h => ?_) | refine go_splitF rfl rfl rfl (fun h => ?_) (fun h => ?_) | refine go_storeBox rfl rfl rfl rfl rfl rfl ?_ | refine go_dop rfl ?_ | refine go_dhit rfl rfl ?_ | refine go_dmiss rfl rfl ?_ | refine go_dundef rfl rfl ?_ | refine go_dend (by kernel_rfl) ?_ | refine go_pickT rfl ?_ | refine go_pickF rfl ?_ | refine go_pick rfl (fun h => ?_) (fun h => ?_) | refine go_call [] (hC) rfl rfl rfl rfl ?_) <;> conv => whnf) | ((first | refine Or.inl ?_ | refine go_dsplit2 rfl (fun h => ?_) (fun h => ?_) | refine go_loadB ?_ | refine ⟨by kernel_rfl, ?_⟩ | refine go_ret ?_) <;> conv => whnf) | refine go_block ?_ | ((first | refine go_skip ?_ | refine go_exit ?_) <;> conv => whnf) | refine go_true rfl ?_ | refine go_false rfl ?_ | refine go_cond rfl (fun h => ?_) (fun h => ?_) | refine ⟨rfl, ?_⟩ | ((first | refine ⟨trivial, ?_⟩ | refine ⟨le_of_ble rfl, ?_⟩) <;> conv => whnf) | fail
      all_goals first
        | exact ret_all rfl ⟨⟨rfl, fun h => by cases h⟩, ⟨rfl, fun h => by cases h⟩, trivial⟩ List.nodup_nil List.nodup_nil trivial
        | (exfalso; simp at h; done)
        | (exfalso; simp at h; omega)
        | trace_state
  | some c =>
    have hlt := lt_of_at hx
    have hr := row_at Change.enc hx
    simp only [if_pos hlt]
    unfold ownS
    rw [fold_next hx] at hfold
    have hnx : prevC cs (i + 1) = some c.trip.id := by simp [prevC, hx]
    have hFt := c38 t (by omega) c.trip.id
    have hFo : CallOk Try.prog 38 [.imm (.agg [.list (t.net.stops.map strRow), .list (t.net.lines.map Line.enc), .list (((out.map Trip.enc).drop 0).take (out.map Trip.enc).length)]), .imm (.int .i64 c.trip.id)] { res := [.imm (.int .i64 (findT out c.trip.id))] } := by
      rw [hview]; exact c38 ⟨t.net, out⟩ (by simp only; omega) c.trip.id
    cases i with
    | zero =>
      have hlow : tooLow (prevC cs 0) c = false := rfl
      have hlk : ∀ l, prevC cs (0) = some l → l < c.trip.id := fun l hl => by
        rw [hl] at hlow; simp only [tooLow, decide_eq_false_iff_not] at hlow; omega
      have hfind := hinv.find hlk
      have hsame := hinv.same hta hlk
      by_cases k1 : c.kind = 1 ∧ c.to = 0 ∧ findT out c.trip.id < 0
      · have hst : stepC out c = some (insT out c.trip) := by unfold stepC; rw [if_pos k1]
        rw [foldC_some hlow hst] at hfold
        have hnl := step_len hst
        have hneg := hfind.2 k1.2.2
        have hW : CallOk Try.prog 39 [.imm (.agg [.list (t.net.stops.map strRow), .list (t.net.lines.map Line.enc), .list (((out.map Trip.enc).drop 0).take (out.map Trip.enc).length)]), .imm (.agg c.trip.enc)]
            { res := [.imm (.list (t.net.stops.map strRow)), .imm (.list (t.net.lines.map Line.enc)), .arr 54 3 ((insT out c.trip).map Trip.enc)], sep := false, agg := true } := by
          rw [hview]; exact c39 ⟨t.net, out⟩ hofit c.trip
        obtain ⟨kk, tr, tt⟩ := c
        obtain ⟨rfl, rfl, k13⟩ := k1
        try dsimp only at hnl
        repeat' first | refine go_seq ?_ | refine go_region ?_ | refine go_miss rfl rfl rfl ?_ | refine go_undef rfl rfl rfl ?_ | refine go_draw drawsOk ?_ | ((first | refine go_op rfl ?_ | refine go_nil ?_ | refine go_hit rfl rfl rfl ?_ | refine go_splitT rfl rfl rfl (fun h => ?_) (fun h => ?_) | refine go_splitF rfl rfl rfl (fun h => ?_) (fun h => ?_) | refine go_storeBox rfl rfl rfl rfl rfl rfl ?_ | refine go_dop rfl ?_ | refine go_dhit rfl rfl ?_ | refine go_dmiss rfl rfl ?_ | refine go_dundef rfl rfl ?_ | refine go_dend (by kernel_rfl) ?_ | refine go_pickT rfl ?_ | refine go_pickF rfl ?_ | refine go_pick rfl (fun h => ?_) (fun h => ?_) | refine go_call [] (hFt) rfl rfl rfl rfl ?_ | refine go_call [1, 0] (hW) rfl rfl rfl rfl ?_ | refine go_idx rfl rfl rfl rfl (by omega) hr rfl ?_) <;> conv => whnf) | ((first | refine Or.inl ?_ | refine go_dsplit2 rfl (fun h => ?_) (fun h => ?_) | refine go_loadB ?_ | refine ⟨by kernel_rfl, ?_⟩ | refine go_ret ?_) <;> conv => whnf) | refine go_block ?_ | ((first | refine go_skip ?_ | refine go_exit ?_) <;> conv => whnf) | refine go_true rfl ?_ | refine go_false rfl ?_ | refine go_cond rfl (fun h => ?_) (fun h => ?_) | refine ⟨rfl, ?_⟩ | ((first | refine ⟨trivial, ?_⟩ | refine ⟨le_of_ble rfl, ?_⟩) <;> conv => whnf) | fail
        all_goals first
          | (refine go_next (0 + 1, insT out tr) ⟨by simp only; omega, by simp only [hnx]; exact hfold, by simp only; omega, by simp only [hnx]; exact hinv.step hlow hst⟩ (by simp only; omega) (ref_F ?_); exact ref_st (fun i => if i = 1002 then rid 8 81 2 else i) rfl ⟨rfl, ⟨rfl, rfl⟩, ⟨rfl, rfl⟩, ⟨rfl, rfl⟩, ⟨rfl, rfl⟩, next_i (by omega), trivial⟩ ⟨⟨rfl, wavs_imm _⟩, ⟨rfl, rfl, rfl, ⟨rfl, rfl⟩, trivial⟩, rfl, ⟨rfl, wavs_imm _⟩, ⟨rfl, wavs_imm _⟩, trivial⟩ (by simp [nid, rid]) rfl (by simp))
          | (exfalso; simp at h; done)
          | (exfalso; simp at h; omega)
          | (exfalso; have h' := of_decide_eq_true h; omega)
          | (exfalso; have h' := of_decide_eq_false h; omega)
          | (exfalso; rename_i a0; have h' := of_decide_eq_true a0; omega)
          | (exfalso; rename_i a0; have h' := of_decide_eq_false a0; omega)
          | (exfalso; rename_i a0 a1; have h' := of_decide_eq_true a0; omega)
          | (exfalso; rename_i a0 a1; have h' := of_decide_eq_false a0; omega)
          | (exfalso; rename_i a0 a1 a2; have h' := of_decide_eq_true a0; omega)
          | (exfalso; rename_i a0 a1 a2; have h' := of_decide_eq_false a0; omega)
          | (exfalso; rename_i a0 a1 a2 a3; have h' := of_decide_eq_true a0; omega)
          | (exfalso; rename_i a0 a1 a2 a3; have h' := of_decide_eq_false a0; omega)
          | (exfalso; rename_i a0 a1 a2 a3 a4; have h' := of_decide_eq_true a0; omega)
          | (exfalso; rename_i a0 a1 a2 a3 a4; have h' := of_decide_eq_false a0; omega)
          | (exfalso; simp_all; done)
          | (exfalso; simp_all; omega)
          | trace_state
      have hst1 : stepC out c = if c.kind = 2 ∧ c.to = 0 ∧ 0 ≤ placeT out c.trip then some (delAt out (placeT out c.trip).toNat) else if c.kind = 3 ∧ c.to ≠ c.trip.start ∧ 0 ≤ placeT out c.trip then some (setS out (placeT out c.trip).toNat c.to) else none := by
        unfold stepC; rw [if_neg k1]
      by_cases k2 : c.kind = 2 ∧ c.to = 0 ∧ 0 ≤ placeT out c.trip
      · obtain ⟨k, hk1, hk2, hk3⟩ := place_at k2.2.2
        have hst : stepC out c = some (delAt out k) := by rw [hst1, if_pos k2, hk3]; rfl
        rw [foldC_some hlow hst] at hfold
        have hnl := step_len hst
        rw [(asc_at hinv.asc hk2).1] at hFo
        obtain ⟨m, hm⟩ := List.getElem?_of_mem ((sameB_iff hta).1 (hsame.2 k2.2.2))
        rw [(asc_at hta hm).1] at hFt
        have hrt : (t.trips.map Trip.enc)[((m : Nat) : Int).toNat]? = some c.trip.enc := row_at Trip.enc hm
        have hW : CallOk Try.prog 40 [.imm (.agg [.list (t.net.stops.map strRow), .list (t.net.lines.map Line.enc), .list (((out.map Trip.enc).drop 0).take (out.map Trip.enc).length)]), .imm (.int .i64 (k : Int))]
            { res := [.imm (.list (t.net.stops.map strRow)), .imm (.list (t.net.lines.map Line.enc)), .arr 54 3 ((delAt out k).map Trip.enc)], sep := false, agg := true } := by
          rw [hview]; exact c40 ⟨t.net, out⟩ hofit k hk1
        obtain ⟨kk, tr, tt⟩ := c
        obtain ⟨rfl, rfl, k13⟩ := k2
        try dsimp only at hnl
        repeat' first | refine go_seq ?_ | refine go_region ?_ | refine go_miss rfl rfl rfl ?_ | refine go_undef rfl rfl rfl ?_ | refine go_draw drawsOk ?_ | ((first | refine go_op rfl ?_ | refine go_nil ?_ | refine go_hit rfl rfl rfl ?_ | refine go_splitT rfl rfl rfl (fun h => ?_) (fun h => ?_) | refine go_splitF rfl rfl rfl (fun h => ?_) (fun h => ?_) | refine go_storeBox rfl rfl rfl rfl rfl rfl ?_ | refine go_dop rfl ?_ | refine go_dhit rfl rfl ?_ | refine go_dmiss rfl rfl ?_ | refine go_dundef rfl rfl ?_ | refine go_dend (by kernel_rfl) ?_ | refine go_pickT rfl ?_ | refine go_pickF rfl ?_ | refine go_pick rfl (fun h => ?_) (fun h => ?_) | refine go_call [] (hFt) rfl rfl rfl rfl ?_ | refine go_call [] (hFo) rfl rfl rfl rfl ?_ | refine go_call [1, 0] (hW) rfl rfl rfl rfl ?_ | refine go_idx rfl rfl rfl rfl (by omega) hrt rfl ?_ | refine go_idx rfl rfl rfl rfl (by omega) hr rfl ?_) <;> conv => whnf) | ((first | refine Or.inl ?_ | refine go_dsplit2 rfl (fun h => ?_) (fun h => ?_) | refine go_loadB ?_ | refine ⟨by kernel_rfl, ?_⟩ | refine go_ret ?_) <;> conv => whnf) | refine go_block ?_ | ((first | refine go_skip ?_ | refine go_exit ?_) <;> conv => whnf) | refine go_true rfl ?_ | refine go_false rfl ?_ | refine go_cond rfl (fun h => ?_) (fun h => ?_) | refine ⟨rfl, ?_⟩ | ((first | refine ⟨trivial, ?_⟩ | refine ⟨le_of_ble rfl, ?_⟩) <;> conv => whnf) | fail
        all_goals first
          | (refine go_next (0 + 1, delAt out k) ⟨by simp only; omega, by simp only [hnx]; exact hfold, by simp only; omega, by simp only [hnx]; exact hinv.step hlow hst⟩ (by simp only; omega) (ref_F ?_); exact ref_st (fun i => if i = 1002 then rid 9 100 2 else i) rfl ⟨rfl, ⟨rfl, rfl⟩, ⟨rfl, rfl⟩, ⟨rfl, rfl⟩, ⟨rfl, rfl⟩, next_i (by omega), trivial⟩ ⟨⟨rfl, wavs_imm _⟩, ⟨rfl, rfl, rfl, ⟨rfl, rfl⟩, trivial⟩, rfl, ⟨rfl, wavs_imm _⟩, ⟨rfl, wavs_imm _⟩, trivial⟩ (by simp [nid, rid]) rfl (by simp))
          | (exfalso; simp at h; done)
          | (exfalso; simp at h; omega)
          | (exfalso; have h' := of_decide_eq_true h; omega)
          | (exfalso; have h' := of_decide_eq_false h; omega)
          | (exfalso; rename_i a0; have h' := of_decide_eq_true a0; omega)
          | (exfalso; rename_i a0; have h' := of_decide_eq_false a0; omega)
          | (exfalso; rename_i a0 a1; have h' := of_decide_eq_true a0; omega)
          | (exfalso; rename_i a0 a1; have h' := of_decide_eq_false a0; omega)
          | (exfalso; rename_i a0 a1 a2; have h' := of_decide_eq_true a0; omega)
          | (exfalso; rename_i a0 a1 a2; have h' := of_decide_eq_false a0; omega)
          | (exfalso; rename_i a0 a1 a2 a3; have h' := of_decide_eq_true a0; omega)
          | (exfalso; rename_i a0 a1 a2 a3; have h' := of_decide_eq_false a0; omega)
          | (exfalso; rename_i a0 a1 a2 a3 a4; have h' := of_decide_eq_true a0; omega)
          | (exfalso; rename_i a0 a1 a2 a3 a4; have h' := of_decide_eq_false a0; omega)
          | (exfalso; simp_all; done)
          | (exfalso; simp_all; omega)
          | trace_state
      by_cases k3 : c.kind = 3 ∧ c.to ≠ c.trip.start ∧ 0 ≤ placeT out c.trip
      · obtain ⟨k, hk1, hk2, hk3⟩ := place_at k3.2.2
        have hst : stepC out c = some (setS out k c.to) := by rw [hst1, if_neg k2, if_pos k3, hk3]; rfl
        rw [foldC_some hlow hst] at hfold
        have hnl := step_len hst
        rw [(asc_at hinv.asc hk2).1] at hFo
        obtain ⟨m, hm⟩ := List.getElem?_of_mem ((sameB_iff hta).1 (hsame.2 k3.2.2))
        rw [(asc_at hta hm).1] at hFt
        have hrt : (t.trips.map Trip.enc)[((m : Nat) : Int).toNat]? = some c.trip.enc := row_at Trip.enc hm
        have hkl : k < (out.map Trip.enc).length := by rw [List.length_map]; exact hk1
        have hat : (out.map Trip.enc)[k]? = some c.trip.enc := by simp [hk2]
        have hset : (out.map Trip.enc).set k (setAt c.trip.enc 0 [.int .i64 c.trip.id, .int .i64 c.trip.line, .int .i64 c.to]) = (setS out k c.to).map Trip.enc := by
          rw [setS_at hk2, List.map_set]; rfl
        obtain ⟨kk, tr, tt⟩ := c
        obtain ⟨k31, k32, k13⟩ := k3
        simp only at k31 k32
        subst k31
        try dsimp only at hnl
        repeat' first | refine go_seq ?_ | refine go_region ?_ | refine go_miss rfl rfl rfl ?_ | refine go_undef rfl rfl rfl ?_ | refine go_draw drawsOk ?_ | ((first | refine go_op rfl ?_ | refine go_nil ?_ | refine go_hit rfl rfl rfl ?_ | refine go_splitT rfl rfl rfl (fun h => ?_) (fun h => ?_) | refine go_splitF rfl rfl rfl (fun h => ?_) (fun h => ?_) | refine go_storeBox rfl rfl rfl rfl rfl rfl ?_ | refine go_dop rfl ?_ | refine go_dhit rfl rfl ?_ | refine go_dmiss rfl rfl ?_ | refine go_dundef rfl rfl ?_ | refine go_dend (by kernel_rfl) ?_ | refine go_pickT rfl ?_ | refine go_pickF rfl ?_ | refine go_pick rfl (fun h => ?_) (fun h => ?_) | refine go_call [] (hFt) rfl rfl rfl rfl ?_ | refine go_call [] (hFo) rfl rfl rfl rfl ?_ | refine go_idx rfl rfl rfl rfl (by omega) hrt rfl ?_ | refine go_idx rfl rfl rfl rfl (by omega) hr rfl ?_ | refine go_idxOwn rfl rfl rfl rfl rfl rfl hkl ?_ | refine go_loadEl rfl rfl rfl hat ?_ | refine go_storeEl rfl rfl rfl rfl hat rfl rfl hset ?_) <;> conv => whnf) | ((first | refine Or.inl ?_ | refine go_dsplit2 rfl (fun h => ?_) (fun h => ?_) | refine go_loadB ?_ | refine ⟨by kernel_rfl, ?_⟩ | refine go_ret ?_) <;> conv => whnf) | refine go_block ?_ | ((first | refine go_skip ?_ | refine go_exit ?_) <;> conv => whnf) | refine go_true rfl ?_ | refine go_false rfl ?_ | refine go_cond rfl (fun h => ?_) (fun h => ?_) | refine ⟨rfl, ?_⟩ | ((first | refine ⟨trivial, ?_⟩ | refine ⟨le_of_ble rfl, ?_⟩) <;> conv => whnf) | fail
        all_goals first
          | (refine go_next (0 + 1, setS out k tt) ⟨by simp only; omega, by simp only [hnx]; exact hfold, by simp only; omega, by simp only [hnx]; exact hinv.step hlow hst⟩ (by simp only; omega) (ref_F ?_); exact ref_st id rfl ⟨rfl, ⟨rfl, rfl⟩, ⟨rfl, rfl⟩, ⟨rfl, rfl⟩, ⟨rfl, rfl⟩, next_i (by omega), trivial⟩ ⟨⟨rfl, wavs_imm _⟩, ⟨rfl, rfl, rfl, ⟨(by show AV.own 1002 0 (out.map Trip.enc).length = AV.own 1002 0 ((setS out k tt).map Trip.enc).length; rw [List.length_map, List.length_map, setS_len]), rfl⟩, trivial⟩, rfl, ⟨rfl, wavs_imm _⟩, ⟨rfl, wavs_imm _⟩, trivial⟩ (by simp) rfl (by simp))
          | (exfalso; simp at h; done)
          | (exfalso; simp at h; omega)
          | (exfalso; have h' := of_decide_eq_true h; omega)
          | (exfalso; have h' := of_decide_eq_false h; omega)
          | (exfalso; rename_i a0; have h' := of_decide_eq_true a0; omega)
          | (exfalso; rename_i a0; have h' := of_decide_eq_false a0; omega)
          | (exfalso; rename_i a0 a1; have h' := of_decide_eq_true a0; omega)
          | (exfalso; rename_i a0 a1; have h' := of_decide_eq_false a0; omega)
          | (exfalso; rename_i a0 a1 a2; have h' := of_decide_eq_true a0; omega)
          | (exfalso; rename_i a0 a1 a2; have h' := of_decide_eq_false a0; omega)
          | (exfalso; rename_i a0 a1 a2 a3; have h' := of_decide_eq_true a0; omega)
          | (exfalso; rename_i a0 a1 a2 a3; have h' := of_decide_eq_false a0; omega)
          | (exfalso; rename_i a0 a1 a2 a3 a4; have h' := of_decide_eq_true a0; omega)
          | (exfalso; rename_i a0 a1 a2 a3 a4; have h' := of_decide_eq_false a0; omega)
          | (exfalso; simp_all; done)
          | (exfalso; simp_all; omega)
          | trace_state
      have hst : stepC out c = none := by rw [hst1, if_neg k2, if_neg k3]
      rw [foldC_none hst] at hfold
      obtain ⟨e1', e2'⟩ := eNone hfold.symm
      rw [e1', e2']
      by_cases hge : 0 ≤ findT t.trips c.trip.id
      · obtain ⟨m, y, hm1, hm2, hm3, hm4⟩ := find_at hge
        have hrt : (t.trips.map Trip.enc)[((m : Nat) : Int).toNat]? = some y.enc := row_at Trip.enc hm2
        have hsb : sameB t.trips c.trip = y.beq c.trip := by unfold sameB; rw [hm4, Int.toNat_natCast, hm2]; simp
        rw [hsb] at hsame
        unfold Trip.beq at hsame
        rw [hm4] at hFt
        repeat' first | refine go_seq ?_ | refine go_region ?_ | refine go_miss rfl rfl rfl ?_ | refine go_undef rfl rfl rfl ?_ | refine go_draw drawsOk ?_ | ((first | refine go_op rfl ?_ | refine go_nil ?_ | refine go_hit rfl rfl rfl ?_ | refine go_splitT rfl rfl rfl (fun h => ?_) (fun h => ?_) | refine go_splitF rfl rfl rfl (fun h => ?_) (fun h => ?_) | refine go_storeBox rfl rfl rfl rfl rfl rfl ?_ | refine go_dop rfl ?_ | refine go_dhit rfl rfl ?_ | refine go_dmiss rfl rfl ?_ | refine go_dundef rfl rfl ?_ | refine go_dend (by kernel_rfl) ?_ | refine go_pickT rfl ?_ | refine go_pickF rfl ?_ | refine go_pick rfl (fun h => ?_) (fun h => ?_) | refine go_call [] (hFt) rfl rfl rfl rfl ?_ | refine go_idx rfl rfl rfl rfl (by omega) hrt rfl ?_ | refine go_idx rfl rfl rfl rfl (by omega) hr rfl ?_) <;> conv => whnf) | ((first | refine Or.inl ?_ | refine go_dsplit2 rfl (fun h => ?_) (fun h => ?_) | refine go_loadB ?_ | refine ⟨by kernel_rfl, ?_⟩ | refine go_ret ?_) <;> conv => whnf) | refine go_block ?_ | ((first | refine go_skip ?_ | refine go_exit ?_) <;> conv => whnf) | refine go_true rfl ?_ | refine go_false rfl ?_ | refine go_cond rfl (fun h => ?_) (fun h => ?_) | refine ⟨rfl, ?_⟩ | ((first | refine ⟨trivial, ?_⟩ | refine ⟨le_of_ble rfl, ?_⟩) <;> conv => whnf) | fail
        all_goals first
          | exact ret_all rfl ⟨⟨rfl, fun h => by cases h⟩, ⟨rfl, fun h => by cases h⟩, trivial⟩ List.nodup_nil List.nodup_nil trivial
          | (exfalso; rename_i a2 a1; exact k2 ⟨of_decide_eq_true a2, of_decide_eq_true h, hsame.1 (by simpa using a1)⟩)
          | (exfalso; rename_i a2 a1; exact k3 ⟨of_decide_eq_true a2, by simpa using h, hsame.1 (by simpa using a1)⟩)
          | (exfalso; simp at h; done)
          | (exfalso; simp at h; omega)
          | (exfalso; have h' := of_decide_eq_true h; omega)
          | (exfalso; have h' := of_decide_eq_false h; omega)
          | (exfalso; rename_i a0; have h' := of_decide_eq_true a0; omega)
          | (exfalso; rename_i a0; have h' := of_decide_eq_false a0; omega)
          | (exfalso; rename_i a0 a1; have h' := of_decide_eq_true a0; omega)
          | (exfalso; rename_i a0 a1; have h' := of_decide_eq_false a0; omega)
          | (exfalso; rename_i a0 a1 a2; have h' := of_decide_eq_true a0; omega)
          | (exfalso; rename_i a0 a1 a2; have h' := of_decide_eq_false a0; omega)
          | (exfalso; rename_i a0 a1 a2 a3; have h' := of_decide_eq_true a0; omega)
          | (exfalso; rename_i a0 a1 a2 a3; have h' := of_decide_eq_false a0; omega)
          | (exfalso; rename_i a0 a1 a2 a3 a4; have h' := of_decide_eq_true a0; omega)
          | (exfalso; rename_i a0 a1 a2 a3 a4; have h' := of_decide_eq_false a0; omega)
          | (exfalso; simp_all; done)
          | (exfalso; simp_all; omega)
          | trace_state
      · have hpn : ¬ 0 ≤ placeT out c.trip := fun h => by
          have h2 := hsame.2 h
          unfold sameB at h2
          simp only [Bool.and_eq_true, decide_eq_true_eq] at h2
          exact hge h2.1
        have hfo : findT out c.trip.id < 0 := hfind.1 (by omega)
        repeat' first | refine go_seq ?_ | refine go_region ?_ | refine go_miss rfl rfl rfl ?_ | refine go_undef rfl rfl rfl ?_ | refine go_draw drawsOk ?_ | ((first | refine go_op rfl ?_ | refine go_nil ?_ | refine go_hit rfl rfl rfl ?_ | refine go_splitT rfl rfl rfl (fun h => ?_) (fun h => ?_) | refine go_splitF rfl rfl rfl (fun h => ?_) (fun h => ?_) | refine go_storeBox rfl rfl rfl rfl rfl rfl ?_ | refine go_dop rfl ?_ | refine go_dhit rfl rfl ?_ | refine go_dmiss rfl rfl ?_ | refine go_dundef rfl rfl ?_ | refine go_dend (by kernel_rfl) ?_ | refine go_pickT rfl ?_ | refine go_pickF rfl ?_ | refine go_pick rfl (fun h => ?_) (fun h => ?_) | refine go_call [] (hFt) rfl rfl rfl rfl ?_ | refine go_idx rfl rfl rfl rfl (by omega) hr rfl ?_) <;> conv => whnf) | ((first | refine Or.inl ?_ | refine go_dsplit2 rfl (fun h => ?_) (fun h => ?_) | refine go_loadB ?_ | refine ⟨by kernel_rfl, ?_⟩ | refine go_ret ?_) <;> conv => whnf) | refine go_block ?_ | ((first | refine go_skip ?_ | refine go_exit ?_) <;> conv => whnf) | refine go_true rfl ?_ | refine go_false rfl ?_ | refine go_cond rfl (fun h => ?_) (fun h => ?_) | refine ⟨rfl, ?_⟩ | ((first | refine ⟨trivial, ?_⟩ | refine ⟨le_of_ble rfl, ?_⟩) <;> conv => whnf) | fail
        all_goals first
          | exact ret_all rfl ⟨⟨rfl, fun h => by cases h⟩, ⟨rfl, fun h => by cases h⟩, trivial⟩ List.nodup_nil List.nodup_nil trivial
          | (exfalso; simp at h; done)
          | (exfalso; simp at h; omega)
          | (exfalso; have h' := of_decide_eq_true h; omega)
          | (exfalso; have h' := of_decide_eq_false h; omega)
          | (exfalso; rename_i a0; have h' := of_decide_eq_true a0; omega)
          | (exfalso; rename_i a0; have h' := of_decide_eq_false a0; omega)
          | (exfalso; rename_i a0 a1; have h' := of_decide_eq_true a0; omega)
          | (exfalso; rename_i a0 a1; have h' := of_decide_eq_false a0; omega)
          | (exfalso; rename_i a0 a1 a2; have h' := of_decide_eq_true a0; omega)
          | (exfalso; rename_i a0 a1 a2; have h' := of_decide_eq_false a0; omega)
          | (exfalso; rename_i a0 a1 a2 a3; have h' := of_decide_eq_true a0; omega)
          | (exfalso; rename_i a0 a1 a2 a3; have h' := of_decide_eq_false a0; omega)
          | (exfalso; rename_i a0 a1 a2 a3 a4; have h' := of_decide_eq_true a0; omega)
          | (exfalso; rename_i a0 a1 a2 a3 a4; have h' := of_decide_eq_false a0; omega)
          | (exfalso; simp_all; done)
          | (exfalso; simp_all; omega)
          | trace_state
    | succ j =>
      obtain ⟨d, hd⟩ : ∃ d, cs[j]? = some d := ⟨_, List.getElem?_eq_getElem (by omega)⟩
      have hpd : prevC cs (j + 1) = some d.trip.id := by simp [prevC, hd]
      have e1 : IntKind.i64.wrap (((j + 1 : Nat) : Int) - 1) = (j : Int) := by rw [wrap_small (by omega) (by omega)]; omega
      have hrd : (cs.map Change.enc)[(IntKind.i64.wrap (((j + 1 : Nat) : Int) - 1)).toNat]? = some d.enc := by rw [e1]; exact row_at Change.enc hd
      cases hlow : tooLow (prevC cs (j + 1)) c with
      | true =>
        rw [foldC_low hlow] at hfold
        rw [hpd] at hlow
        simp only [tooLow, decide_eq_true_eq] at hlow
        obtain ⟨e1', e2'⟩ := eNone hfold.symm
        rw [e1', e2']
        repeat' first | refine go_seq ?_ | refine go_region ?_ | refine go_miss rfl rfl rfl ?_ | refine go_undef rfl rfl rfl ?_ | refine go_draw drawsOk ?_ | ((first | refine go_op rfl ?_ | refine go_nil ?_ | refine go_hit rfl rfl rfl ?_ | refine go_splitT rfl rfl rfl (fun h => ?_) (fun h => ?_) | refine go_splitF rfl rfl rfl (fun h => ?_) (fun h => ?_) | refine go_storeBox rfl rfl rfl rfl rfl rfl ?_ | refine go_dop rfl ?_ | refine go_dhit rfl rfl ?_ | refine go_dmiss rfl rfl ?_ | refine go_dundef rfl rfl ?_ | refine go_dend (by kernel_rfl) ?_ | refine go_pickT rfl ?_ | refine go_pickF rfl ?_ | refine go_pick rfl (fun h => ?_) (fun h => ?_) | refine go_idx rfl rfl rfl rfl (by rw [e1]; omega) hrd rfl ?_ | refine go_idx rfl rfl rfl rfl (by omega) hr rfl ?_) <;> conv => whnf) | ((first | refine Or.inl ?_ | refine go_dsplit2 rfl (fun h => ?_) (fun h => ?_) | refine go_loadB ?_ | refine ⟨by kernel_rfl, ?_⟩ | refine go_ret ?_) <;> conv => whnf) | refine go_block ?_ | ((first | refine go_skip ?_ | refine go_exit ?_) <;> conv => whnf) | refine go_true rfl ?_ | refine go_false rfl ?_ | refine go_cond rfl (fun h => ?_) (fun h => ?_) | refine ⟨rfl, ?_⟩ | ((first | refine ⟨trivial, ?_⟩ | refine ⟨le_of_ble rfl, ?_⟩) <;> conv => whnf) | fail
        all_goals first
          | exact ret_all rfl ⟨⟨rfl, fun h => by cases h⟩, ⟨rfl, fun h => by cases h⟩, trivial⟩ List.nodup_nil List.nodup_nil trivial
          | (exfalso; simp at h; done)
          | (exfalso; simp at h; omega)
          | (exfalso; have h' := of_decide_eq_true h; omega)
          | (exfalso; have h' := of_decide_eq_false h; omega)
          | (exfalso; rename_i a0; have h' := of_decide_eq_true a0; omega)
          | (exfalso; rename_i a0; have h' := of_decide_eq_false a0; omega)
          | (exfalso; rename_i a0 a1; have h' := of_decide_eq_true a0; omega)
          | (exfalso; rename_i a0 a1; have h' := of_decide_eq_false a0; omega)
          | (exfalso; rename_i a0 a1 a2; have h' := of_decide_eq_true a0; omega)
          | (exfalso; rename_i a0 a1 a2; have h' := of_decide_eq_false a0; omega)
          | (exfalso; rename_i a0 a1 a2 a3; have h' := of_decide_eq_true a0; omega)
          | (exfalso; rename_i a0 a1 a2 a3; have h' := of_decide_eq_false a0; omega)
          | (exfalso; rename_i a0 a1 a2 a3 a4; have h' := of_decide_eq_true a0; omega)
          | (exfalso; rename_i a0 a1 a2 a3 a4; have h' := of_decide_eq_false a0; omega)
          | (exfalso; simp_all; done)
          | (exfalso; simp_all; omega)
          | trace_state
      | false =>
        have hlow2 : ¬ c.trip.id ≤ d.trip.id := by rw [hpd] at hlow; simpa [tooLow] using hlow
        have hlk : ∀ l, prevC cs ((j + 1)) = some l → l < c.trip.id := fun l hl => by
          rw [hl] at hlow; simp only [tooLow, decide_eq_false_iff_not] at hlow; omega
        have hfind := hinv.find hlk
        have hsame := hinv.same hta hlk
        by_cases k1 : c.kind = 1 ∧ c.to = 0 ∧ findT out c.trip.id < 0
        · have hst : stepC out c = some (insT out c.trip) := by unfold stepC; rw [if_pos k1]
          rw [foldC_some hlow hst] at hfold
          have hnl := step_len hst
          have hneg := hfind.2 k1.2.2
          have hW : CallOk Try.prog 39 [.imm (.agg [.list (t.net.stops.map strRow), .list (t.net.lines.map Line.enc), .list (((out.map Trip.enc).drop 0).take (out.map Trip.enc).length)]), .imm (.agg c.trip.enc)]
              { res := [.imm (.list (t.net.stops.map strRow)), .imm (.list (t.net.lines.map Line.enc)), .arr 54 3 ((insT out c.trip).map Trip.enc)], sep := false, agg := true } := by
            rw [hview]; exact c39 ⟨t.net, out⟩ hofit c.trip
          obtain ⟨kk, tr, tt⟩ := c
          obtain ⟨rfl, rfl, k13⟩ := k1
          try dsimp only at hnl
          repeat' first | refine go_seq ?_ | refine go_region ?_ | refine go_miss rfl rfl rfl ?_ | refine go_undef rfl rfl rfl ?_ | refine go_draw drawsOk ?_ | ((first | refine go_op rfl ?_ | refine go_nil ?_ | refine go_hit rfl rfl rfl ?_ | refine go_splitT rfl rfl rfl (fun h => ?_) (fun h => ?_) | refine go_splitF rfl rfl rfl (fun h => ?_) (fun h => ?_) | refine go_storeBox rfl rfl rfl rfl rfl rfl ?_ | refine go_dop rfl ?_ | refine go_dhit rfl rfl ?_ | refine go_dmiss rfl rfl ?_ | refine go_dundef rfl rfl ?_ | refine go_dend (by kernel_rfl) ?_ | refine go_pickT rfl ?_ | refine go_pickF rfl ?_ | refine go_pick rfl (fun h => ?_) (fun h => ?_) | refine go_call [] (hFt) rfl rfl rfl rfl ?_ | refine go_call [1, 0] (hW) rfl rfl rfl rfl ?_ | refine go_idx rfl rfl rfl rfl (by rw [e1]; omega) hrd rfl ?_ | refine go_idx rfl rfl rfl rfl (by omega) hr rfl ?_) <;> conv => whnf) | ((first | refine Or.inl ?_ | refine go_dsplit2 rfl (fun h => ?_) (fun h => ?_) | refine go_loadB ?_ | refine ⟨by kernel_rfl, ?_⟩ | refine go_ret ?_) <;> conv => whnf) | refine go_block ?_ | ((first | refine go_skip ?_ | refine go_exit ?_) <;> conv => whnf) | refine go_true rfl ?_ | refine go_false rfl ?_ | refine go_cond rfl (fun h => ?_) (fun h => ?_) | refine ⟨rfl, ?_⟩ | ((first | refine ⟨trivial, ?_⟩ | refine ⟨le_of_ble rfl, ?_⟩) <;> conv => whnf) | fail
          all_goals first
            | (refine go_next ((j + 1) + 1, insT out tr) ⟨by simp only; omega, by simp only [hnx]; exact hfold, by simp only; omega, by simp only [hnx]; exact hinv.step hlow hst⟩ (by simp only; omega) (ref_F ?_); exact ref_st (fun i => if i = 1002 then rid 8 81 2 else i) rfl ⟨rfl, ⟨rfl, rfl⟩, ⟨rfl, rfl⟩, ⟨rfl, rfl⟩, ⟨rfl, rfl⟩, next_i (by omega), trivial⟩ ⟨⟨rfl, wavs_imm _⟩, ⟨rfl, rfl, rfl, ⟨rfl, rfl⟩, trivial⟩, rfl, ⟨rfl, wavs_imm _⟩, ⟨rfl, wavs_imm _⟩, trivial⟩ (by simp [nid, rid]) rfl (by simp))
            | (exfalso; simp at h; done)
            | (exfalso; simp at h; omega)
            | (exfalso; have h' := of_decide_eq_true h; omega)
            | (exfalso; have h' := of_decide_eq_false h; omega)
            | (exfalso; rename_i a0; have h' := of_decide_eq_true a0; omega)
            | (exfalso; rename_i a0; have h' := of_decide_eq_false a0; omega)
            | (exfalso; rename_i a0 a1; have h' := of_decide_eq_true a0; omega)
            | (exfalso; rename_i a0 a1; have h' := of_decide_eq_false a0; omega)
            | (exfalso; rename_i a0 a1 a2; have h' := of_decide_eq_true a0; omega)
            | (exfalso; rename_i a0 a1 a2; have h' := of_decide_eq_false a0; omega)
            | (exfalso; rename_i a0 a1 a2 a3; have h' := of_decide_eq_true a0; omega)
            | (exfalso; rename_i a0 a1 a2 a3; have h' := of_decide_eq_false a0; omega)
            | (exfalso; rename_i a0 a1 a2 a3 a4; have h' := of_decide_eq_true a0; omega)
            | (exfalso; rename_i a0 a1 a2 a3 a4; have h' := of_decide_eq_false a0; omega)
            | (exfalso; simp_all; done)
            | (exfalso; simp_all; omega)
            | trace_state
        have hst1 : stepC out c = if c.kind = 2 ∧ c.to = 0 ∧ 0 ≤ placeT out c.trip then some (delAt out (placeT out c.trip).toNat) else if c.kind = 3 ∧ c.to ≠ c.trip.start ∧ 0 ≤ placeT out c.trip then some (setS out (placeT out c.trip).toNat c.to) else none := by
          unfold stepC; rw [if_neg k1]
        by_cases k2 : c.kind = 2 ∧ c.to = 0 ∧ 0 ≤ placeT out c.trip
        · obtain ⟨k, hk1, hk2, hk3⟩ := place_at k2.2.2
          have hst : stepC out c = some (delAt out k) := by rw [hst1, if_pos k2, hk3]; rfl
          rw [foldC_some hlow hst] at hfold
          have hnl := step_len hst
          rw [(asc_at hinv.asc hk2).1] at hFo
          obtain ⟨m, hm⟩ := List.getElem?_of_mem ((sameB_iff hta).1 (hsame.2 k2.2.2))
          rw [(asc_at hta hm).1] at hFt
          have hrt : (t.trips.map Trip.enc)[((m : Nat) : Int).toNat]? = some c.trip.enc := row_at Trip.enc hm
          have hW : CallOk Try.prog 40 [.imm (.agg [.list (t.net.stops.map strRow), .list (t.net.lines.map Line.enc), .list (((out.map Trip.enc).drop 0).take (out.map Trip.enc).length)]), .imm (.int .i64 (k : Int))]
              { res := [.imm (.list (t.net.stops.map strRow)), .imm (.list (t.net.lines.map Line.enc)), .arr 54 3 ((delAt out k).map Trip.enc)], sep := false, agg := true } := by
            rw [hview]; exact c40 ⟨t.net, out⟩ hofit k hk1
          obtain ⟨kk, tr, tt⟩ := c
          obtain ⟨rfl, rfl, k13⟩ := k2
          try dsimp only at hnl
          repeat' first | refine go_seq ?_ | refine go_region ?_ | refine go_miss rfl rfl rfl ?_ | refine go_undef rfl rfl rfl ?_ | refine go_draw drawsOk ?_ | ((first | refine go_op rfl ?_ | refine go_nil ?_ | refine go_hit rfl rfl rfl ?_ | refine go_splitT rfl rfl rfl (fun h => ?_) (fun h => ?_) | refine go_splitF rfl rfl rfl (fun h => ?_) (fun h => ?_) | refine go_storeBox rfl rfl rfl rfl rfl rfl ?_ | refine go_dop rfl ?_ | refine go_dhit rfl rfl ?_ | refine go_dmiss rfl rfl ?_ | refine go_dundef rfl rfl ?_ | refine go_dend (by kernel_rfl) ?_ | refine go_pickT rfl ?_ | refine go_pickF rfl ?_ | refine go_pick rfl (fun h => ?_) (fun h => ?_) | refine go_call [] (hFt) rfl rfl rfl rfl ?_ | refine go_call [] (hFo) rfl rfl rfl rfl ?_ | refine go_call [1, 0] (hW) rfl rfl rfl rfl ?_ | refine go_idx rfl rfl rfl rfl (by rw [e1]; omega) hrd rfl ?_ | refine go_idx rfl rfl rfl rfl (by omega) hrt rfl ?_ | refine go_idx rfl rfl rfl rfl (by omega) hr rfl ?_) <;> conv => whnf) | ((first | refine Or.inl ?_ | refine go_dsplit2 rfl (fun h => ?_) (fun h => ?_) | refine go_loadB ?_ | refine ⟨by kernel_rfl, ?_⟩ | refine go_ret ?_) <;> conv => whnf) | refine go_block ?_ | ((first | refine go_skip ?_ | refine go_exit ?_) <;> conv => whnf) | refine go_true rfl ?_ | refine go_false rfl ?_ | refine go_cond rfl (fun h => ?_) (fun h => ?_) | refine ⟨rfl, ?_⟩ | ((first | refine ⟨trivial, ?_⟩ | refine ⟨le_of_ble rfl, ?_⟩) <;> conv => whnf) | fail
          all_goals first
            | (refine go_next ((j + 1) + 1, delAt out k) ⟨by simp only; omega, by simp only [hnx]; exact hfold, by simp only; omega, by simp only [hnx]; exact hinv.step hlow hst⟩ (by simp only; omega) (ref_F ?_); exact ref_st (fun i => if i = 1002 then rid 9 100 2 else i) rfl ⟨rfl, ⟨rfl, rfl⟩, ⟨rfl, rfl⟩, ⟨rfl, rfl⟩, ⟨rfl, rfl⟩, next_i (by omega), trivial⟩ ⟨⟨rfl, wavs_imm _⟩, ⟨rfl, rfl, rfl, ⟨rfl, rfl⟩, trivial⟩, rfl, ⟨rfl, wavs_imm _⟩, ⟨rfl, wavs_imm _⟩, trivial⟩ (by simp [nid, rid]) rfl (by simp))
            | (exfalso; simp at h; done)
            | (exfalso; simp at h; omega)
            | (exfalso; have h' := of_decide_eq_true h; omega)
            | (exfalso; have h' := of_decide_eq_false h; omega)
            | (exfalso; rename_i a0; have h' := of_decide_eq_true a0; omega)
            | (exfalso; rename_i a0; have h' := of_decide_eq_false a0; omega)
            | (exfalso; rename_i a0 a1; have h' := of_decide_eq_true a0; omega)
            | (exfalso; rename_i a0 a1; have h' := of_decide_eq_false a0; omega)
            | (exfalso; rename_i a0 a1 a2; have h' := of_decide_eq_true a0; omega)
            | (exfalso; rename_i a0 a1 a2; have h' := of_decide_eq_false a0; omega)
            | (exfalso; rename_i a0 a1 a2 a3; have h' := of_decide_eq_true a0; omega)
            | (exfalso; rename_i a0 a1 a2 a3; have h' := of_decide_eq_false a0; omega)
            | (exfalso; rename_i a0 a1 a2 a3 a4; have h' := of_decide_eq_true a0; omega)
            | (exfalso; rename_i a0 a1 a2 a3 a4; have h' := of_decide_eq_false a0; omega)
            | (exfalso; simp_all; done)
            | (exfalso; simp_all; omega)
            | trace_state
        by_cases k3 : c.kind = 3 ∧ c.to ≠ c.trip.start ∧ 0 ≤ placeT out c.trip
        · obtain ⟨k, hk1, hk2, hk3⟩ := place_at k3.2.2
          have hst : stepC out c = some (setS out k c.to) := by rw [hst1, if_neg k2, if_pos k3, hk3]; rfl
          rw [foldC_some hlow hst] at hfold
          have hnl := step_len hst
          rw [(asc_at hinv.asc hk2).1] at hFo
          obtain ⟨m, hm⟩ := List.getElem?_of_mem ((sameB_iff hta).1 (hsame.2 k3.2.2))
          rw [(asc_at hta hm).1] at hFt
          have hrt : (t.trips.map Trip.enc)[((m : Nat) : Int).toNat]? = some c.trip.enc := row_at Trip.enc hm
          have hkl : k < (out.map Trip.enc).length := by rw [List.length_map]; exact hk1
          have hat : (out.map Trip.enc)[k]? = some c.trip.enc := by simp [hk2]
          have hset : (out.map Trip.enc).set k (setAt c.trip.enc 0 [.int .i64 c.trip.id, .int .i64 c.trip.line, .int .i64 c.to]) = (setS out k c.to).map Trip.enc := by
            rw [setS_at hk2, List.map_set]; rfl
          obtain ⟨kk, tr, tt⟩ := c
          obtain ⟨k31, k32, k13⟩ := k3
          simp only at k31 k32
          subst k31
          try dsimp only at hnl
          repeat' first | refine go_seq ?_ | refine go_region ?_ | refine go_miss rfl rfl rfl ?_ | refine go_undef rfl rfl rfl ?_ | refine go_draw drawsOk ?_ | ((first | refine go_op rfl ?_ | refine go_nil ?_ | refine go_hit rfl rfl rfl ?_ | refine go_splitT rfl rfl rfl (fun h => ?_) (fun h => ?_) | refine go_splitF rfl rfl rfl (fun h => ?_) (fun h => ?_) | refine go_storeBox rfl rfl rfl rfl rfl rfl ?_ | refine go_dop rfl ?_ | refine go_dhit rfl rfl ?_ | refine go_dmiss rfl rfl ?_ | refine go_dundef rfl rfl ?_ | refine go_dend (by kernel_rfl) ?_ | refine go_pickT rfl ?_ | refine go_pickF rfl ?_ | refine go_pick rfl (fun h => ?_) (fun h => ?_) | refine go_call [] (hFt) rfl rfl rfl rfl ?_ | refine go_call [] (hFo) rfl rfl rfl rfl ?_ | refine go_idx rfl rfl rfl rfl (by rw [e1]; omega) hrd rfl ?_ | refine go_idx rfl rfl rfl rfl (by omega) hrt rfl ?_ | refine go_idx rfl rfl rfl rfl (by omega) hr rfl ?_ | refine go_idxOwn rfl rfl rfl rfl rfl rfl hkl ?_ | refine go_loadEl rfl rfl rfl hat ?_ | refine go_storeEl rfl rfl rfl rfl hat rfl rfl hset ?_) <;> conv => whnf) | ((first | refine Or.inl ?_ | refine go_dsplit2 rfl (fun h => ?_) (fun h => ?_) | refine go_loadB ?_ | refine ⟨by kernel_rfl, ?_⟩ | refine go_ret ?_) <;> conv => whnf) | refine go_block ?_ | ((first | refine go_skip ?_ | refine go_exit ?_) <;> conv => whnf) | refine go_true rfl ?_ | refine go_false rfl ?_ | refine go_cond rfl (fun h => ?_) (fun h => ?_) | refine ⟨rfl, ?_⟩ | ((first | refine ⟨trivial, ?_⟩ | refine ⟨le_of_ble rfl, ?_⟩) <;> conv => whnf) | fail
          all_goals first
            | (refine go_next ((j + 1) + 1, setS out k tt) ⟨by simp only; omega, by simp only [hnx]; exact hfold, by simp only; omega, by simp only [hnx]; exact hinv.step hlow hst⟩ (by simp only; omega) (ref_F ?_); exact ref_st id rfl ⟨rfl, ⟨rfl, rfl⟩, ⟨rfl, rfl⟩, ⟨rfl, rfl⟩, ⟨rfl, rfl⟩, next_i (by omega), trivial⟩ ⟨⟨rfl, wavs_imm _⟩, ⟨rfl, rfl, rfl, ⟨(by show AV.own 1002 0 (out.map Trip.enc).length = AV.own 1002 0 ((setS out k tt).map Trip.enc).length; rw [List.length_map, List.length_map, setS_len]), rfl⟩, trivial⟩, rfl, ⟨rfl, wavs_imm _⟩, ⟨rfl, wavs_imm _⟩, trivial⟩ (by simp) rfl (by simp))
            | (exfalso; simp at h; done)
            | (exfalso; simp at h; omega)
            | (exfalso; have h' := of_decide_eq_true h; omega)
            | (exfalso; have h' := of_decide_eq_false h; omega)
            | (exfalso; rename_i a0; have h' := of_decide_eq_true a0; omega)
            | (exfalso; rename_i a0; have h' := of_decide_eq_false a0; omega)
            | (exfalso; rename_i a0 a1; have h' := of_decide_eq_true a0; omega)
            | (exfalso; rename_i a0 a1; have h' := of_decide_eq_false a0; omega)
            | (exfalso; rename_i a0 a1 a2; have h' := of_decide_eq_true a0; omega)
            | (exfalso; rename_i a0 a1 a2; have h' := of_decide_eq_false a0; omega)
            | (exfalso; rename_i a0 a1 a2 a3; have h' := of_decide_eq_true a0; omega)
            | (exfalso; rename_i a0 a1 a2 a3; have h' := of_decide_eq_false a0; omega)
            | (exfalso; rename_i a0 a1 a2 a3 a4; have h' := of_decide_eq_true a0; omega)
            | (exfalso; rename_i a0 a1 a2 a3 a4; have h' := of_decide_eq_false a0; omega)
            | (exfalso; simp_all; done)
            | (exfalso; simp_all; omega)
            | trace_state
        have hst : stepC out c = none := by rw [hst1, if_neg k2, if_neg k3]
        rw [foldC_none hst] at hfold
        obtain ⟨e1', e2'⟩ := eNone hfold.symm
        rw [e1', e2']
        by_cases hge : 0 ≤ findT t.trips c.trip.id
        · obtain ⟨m, y, hm1, hm2, hm3, hm4⟩ := find_at hge
          have hrt : (t.trips.map Trip.enc)[((m : Nat) : Int).toNat]? = some y.enc := row_at Trip.enc hm2
          have hsb : sameB t.trips c.trip = y.beq c.trip := by unfold sameB; rw [hm4, Int.toNat_natCast, hm2]; simp
          rw [hsb] at hsame
          unfold Trip.beq at hsame
          rw [hm4] at hFt
          repeat' first | refine go_seq ?_ | refine go_region ?_ | refine go_miss rfl rfl rfl ?_ | refine go_undef rfl rfl rfl ?_ | refine go_draw drawsOk ?_ | ((first | refine go_op rfl ?_ | refine go_nil ?_ | refine go_hit rfl rfl rfl ?_ | refine go_splitT rfl rfl rfl (fun h => ?_) (fun h => ?_) | refine go_splitF rfl rfl rfl (fun h => ?_) (fun h => ?_) | refine go_storeBox rfl rfl rfl rfl rfl rfl ?_ | refine go_dop rfl ?_ | refine go_dhit rfl rfl ?_ | refine go_dmiss rfl rfl ?_ | refine go_dundef rfl rfl ?_ | refine go_dend (by kernel_rfl) ?_ | refine go_pickT rfl ?_ | refine go_pickF rfl ?_ | refine go_pick rfl (fun h => ?_) (fun h => ?_) | refine go_call [] (hFt) rfl rfl rfl rfl ?_ | refine go_idx rfl rfl rfl rfl (by rw [e1]; omega) hrd rfl ?_ | refine go_idx rfl rfl rfl rfl (by omega) hrt rfl ?_ | refine go_idx rfl rfl rfl rfl (by omega) hr rfl ?_) <;> conv => whnf) | ((first | refine Or.inl ?_ | refine go_dsplit2 rfl (fun h => ?_) (fun h => ?_) | refine go_loadB ?_ | refine ⟨by kernel_rfl, ?_⟩ | refine go_ret ?_) <;> conv => whnf) | refine go_block ?_ | ((first | refine go_skip ?_ | refine go_exit ?_) <;> conv => whnf) | refine go_true rfl ?_ | refine go_false rfl ?_ | refine go_cond rfl (fun h => ?_) (fun h => ?_) | refine ⟨rfl, ?_⟩ | ((first | refine ⟨trivial, ?_⟩ | refine ⟨le_of_ble rfl, ?_⟩) <;> conv => whnf) | fail
          all_goals first
            | exact ret_all rfl ⟨⟨rfl, fun h => by cases h⟩, ⟨rfl, fun h => by cases h⟩, trivial⟩ List.nodup_nil List.nodup_nil trivial
            | (exfalso; rename_i a2 a1; exact k2 ⟨of_decide_eq_true a2, of_decide_eq_true h, hsame.1 (by simpa using a1)⟩)
            | (exfalso; rename_i a2 a1; exact k3 ⟨of_decide_eq_true a2, by simpa using h, hsame.1 (by simpa using a1)⟩)
            | (exfalso; simp at h; done)
            | (exfalso; simp at h; omega)
            | (exfalso; have h' := of_decide_eq_true h; omega)
            | (exfalso; have h' := of_decide_eq_false h; omega)
            | (exfalso; rename_i a0; have h' := of_decide_eq_true a0; omega)
            | (exfalso; rename_i a0; have h' := of_decide_eq_false a0; omega)
            | (exfalso; rename_i a0 a1; have h' := of_decide_eq_true a0; omega)
            | (exfalso; rename_i a0 a1; have h' := of_decide_eq_false a0; omega)
            | (exfalso; rename_i a0 a1 a2; have h' := of_decide_eq_true a0; omega)
            | (exfalso; rename_i a0 a1 a2; have h' := of_decide_eq_false a0; omega)
            | (exfalso; rename_i a0 a1 a2 a3; have h' := of_decide_eq_true a0; omega)
            | (exfalso; rename_i a0 a1 a2 a3; have h' := of_decide_eq_false a0; omega)
            | (exfalso; rename_i a0 a1 a2 a3 a4; have h' := of_decide_eq_true a0; omega)
            | (exfalso; rename_i a0 a1 a2 a3 a4; have h' := of_decide_eq_false a0; omega)
            | (exfalso; simp_all; done)
            | (exfalso; simp_all; omega)
            | trace_state
        · have hpn : ¬ 0 ≤ placeT out c.trip := fun h => by
            have h2 := hsame.2 h
            unfold sameB at h2
            simp only [Bool.and_eq_true, decide_eq_true_eq] at h2
            exact hge h2.1
          have hfo : findT out c.trip.id < 0 := hfind.1 (by omega)
          repeat' first | refine go_seq ?_ | refine go_region ?_ | refine go_miss rfl rfl rfl ?_ | refine go_undef rfl rfl rfl ?_ | refine go_draw drawsOk ?_ | ((first | refine go_op rfl ?_ | refine go_nil ?_ | refine go_hit rfl rfl rfl ?_ | refine go_splitT rfl rfl rfl (fun h => ?_) (fun h => ?_) | refine go_splitF rfl rfl rfl (fun h => ?_) (fun h => ?_) | refine go_storeBox rfl rfl rfl rfl rfl rfl ?_ | refine go_dop rfl ?_ | refine go_dhit rfl rfl ?_ | refine go_dmiss rfl rfl ?_ | refine go_dundef rfl rfl ?_ | refine go_dend (by kernel_rfl) ?_ | refine go_pickT rfl ?_ | refine go_pickF rfl ?_ | refine go_pick rfl (fun h => ?_) (fun h => ?_) | refine go_call [] (hFt) rfl rfl rfl rfl ?_ | refine go_idx rfl rfl rfl rfl (by rw [e1]; omega) hrd rfl ?_ | refine go_idx rfl rfl rfl rfl (by omega) hr rfl ?_) <;> conv => whnf) | ((first | refine Or.inl ?_ | refine go_dsplit2 rfl (fun h => ?_) (fun h => ?_) | refine go_loadB ?_ | refine ⟨by kernel_rfl, ?_⟩ | refine go_ret ?_) <;> conv => whnf) | refine go_block ?_ | ((first | refine go_skip ?_ | refine go_exit ?_) <;> conv => whnf) | refine go_true rfl ?_ | refine go_false rfl ?_ | refine go_cond rfl (fun h => ?_) (fun h => ?_) | refine ⟨rfl, ?_⟩ | ((first | refine ⟨trivial, ?_⟩ | refine ⟨le_of_ble rfl, ?_⟩) <;> conv => whnf) | fail
          all_goals first
            | exact ret_all rfl ⟨⟨rfl, fun h => by cases h⟩, ⟨rfl, fun h => by cases h⟩, trivial⟩ List.nodup_nil List.nodup_nil trivial
            | (exfalso; simp at h; done)
            | (exfalso; simp at h; omega)
            | (exfalso; have h' := of_decide_eq_true h; omega)
            | (exfalso; have h' := of_decide_eq_false h; omega)
            | (exfalso; rename_i a0; have h' := of_decide_eq_true a0; omega)
            | (exfalso; rename_i a0; have h' := of_decide_eq_false a0; omega)
            | (exfalso; rename_i a0 a1; have h' := of_decide_eq_true a0; omega)
            | (exfalso; rename_i a0 a1; have h' := of_decide_eq_false a0; omega)
            | (exfalso; rename_i a0 a1 a2; have h' := of_decide_eq_true a0; omega)
            | (exfalso; rename_i a0 a1 a2; have h' := of_decide_eq_false a0; omega)
            | (exfalso; rename_i a0 a1 a2 a3; have h' := of_decide_eq_true a0; omega)
            | (exfalso; rename_i a0 a1 a2 a3; have h' := of_decide_eq_false a0; omega)
            | (exfalso; rename_i a0 a1 a2 a3 a4; have h' := of_decide_eq_true a0; omega)
            | (exfalso; rename_i a0 a1 a2 a3 a4; have h' := of_decide_eq_false a0; omega)
            | (exfalso; simp_all; done)
            | (exfalso; simp_all; omega)
            | trace_state
end Go.Proofs.Ytfjphbjbobojbaa

