/- ApplyChanges: the law. -/
import Derived.Test.YtfjphbjbobojbaaX10
import Derived.Test.YtfjphbjbobojbaaX11
import Derived.Test.YtfjphbjbobojbaaI1
namespace Go.Proofs.Ytfjphbjbobojbaa
open Go Go.Am
set_option maxRecDepth 100000
set_option maxHeartbeats 16000000
attribute [local irreducible] amOps amC opCall opIndexAddr opPick retQ opMake opStore amDraw opAppend opLoad opNilCmp opIndex opSlice xQ

theorem tt_reps {t : Timetable} {a b c : Value} {w : World} {F B : Nat → Prop} (h : TimeV t (.agg #[a, b, c]) w F) (hB : ∀ b, F b → ¬ B b) : Rep w B a (.list (t.net.stops.map strRow)) ∧ Rep w B b (.list (t.net.lines.map Line.enc)) ∧ Rep w B c (.list (t.trips.map Trip.enc)) := by
  obtain ⟨vs, vl, vt, e, h⟩ := h
  injection e with e
  have e1 : a = vs ∧ b = vl ∧ c = vt := by simpa using e
  obtain ⟨rfl, rfl, rfl⟩ := e1
  exact h.rep hB
/-- A timetable told by its blocks, looked at. -/
theorem look_tt {σ : S} {ids : List Nat} {id : Nat} {t : Timetable} {a b c : Value} (hm : σ.m id = some (.ext (TimeV t (.agg #[a, b, c])))) (hid : id ∈ ids) : LookA σ ids (.imm (.agg [.other a, .other b, .other c])) (.agg t.enc) :=
  look_agg (es := [.other a, .other b, .other c]) ⟨cell_imm (look_ext hm hid fun _ _ _ h hB => (tt_reps h hB).1), cell_imm (look_ext hm hid fun _ _ _ h hB => (tt_reps h hB).2.1), cell_imm (look_ext hm hid fun _ _ _ h hB => (tt_reps h hB).2.2), trivial⟩

theorem cLns_le : ∀ ls : List Line, (∀ l ∈ ls, l.fit) → cLns ls ≤ ls.length * 2097153
  | [], _ => by simp [cLns]
  | l :: ls, h => by
    have ih := cLns_le ls fun x hx => h x (by simp [hx])
    have hf : l.fit := h l (by simp)
    obtain ⟨_, h1, h2⟩ := hf
    have e : cLns (l :: ls) = cLn l + cLns ls := by simp [cLns]
    have e2 : cLn l = 1 + l.stops.length + l.runs.length := rfl
    rw [e, List.length_cons, Nat.add_mul]
    omega
theorem cTT_le {t : Timetable} (hf : t.fit) : cTT t ≤ 2199028498432 := by
  obtain ⟨⟨h1, _, h2, h3⟩, h4, _⟩ := hf
  have := cLns_le _ h3
  have e : cTT t = t.net.stops.length + cLns t.net.lines + 3 * t.trips.length := rfl
  have : t.net.lines.length * 2097153 ≤ 1048576 * 2097153 := Nat.mul_le_mul_right _ h2
  omega
theorem ttNone_fit : ttNone.fit := ⟨⟨by decide, (fun x hx => by cases hx), by decide, (fun x hx => by cases hx)⟩, by decide, (fun x hx => by cases hx)⟩
theorem acT_fit {t : Timetable} (hf : t.fit) (cs : List Change) : (acT t cs).fit := by
  unfold acT apT
  split
  · split
    · split
      · rename_i out _ hok
        have := tt_12 hok
        exact ⟨hf.1, by simp only at this ⊢; omega, fun x _ => trivial⟩
      · exact ttNone_fit
    · exact ttNone_fit
  · exact ttNone_fit

theorem c3 (t : Timetable) (hok_t : t.ok) (cs : List Change) (_ : ∀ v ∈ cs, v.ok) (hl_cs : cs.length ≤ 9223372036854775807) : CallOk Try.prog 3 [.imm (.agg t.enc), .imm (.list (cs.map Change.enc))] { res := [.imm (.bool true)] } := by
  refine callOk_of tyOk Try.func3 rfl rfl (le_of_ble rfl) (le_of_ble rfl) (mutOk_imm rfl _) ?_
  have hsz1 := c4 t hok_t (1048576) (by omega) (by omega)
  have hle1 := szTimetable_sz.le (1048576) t (by omega)
  by_cases h01 : 0 ≤ szTimetable 1048576 t
  case neg =>
    repeat' first | refine go_seq ?_ | refine go_region ?_ | refine go_miss rfl rfl rfl ?_ | refine go_undef rfl rfl rfl ?_ | refine go_draw drawsOk ?_ | ((first | refine go_op rfl ?_ | refine go_nil ?_ | refine go_hit rfl rfl rfl ?_ | refine go_splitT rfl rfl rfl (fun h => ?_) (fun h => ?_) | refine go_splitF rfl rfl rfl (fun h => ?_) (fun h => ?_) | refine go_storeBox rfl rfl rfl rfl rfl rfl ?_ | refine go_dop rfl ?_ | refine go_dhit rfl rfl ?_ | refine go_dmiss rfl rfl ?_ | refine go_dundef rfl rfl ?_ | refine go_dend (by kernel_rfl) ?_ | refine go_pickT rfl ?_ | refine go_pickF rfl ?_ | refine go_pick rfl (fun h => ?_) (fun h => ?_) | refine go_call [] (hsz1) rfl rfl rfl rfl ?_) <;> conv => whnf) | ((first | refine go_dsplit2 rfl (fun h => ?_) (fun h => ?_) | refine go_loadB ?_ | refine ⟨by kernel_rfl, ?_⟩ | refine go_ret ?_) <;> conv => whnf) | ((first | refine go_skip ?_) <;> conv => whnf) | refine go_true rfl ?_ | refine go_false rfl ?_ | refine go_cond rfl (fun h => ?_) (fun h => ?_) | refine ⟨rfl, ?_⟩ | ((first | refine ⟨trivial, ?_⟩ | refine ⟨le_of_ble rfl, ?_⟩) <;> conv => whnf) | fail
    all_goals first
      | exact ret_imm rfl rfl rfl rfl rfl rfl
      | (exfalso; have h' := of_decide_eq_false h; omega)
      | (exfalso; have h' := of_decide_eq_true h; omega)
      | (exfalso; rename_i hq; have h' := of_decide_eq_true hq; omega)
      | (exfalso; rename_i hq; have h' := of_decide_eq_false hq; omega)
      | (exfalso; rename_i hq _; have h' := of_decide_eq_true hq; omega)
      | (exfalso; rename_i hq _; have h' := of_decide_eq_false hq; omega)
      | trace_state
  have hf_t := szTimetable_fit (by omega) h01
  have hsz2 := c5 cs hl_cs (szTimetable 1048576 t) (by omega) (by omega)
  have hle2 := szChangeS_sz.le (szTimetable 1048576 t) cs (by omega)
  by_cases h02 : 0 ≤ szChangeS (szTimetable 1048576 t) cs
  case neg =>
    repeat' first | refine go_seq ?_ | refine go_region ?_ | refine go_miss rfl rfl rfl ?_ | refine go_undef rfl rfl rfl ?_ | refine go_draw drawsOk ?_ | ((first | refine go_op rfl ?_ | refine go_nil ?_ | refine go_hit rfl rfl rfl ?_ | refine go_splitT rfl rfl rfl (fun h => ?_) (fun h => ?_) | refine go_splitF rfl rfl rfl (fun h => ?_) (fun h => ?_) | refine go_storeBox rfl rfl rfl rfl rfl rfl ?_ | refine go_dop rfl ?_ | refine go_dhit rfl rfl ?_ | refine go_dmiss rfl rfl ?_ | refine go_dundef rfl rfl ?_ | refine go_dend (by kernel_rfl) ?_ | refine go_pickT rfl ?_ | refine go_pickF rfl ?_ | refine go_pick rfl (fun h => ?_) (fun h => ?_) | refine go_call [] (hsz1) rfl rfl rfl rfl ?_ | refine go_call [] (hsz2) rfl rfl rfl rfl ?_) <;> conv => whnf) | ((first | refine go_dsplit2 rfl (fun h => ?_) (fun h => ?_) | refine go_loadB ?_ | refine ⟨by kernel_rfl, ?_⟩ | refine go_ret ?_) <;> conv => whnf) | ((first | refine go_skip ?_) <;> conv => whnf) | refine go_true rfl ?_ | refine go_false rfl ?_ | refine go_cond rfl (fun h => ?_) (fun h => ?_) | refine ⟨rfl, ?_⟩ | ((first | refine ⟨trivial, ?_⟩ | refine ⟨le_of_ble rfl, ?_⟩) <;> conv => whnf) | fail
    all_goals first
      | exact ret_imm rfl rfl rfl rfl rfl rfl
      | (exfalso; have h' := of_decide_eq_false h; omega)
      | (exfalso; have h' := of_decide_eq_true h; omega)
      | (exfalso; rename_i hq; have h' := of_decide_eq_true hq; omega)
      | (exfalso; rename_i hq; have h' := of_decide_eq_false hq; omega)
      | (exfalso; rename_i hq _; have h' := of_decide_eq_true hq; omega)
      | (exfalso; rename_i hq _; have h' := of_decide_eq_false hq; omega)
      | trace_state
  have hlcs : cs.length ≤ 1048576 := by have := less_pos (k := cs.length) h02; omega
  have hspec : CallOk Try.prog 6 [.imm (.agg t.enc), .imm (.list (((cs.map Change.enc).drop 0).take (cs.map Change.enc).length))] { res := [.imm (.agg (acT t cs).enc), .imm (.bool (acOk t cs))], sep := false } := by rw [change_view]; exact c6 t hf_t cs hlcs
  have hX : XOk Try.prog 9 (XI.imm (.agg t.enc)) [.list (((cs.map Change.enc).drop 0).take (cs.map Change.enc).length)] (ttR (acT t cs)) [.bool (acOk t cs)] := by rw [change_view]; exact x9 t hf_t cs hlcs
  have heq_cs : CallOk Try.prog 11 [.imm (.list (((cs.map Change.enc).drop 0).take (cs.map Change.enc).length)), .imm (.list (((cs.map Change.enc).drop 0).take (cs.map Change.enc).length))] { res := [.imm (.bool true)] } := by rw [change_view]; exact c11s cs hlcs
  have hct1 := cntTimetable_le hf_t
  have hm1 := k12 t hf_t 1 (by omega) (by omega)
  have hm2 := c13 cs (1 + (cntTimetable t : Nat)) (by omega) (by omega) hlcs
  have hq2 := kAt_eq (k := (1 + (cntTimetable t : Nat))) (by omega) (5 * cs.length) (by omega)
  have hTf := acT_fit hf_t cs
  generalize acT t cs = T at *
  generalize acOk t cs = ok at *
  have hcT := cTT_le hTf
  have heqR := c10s T hTf
  have hXm := x12 T hTf 1 (by omega) (by omega)
  have hhR := c14 T hTf 1 (by omega) (by omega)
  repeat' first | (refine go_ext (ext_xcall hX [] (fun _ _ => True) (v := Value.slice none 0 0) [nid 8 36, nid 9 38] (look2 (look_tv (id := nid 8 36) rfl (by simp)) (look_own (id := nid 9 38) rfl (by simp))) (by simp) (.inr fun u => ⟨rfl, rfl, rfl⟩) (split_no _ _) have0 rfl rfl rfl rfl ?_); intro r; conv => whnf) | (refine go_fact tyOk (id := nid 10 42) (p := ∃ x : Sl × Sl × Sl, r = .agg #[x.1.v, x.2.1.v, x.2.2.v]) rfl (fun w F h => tt_shape h) ?_; rintro ⟨⟨⟨a1, n1, c1⟩, ⟨a2, n2, c2⟩, a3, n3, c3⟩, hv⟩; subst hv; conv => whnf) | (refine go_ext (ext_xlook (ds := [.agg T.enc, .agg T.enc]) heqR rfl [nid 10 42] (look2 (look_tt (id := nid 10 42) rfl (by simp)) (look_imm _ _ _)) rfl ?_); conv => whnf) | (refine go_extG rfl rfl (ext_xlook (ds := [.agg T.enc, .agg T.enc]) heqR rfl [nid 10 42] (look2 (look_tt (id := nid 10 42) rfl (by simp)) (look_imm _ _ _)) rfl ?_); conv => whnf) | (refine go_ext (ext_xcallA hXm [nid 10 42] (fun _ _ => True) (v := .agg #[.slice a1 n1 c1, .slice a2 n2 c2, .slice a3 n3 c3]) [] (look2 (look_imm _ _ _) (look_imm _ _ _)) (by simp) (.inl fun w B u hu => rep_aggX (vs := [.slice a1 n1 c1, .slice a2 n2 c2, .slice a3 n3 c3]) hu) (split_all rfl (fun _ _ h => h)) (have1 rfl) rfl rfl rfl rfl ?_); intro r2; conv => whnf) | (refine go_ext (ext_xlook (ds := [.agg (mTT 1 T).enc, .int .i64 1]) hhR rfl [rid 19 85 1] (look2 (look_tt (t := mTT 1 T) (id := rid 19 85 1) rfl (by simp)) (look_imm _ _ _)) rfl ?_); conv => whnf) | (refine go_ext (ext_xcall hX [] (fun _ _ => True) (v := Value.slice none 0 0) [nid 24 96, nid 24 98] (look2 (look_tv (id := nid 24 96) rfl (by simp)) (look_own (id := nid 24 98) rfl (by simp))) (by simp) (.inr fun u => ⟨rfl, rfl, rfl⟩) (split_no _ _) have0 rfl rfl rfl rfl ?_); intro r3; conv => whnf) | (refine go_fact tyOk (id := nid 24 99) (p := ∃ x : Sl × Sl × Sl, r3 = .agg #[x.1.v, x.2.1.v, x.2.2.v]) rfl (fun w F h => tt_shape h) ?_; rintro ⟨⟨⟨b1, m1, d1⟩, ⟨b2, m2, d2⟩, b3, m3, d3⟩, hv⟩; subst hv; conv => whnf) | (refine go_ext (ext_xlook (ds := [.agg T.enc, .agg T.enc]) heqR rfl [nid 24 99] (look2 (look_tt (id := nid 24 99) rfl (by simp)) (look_imm _ _ _)) rfl ?_); conv => whnf) | refine go_seq ?_ | refine go_region ?_ | refine go_miss rfl rfl rfl ?_ | refine go_undef rfl rfl rfl ?_ | refine go_draw drawsOk ?_ | ((first | refine go_op rfl ?_ | refine go_nil ?_ | refine go_hit rfl rfl rfl ?_ | refine go_splitT rfl rfl rfl (fun h => ?_) (fun h => ?_) | refine go_splitF rfl rfl rfl (fun h => ?_) (fun h => ?_) | refine go_storeBox rfl rfl rfl rfl rfl rfl ?_ | refine go_dop rfl ?_ | refine go_dhit rfl rfl ?_ | refine go_dmiss rfl rfl ?_ | refine go_dundef rfl rfl ?_ | refine go_dend (by kernel_rfl) ?_ | refine go_pickT rfl ?_ | refine go_pickF rfl ?_ | refine go_pick rfl (fun h => ?_) (fun h => ?_) | refine go_call [] (hsz1) rfl rfl rfl rfl ?_ | refine go_call [] (hsz2) rfl rfl rfl rfl ?_ | refine go_call [] (g7 t hf_t) rfl rfl rfl rfl ?_ | refine go_call [] (c10s t hf_t) rfl rfl rfl rfl ?_ | refine go_call [] (c8a cs hlcs) rfl rfl rfl rfl ?_ | refine go_call [] (heq_cs) rfl rfl rfl rfl ?_ | refine go_call [1, 1] (hspec) rfl rfl rfl rfl ?_ | refine go_call [3] (hm1) rfl rfl rfl rfl ?_ | refine go_call [2, 0] hm2 (argsIn_lent rfl rfl rfl) rfl rfl rfl ?_) <;> conv => whnf) | ((first | refine go_dsplit2 rfl (fun h => ?_) (fun h => ?_) | refine go_loadB ?_ | refine ⟨by kernel_rfl, ?_⟩ | refine go_ret ?_) <;> conv => whnf) | ((first | refine go_skip ?_) <;> conv => whnf) | refine go_true rfl ?_ | refine go_false rfl ?_ | refine go_cond rfl (fun h => ?_) (fun h => ?_) | refine ⟨rfl, ?_⟩ | ((first | refine ⟨trivial, ?_⟩ | refine ⟨le_of_ble rfl, ?_⟩) <;> conv => whnf) | fail
  all_goals first
    | exact ret_imm rfl rfl rfl rfl rfl rfl
    | (exfalso; simp at h; done)
    | (exfalso; simp at h; omega)
    | (exfalso; have h' := of_decide_eq_false h; omega)
    | (exfalso; have h' := of_decide_eq_true h; omega)
    | (exfalso; rename_i hq; have h' := of_decide_eq_true hq; omega)
    | (exfalso; rename_i hq; have h' := of_decide_eq_false hq; omega)
    | (exfalso; rename_i hq _; have h' := of_decide_eq_true hq; omega)
    | (exfalso; rename_i hq _; have h' := of_decide_eq_false hq; omega)
    | trace_state
end Go.Proofs.Ytfjphbjbobojbaa

