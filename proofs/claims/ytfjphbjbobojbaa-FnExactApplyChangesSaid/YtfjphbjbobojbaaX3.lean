/- Marks of networks and timetables, told by their blocks. -/
import Derived.Test.YtfjphbjbobojbaaX2
namespace Go.Am
open Go
theorem close_two {σ : S} {id1 id2 : Nat} {v : Value} {I1 I2 : World → (Nat → Prop) → Prop} {J : VI} (h1 : σ.m id1 = some (.ext I1)) (h2 : σ.m id2 = some (.ext I2)) (hne : Nat.beq id1 id2 = false)
    (hI : ∀ w F1 F2, ExtAt I1 w F1 → ExtAt I2 w F2 → (∀ b, ¬ (F1 b ∧ F2 b)) → ExtAt (J v) w fun b => F1 b ∨ F2 b) : CloseX σ [id1, id2] (.imm (.other v)) .other J := by
  intro w0 A locs β a w u hS hu
  have hu : u = v := rep_oth hu
  subst hu
  have o1 : ExtAt I1 w (foot (β id1)) := hS.ob id1 _ h1
  have o2 : ExtAt I2 w (foot (β id2)) := hS.ob id2 _ h2
  have hn : id1 ≠ id2 := by
    intro e
    rw [e, Nat.beq_refl] at hne
    cases hne
  have e : (OfIds β σ.m [id1, id2]) = fun b => foot (β id1) b ∨ foot (β id2) b := by
    funext b
    apply propext
    constructor
    · rintro ⟨i, hi, o, l, q1, q2, q3, q4⟩
      simp only [List.mem_cons, List.not_mem_nil, or_false] at hi
      rcases hi with rfl | rfl
      · exact .inl ⟨l, q3, q4⟩
      · exact .inr ⟨l, q3, q4⟩
    · rintro (⟨l, q1, q2⟩ | ⟨l, q1, q2⟩)
      · exact ⟨id1, by simp, _, l, h1, rfl, q1, q2⟩
      · exact ⟨id2, by simp, _, l, h2, rfl, q1, q2⟩
  rw [e]
  exact ⟨fun _ _ => .other _, hI w _ _ o1 o2 fun b ⟨⟨l, a1, a2⟩, l2, b1, b2⟩ => hn (hS.inj id1 id2 _ _ l l2 b h1 rfl a1 h2 rfl b1 a2 b2)⟩
end Go.Am
namespace Go.Proofs.Ytfjphbjbobojbaa
open Go Go.Am
set_option maxRecDepth 100000
set_option maxHeartbeats 4000000
attribute [local irreducible] amOps amC opCall opIndexAddr opPick retQ opMake opStore amDraw opAppend opLoad opNilCmp opIndex opSlice xQ

def cNet (n : Network) : Nat := n.stops.length + cLns n.lines
def mNet (k : Int) (n : Network) : Network := ⟨marksStrX k n.stops.length, mLns (k + n.stops.length) n.lines⟩
def cTT (t : Timetable) : Nat := cNet t.net + 3 * t.trips.length
def mTT (k : Int) (t : Timetable) : Timetable := ⟨mNet k t.net, marksTrip (k + cNet t.net) t.trips.length⟩

/-- A slice's parts. -/
abbrev Sl := Option Addr × Nat × Nat
def Sl.v (s : Sl) : Value := .slice s.1 s.2.1 s.2.2
theorem FlatI.isSl {ty sz : Nat} {rows : List (List D)} {v : Value} {w : World} {F : Nat → Prop} (h : FlatI ty sz rows v w F) : ∃ s : Sl, v = s.v := by
  rcases h.shape with ⟨_, e2⟩ | ⟨ad, cap, e1, _⟩
  · exact ⟨(none, 0, 0), e2⟩
  · exact ⟨(some ad, rows.length, cap), e1⟩
theorem LinesI.isSl {ls : List Line} {v : Value} {w : World} {F : Nat → Prop} (h : LinesI ls v w F) : ∃ s : Sl, v = s.v := by
  obtain ⟨_, _, _, _, _, _, h, _⟩ := h
  exact FlatI.isSl h
theorem net_open {n : Network} {v : Value} {w : World} {F : Nat → Prop} (h : ExtAt (NetV n v) w F) : ∃ (x : { x : Sl × Sl // v = .agg #[x.1.v, x.2.v] }) (F0 F1 : Nat → Prop), (∀ b, F0 b ∨ F1 b → F b) ∧ (∀ b, ¬ (F0 b ∧ F1 b)) ∧ ExtAt (FlatI 9 1 (n.stops.map strRow) x.1.1.v) w F0 ∧ ExtAt (LinesI n.lines x.1.2.v) w F1 := by
  obtain ⟨vs, vl, e, F0, F1, h2, h3, h4, h5⟩ := h.now
  obtain ⟨s1, rfl⟩ := FlatI.isSl h4
  obtain ⟨s2, rfl⟩ := LinesI.isSl h5
  exact ⟨⟨(s1, s2), e⟩, F0, F1, h2, h3, h4.ext, h5.ext⟩
theorem net_join {n : Network} {vs vl : Value} : ∀ w F1 F2, ExtAt (FlatI 9 1 (n.stops.map strRow) vs) w F1 → ExtAt (LinesI n.lines vl) w F2 → (∀ b, ¬ (F1 b ∧ F2 b)) → ExtAt (NetV n (.agg #[vs, vl])) w fun b => F1 b ∨ F2 b :=
  fun _ F1 F2 h1 h2 hd => NetV.ext ⟨vs, vl, rfl, F1, F2, fun _ h => h, hd, h1.now, h2.now⟩
theorem tt_open {t : Timetable} {v : Value} {w : World} {F : Nat → Prop} (h : ExtAt (TimeV t v) w F) : ∃ (x : { x : Sl × Sl × Sl // v = .agg #[x.1.v, x.2.1.v, x.2.2.v] }) (F0 F1 : Nat → Prop), (∀ b, F0 b ∨ F1 b → F b) ∧ (∀ b, ¬ (F0 b ∧ F1 b)) ∧ ExtAt (NetV t.net (.agg #[x.1.1.v, x.1.2.1.v])) w F0 ∧ ExtAt (FlatI 54 3 (t.trips.map Trip.enc) x.1.2.2.v) w F1 := by
  obtain ⟨vs, vl, vt, e, F0, F1, h2, h3, h4, h5⟩ := h.now
  obtain ⟨s3, rfl⟩ := FlatI.isSl h5
  have h4' := h4
  obtain ⟨G0, G1, _, _, g1, g2⟩ := h4'
  obtain ⟨s1, rfl⟩ := FlatI.isSl g1
  obtain ⟨s2, rfl⟩ := LinesI.isSl g2
  exact ⟨⟨(s1, s2, s3), e⟩, F0, F1, h2, h3, NetV.ext ⟨_, _, rfl, h4⟩, h5.ext⟩
theorem tt_join {t : Timetable} {vs vl vt : Value} : ∀ w F1 F2, ExtAt (NetV t.net (.agg #[vs, vl])) w F1 → ExtAt (FlatI 54 3 (t.trips.map Trip.enc) vt) w F2 → (∀ b, ¬ (F1 b ∧ F2 b)) → ExtAt (TimeV t (.agg #[vs, vl, vt])) w fun b => F1 b ∨ F2 b := by
  intro w F1 F2 h1 h2 hd
  obtain ⟨vs', vl', e, h1⟩ := h1.now
  injection e with e
  have e1 : vs = vs' ∧ vl = vl' := by simpa using e
  obtain ⟨rfl, rfl⟩ := e1
  exact TimeV.ext ⟨vs, vl, vt, rfl, F1, F2, fun _ h => h, hd, h1, h2.now⟩
def netX (n n' : Network) : XI := ⟨aggD, NetV n, NetV n'⟩
def ttX (t t' : Timetable) : XI := ⟨aggD, TimeV t, TimeV t'⟩

theorem x27 (n : Network) (hf : n.fit) (k : Int) (h0 : 0 ≤ k) (h1 : k + cNet n ≤ 576460752303423488) :
    XOk Try.prog 27 (netX n (mNet k n)) [.int .i64 k] (XR.imm (.int .i64 (k + cNet n))) [] := by
  have hc : cNet n = n.stops.length + cLns n.lines := rfl
  have hX1 := x55 n.stops k h0 (by omega) hf.1
  have hX2 := x56 n.lines (k + n.stops.length) (by omega) (by omega) hf.2.2.1 hf.2.2.2
  rw [show k + (n.stops.length : Int) + (cLns n.lines : Nat) = k + (cNet n : Nat) from by omega] at hX2
  refine xOk_of tyOk Try.func27 rfl rfl (le_of_ble rfl) ?_
  intro v0
  repeat' first | (refine go_split tyOk (X := { x : Sl × Sl // v0 = .agg #[x.1.v, x.2.v] }) (id := 0) (id1 := 1000) (id2 := 1001) (I1 := fun x => FlatI 9 1 (n.stops.map strRow) x.1.1.v) (I2 := fun x => LinesI n.lines x.1.2.v) rfl rfl rfl rfl (fun w F hF => net_open hF) ?_; rintro ⟨⟨⟨a1, n1, c1⟩, a2, n2, c2⟩, hv⟩; subst hv; conv => whnf) | (refine go_ext (ext_xcall hX1 [1000] (fun _ _ => True) (v := .slice a1 n1 c1) [] (look2 (look_imm _ _ _) (look_imm _ _ _)) (by simp) (.inl rfl) (split_all rfl (fun _ _ h => h)) (have1 rfl) rfl rfl rfl rfl ?_); intro r1; conv => whnf) | (refine go_ext (ext_xcall hX2 [1001] (fun _ _ => True) (v := .slice a2 n2 c2) [] (look2 (look_imm _ _ _) (look_imm _ _ _)) (by simp) (.inl rfl) (split_all rfl (fun _ _ h => h)) (have1 rfl) rfl rfl rfl rfl ?_); intro r2; conv => whnf) | refine go_seq ?_ | refine go_region ?_ | refine go_miss rfl rfl rfl ?_ | refine go_undef rfl rfl rfl ?_ | refine go_draw drawsOk ?_ | ((first | refine go_op rfl ?_ | refine go_nil ?_ | refine go_hit rfl rfl rfl ?_ | refine go_splitT rfl rfl rfl (fun h => ?_) (fun h => ?_) | refine go_splitF rfl rfl rfl (fun h => ?_) (fun h => ?_) | refine go_storeBox rfl rfl rfl rfl rfl rfl ?_ | refine go_dop rfl ?_ | refine go_dhit rfl rfl ?_ | refine go_dmiss rfl rfl ?_ | refine go_dundef rfl rfl ?_ | refine go_dend (by kernel_rfl) ?_ | refine go_pickT rfl ?_ | refine go_pickF rfl ?_ | refine go_pick rfl (fun h => ?_) (fun h => ?_)) <;> conv => whnf) | ((first | refine Or.inl ?_ | refine go_dsplit2 rfl (fun h => ?_) (fun h => ?_) | refine go_loadB ?_ | refine ⟨by kernel_rfl, ?_⟩ | refine go_ret ?_) <;> conv => whnf) | refine go_block ?_ | ((first | refine go_skip ?_ | refine go_exit ?_) <;> conv => whnf) | refine go_true rfl ?_ | refine go_false rfl ?_ | refine go_cond rfl (fun h => ?_) (fun h => ?_) | refine ⟨rfl, ?_⟩ | ((first | refine ⟨trivial, ?_⟩ | refine ⟨le_of_ble rfl, ?_⟩) <;> conv => whnf) | fail
  all_goals first
    | (refine ret_x (av := .imm (.int .i64 (k + (cNet n : Nat)))) [] [rid 2 8 1, rid 3 12 1] rfl rfl (by intro e; cases e) rfl rfl (close_imm rfl) (close_two rfl rfl rfl (net_join (n := mNet k n))) (by simp)
       done)
    | trace_state

theorem x12 (t : Timetable) (hf : t.fit) (k : Int) (h0 : 0 ≤ k) (h1 : k + cTT t ≤ 576460752303423488) :
    XOk Try.prog 12 (ttX t (mTT k t)) [.int .i64 k] (XR.imm (.int .i64 (k + cTT t))) [] := by
  have hc : cTT t = cNet t.net + 3 * t.trips.length := rfl
  have hX1 := x27 t.net hf.1 k h0 (by omega)
  have hX2 := x28 t.trips (k + cNet t.net) (by omega) (by omega) hf.2.1
  rw [show k + (cNet t.net : Int) + ((3 * t.trips.length : Nat) : Int) = k + (cTT t : Nat) from by omega] at hX2
  refine xOk_of tyOk Try.func12 rfl rfl (le_of_ble rfl) ?_
  intro v0
  repeat' first | (refine go_split tyOk (X := { x : Sl × Sl × Sl // v0 = .agg #[x.1.v, x.2.1.v, x.2.2.v] }) (id := 0) (id1 := 1000) (id2 := 1001) (I1 := fun x => NetV t.net (.agg #[x.1.1.v, x.1.2.1.v])) (I2 := fun x => FlatI 54 3 (t.trips.map Trip.enc) x.1.2.2.v) rfl rfl rfl rfl (fun w F hF => tt_open hF) ?_; rintro ⟨⟨⟨a1, n1, c1⟩, ⟨a2, n2, c2⟩, a3, n3, c3⟩, hv⟩; subst hv; conv => whnf) | (refine go_ext (ext_xcallA hX1 [1000] (fun _ _ => True) (v := .agg #[.slice a1 n1 c1, .slice a2 n2 c2]) [] (look2 (look_imm _ _ _) (look_imm _ _ _)) (by simp) (.inl fun w B u hu => rep_aggX (vs := [.slice a1 n1 c1, .slice a2 n2 c2]) hu) (split_all rfl (fun _ _ h => h)) (have1 rfl) rfl rfl rfl rfl ?_); intro r1; conv => whnf) | (refine go_ext (ext_xcall hX2 [1001] (fun _ _ => True) (v := .slice a3 n3 c3) [] (look2 (look_imm _ _ _) (look_imm _ _ _)) (by simp) (.inl rfl) (split_all rfl (fun _ _ h => h)) (have1 rfl) rfl rfl rfl rfl ?_); intro r2; conv => whnf) | refine go_seq ?_ | refine go_region ?_ | refine go_miss rfl rfl rfl ?_ | refine go_undef rfl rfl rfl ?_ | refine go_draw drawsOk ?_ | ((first | refine go_op rfl ?_ | refine go_nil ?_ | refine go_hit rfl rfl rfl ?_ | refine go_splitT rfl rfl rfl (fun h => ?_) (fun h => ?_) | refine go_splitF rfl rfl rfl (fun h => ?_) (fun h => ?_) | refine go_storeBox rfl rfl rfl rfl rfl rfl ?_ | refine go_dop rfl ?_ | refine go_dhit rfl rfl ?_ | refine go_dmiss rfl rfl ?_ | refine go_dundef rfl rfl ?_ | refine go_dend (by kernel_rfl) ?_ | refine go_pickT rfl ?_ | refine go_pickF rfl ?_ | refine go_pick rfl (fun h => ?_) (fun h => ?_)) <;> conv => whnf) | ((first | refine Or.inl ?_ | refine go_dsplit2 rfl (fun h => ?_) (fun h => ?_) | refine go_loadB ?_ | refine ⟨by kernel_rfl, ?_⟩ | refine go_ret ?_) <;> conv => whnf) | refine go_block ?_ | ((first | refine go_skip ?_ | refine go_exit ?_) <;> conv => whnf) | refine go_true rfl ?_ | refine go_false rfl ?_ | refine go_cond rfl (fun h => ?_) (fun h => ?_) | refine ⟨rfl, ?_⟩ | ((first | refine ⟨trivial, ?_⟩ | refine ⟨le_of_ble rfl, ?_⟩) <;> conv => whnf) | fail
  all_goals first
    | (refine ret_x (av := .imm (.int .i64 (k + (cTT t : Nat)))) [] [rid 2 8 1, rid 3 12 1] rfl rfl (by intro e; cases e) rfl rfl (close_imm rfl) (close_two rfl rfl rfl (tt_join (t := mTT k t))) (by simp)
       done)
    | trace_state
end Go.Proofs.Ytfjphbjbobojbaa

