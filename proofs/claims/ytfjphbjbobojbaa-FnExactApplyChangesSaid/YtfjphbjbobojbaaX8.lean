/- A timetable that is given back if it is valid, told by its blocks. -/
import Derived.Test.YtfjphbjbobojbaaX7
import Derived.Test.YtfjphbjbobojbaaV40
namespace Go.Proofs.Ytfjphbjbobojbaa
open Go Go.Am
set_option maxRecDepth 100000
set_option maxHeartbeats 8000000
attribute [local irreducible] amOps amC opCall opIndexAddr opPick retQ opMake opStore amDraw opAppend opLoad opNilCmp opIndex opSlice xQ

def nilV : Value := .slice none 0 0
theorem net_reps {n : Network} {a b : Value} {w : World} {F B : Nat → Prop} (h : NetV n (.agg #[a, b]) w F) (hB : ∀ b, F b → ¬ B b) : Rep w B a (.list (n.stops.map strRow)) ∧ Rep w B b (.list (n.lines.map Line.enc)) := by
  obtain ⟨vs, vl, e, h⟩ := h
  injection e with e
  have e1 : a = vs ∧ b = vl := by simpa using e
  obtain ⟨rfl, rfl⟩ := e1
  exact h.rep hB
theorem nil_flat (ty sz : Nat) (hs : 0 < sz) (w : World) (F : Nat → Prop) : FlatI ty sz [] nilV w F := ⟨(fun r hr => by cases hr), hs, .inl ⟨rfl, rfl⟩⟩
theorem nil_tt (w : World) (F : Nat → Prop) : ExtAt (TimeV ttNone (.agg #[nilV, nilV, nilV])) w F := by
  refine TimeV.ext ⟨nilV, nilV, nilV, rfl, fun _ => False, fun _ => False, fun _ h => (h.elim id id).elim, fun _ h => h.1, ⟨fun _ => False, fun _ => False, fun _ h => (h.elim id id).elim, fun _ h => h.1, nil_flat _ _ (by decide) _ _, ?_⟩, nil_flat _ _ (by decide) _ _⟩
  exact ⟨[], fun _ => False, fun _ => False, rfl, fun _ h => (h.elim id id).elim, fun _ h => h.1, nil_flat _ _ (by decide) _ _, InnI.nil _ _ _ _⟩

theorem x51 (t : Timetable) (hf : t.fit) : XOk Try.prog 51 ⟨aggD, TimeV t, noI⟩ [] (ttR (ckT t)) [.bool (ttOk t)] := by
  refine xOk_of tyOk Try.func51 rfl rfl (le_of_ble rfl) ?_
  intro v0
  have h0 := c22 t hf
  unfold ckT
  cases hb : ttOk t with
  | true =>
    rw [hb] at h0
    rw [if_pos rfl]
    repeat' first | (refine go_split tyOk (X := { x : Sl × Sl × Sl // v0 = .agg #[x.1.v, x.2.1.v, x.2.2.v] }) (id := 0) (id1 := 1000) (id2 := 1001) (I1 := fun x => NetV t.net (.agg #[x.1.1.v, x.1.2.1.v])) (I2 := fun x => FlatI 54 3 (t.trips.map Trip.enc) x.1.2.2.v) rfl rfl rfl rfl (fun w F hF => tt_open hF) ?_; rintro ⟨⟨⟨a1, n1, c1⟩, ⟨a2, n2, c2⟩, a3, n3, c3⟩, hv⟩; subst hv; conv => whnf) | (refine go_ext (ext_xlook (ds := [.agg t.enc]) h0 rfl [1000, 1001] ⟨look_agg (es := [.other (.slice a1 n1 c1), .other (.slice a2 n2 c2), .other (.slice a3 n3 c3)]) ⟨cell_imm (look_ext (id := 1000) rfl (by simp) fun w F B h hB => (net_reps h hB).1), cell_imm (look_ext (id := 1000) rfl (by simp) fun w F B h hB => (net_reps h hB).2), cell_imm (look_ext (id := 1001) rfl (by simp) fun w F B h hB => FlatI.rep h hB), trivial⟩, trivial⟩ rfl ?_); conv => whnf) | refine go_seq ?_ | refine go_region ?_ | refine go_miss rfl rfl rfl ?_ | refine go_undef rfl rfl rfl ?_ | refine go_draw drawsOk ?_ | ((first | refine go_op rfl ?_ | refine go_nil ?_ | refine go_hit rfl rfl rfl ?_ | refine go_splitT rfl rfl rfl (fun h => ?_) (fun h => ?_) | refine go_splitF rfl rfl rfl (fun h => ?_) (fun h => ?_) | refine go_storeBox rfl rfl rfl rfl rfl rfl ?_ | refine go_dop rfl ?_ | refine go_dhit rfl rfl ?_ | refine go_dmiss rfl rfl ?_ | refine go_dundef rfl rfl ?_ | refine go_dend (by kernel_rfl) ?_ | refine go_pickT rfl ?_ | refine go_pickF rfl ?_ | refine go_pick rfl (fun h => ?_) (fun h => ?_)) <;> conv => whnf) | ((first | refine Or.inl ?_ | refine go_dsplit2 rfl (fun h => ?_) (fun h => ?_) | refine go_loadB ?_ | refine ⟨by kernel_rfl, ?_⟩ | refine go_ret ?_) <;> conv => whnf) | refine go_block ?_ | ((first | refine go_skip ?_ | refine go_exit ?_) <;> conv => whnf) | refine go_true rfl ?_ | refine go_false rfl ?_ | refine go_cond rfl (fun h => ?_) (fun h => ?_) | refine ⟨rfl, ?_⟩ | ((first | refine ⟨trivial, ?_⟩ | refine ⟨le_of_ble rfl, ?_⟩) <;> conv => whnf) | fail
    all_goals first
      | (refine ret_x (av := .imm (.agg [.other (.slice a1 n1 c1), .other (.slice a2 n2 c2), .other (.slice a3 n3 c3)])) [1000, 1001] [] rfl rfl (by intro e; cases e) rfl rfl (close_agg2 (vs := [.slice a1 n1 c1, .slice a2 n2 c2, .slice a3 n3 c3]) rfl rfl rfl tt_join) (close_no _) (by simp); done)
      | (exfalso; simp at h; done)
      | trace_state
  | false =>
    rw [hb] at h0
    rw [if_neg (by simp)]
    repeat' first | (refine go_split tyOk (X := { x : Sl × Sl × Sl // v0 = .agg #[x.1.v, x.2.1.v, x.2.2.v] }) (id := 0) (id1 := 1000) (id2 := 1001) (I1 := fun x => NetV t.net (.agg #[x.1.1.v, x.1.2.1.v])) (I2 := fun x => FlatI 54 3 (t.trips.map Trip.enc) x.1.2.2.v) rfl rfl rfl rfl (fun w F hF => tt_open hF) ?_; rintro ⟨⟨⟨a1, n1, c1⟩, ⟨a2, n2, c2⟩, a3, n3, c3⟩, hv⟩; subst hv; conv => whnf) | (refine go_ext (ext_xlook (ds := [.agg t.enc]) h0 rfl [1000, 1001] ⟨look_agg (es := [.other (.slice a1 n1 c1), .other (.slice a2 n2 c2), .other (.slice a3 n3 c3)]) ⟨cell_imm (look_ext (id := 1000) rfl (by simp) fun w F B h hB => (net_reps h hB).1), cell_imm (look_ext (id := 1000) rfl (by simp) fun w F B h hB => (net_reps h hB).2), cell_imm (look_ext (id := 1001) rfl (by simp) fun w F B h hB => FlatI.rep h hB), trivial⟩, trivial⟩ rfl ?_); conv => whnf) | refine go_seq ?_ | refine go_region ?_ | refine go_miss rfl rfl rfl ?_ | refine go_undef rfl rfl rfl ?_ | refine go_draw drawsOk ?_ | ((first | refine go_op rfl ?_ | refine go_nil ?_ | refine go_hit rfl rfl rfl ?_ | refine go_splitT rfl rfl rfl (fun h => ?_) (fun h => ?_) | refine go_splitF rfl rfl rfl (fun h => ?_) (fun h => ?_) | refine go_storeBox rfl rfl rfl rfl rfl rfl ?_ | refine go_dop rfl ?_ | refine go_dhit rfl rfl ?_ | refine go_dmiss rfl rfl ?_ | refine go_dundef rfl rfl ?_ | refine go_dend (by kernel_rfl) ?_ | refine go_pickT rfl ?_ | refine go_pickF rfl ?_ | refine go_pick rfl (fun h => ?_) (fun h => ?_) | refine Or.inr ?_) <;> conv => whnf) | ((first | refine Or.inl ?_ | refine go_dsplit2 rfl (fun h => ?_) (fun h => ?_) | refine go_loadB ?_ | refine ⟨by kernel_rfl, ?_⟩ | refine go_ret ?_) <;> conv => whnf) | refine go_block ?_ | ((first | refine go_skip ?_ | refine go_exit ?_) <;> conv => whnf) | refine go_true rfl ?_ | refine go_false rfl ?_ | refine go_cond rfl (fun h => ?_) (fun h => ?_) | refine ⟨rfl, ?_⟩ | ((first | refine ⟨trivial, ?_⟩ | refine ⟨le_of_ble rfl, ?_⟩) <;> conv => whnf) | fail
    all_goals first
      | (refine ret_x (av := .imm (.agg [.other nilV, .other nilV, .other nilV])) [] [] rfl rfl (by intro e; cases e) rfl rfl (close_agg0 (vs := [nilV, nilV, nilV]) nil_tt) (close_no _) (by simp); done)
      | (exfalso; simp at h; done)
      | trace_state
end Go.Proofs.Ytfjphbjbobojbaa

