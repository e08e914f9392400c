/- ApplyChanges of both sides. -/
import Derived.Test.YtfjphbjbobojbaaX9
import Derived.Test.YtfjphbjbobojbaaV7
namespace Go.Proofs.Ytfjphbjbobojbaa
open Go Go.Am
set_option maxRecDepth 100000
set_option maxHeartbeats 8000000
attribute [local irreducible] amOps amC opCall opIndexAddr opPick retQ opMake opStore amDraw opAppend opLoad opNilCmp opIndex opSlice xQ

def acT (t : Timetable) (cs : List Change) : Timetable := if ttOk t then apT t cs else ttNone
def acOk (t : Timetable) (cs : List Change) : Bool := ttOk t && apOk t cs

theorem x9 (t : Timetable) (hf : t.fit) (cs : List Change) (hl : cs.length ≤ 1048576) : XOk Try.prog 9 (XI.imm (.agg t.enc)) [.list (cs.map Change.enc)] (ttR (acT t cs)) [.bool (acOk t cs)] := by
  refine xOk_of tyOk Try.func9 rfl rfl (le_of_ble rfl) ?_
  intro v0
  have h0 := c22 t hf
  unfold acT acOk
  cases hv : ttOk t with
  | false =>
    rw [hv] at h0
    rw [if_neg (by simp)]
    repeat' first | refine go_seq ?_ | refine go_region ?_ | refine go_miss rfl rfl rfl ?_ | refine go_undef rfl rfl rfl ?_ | refine go_draw drawsOk ?_ | ((first | refine go_op rfl ?_ | refine go_nil ?_ | refine go_hit rfl rfl rfl ?_ | refine go_splitT rfl rfl rfl (fun h => ?_) (fun h => ?_) | refine go_splitF rfl rfl rfl (fun h => ?_) (fun h => ?_) | refine go_storeBox rfl rfl rfl rfl rfl rfl ?_ | refine go_dop rfl ?_ | refine go_dhit rfl rfl ?_ | refine go_dmiss rfl rfl ?_ | refine go_dundef rfl rfl ?_ | refine go_dend (by kernel_rfl) ?_ | refine go_pickT rfl ?_ | refine go_pickF rfl ?_ | refine go_pick rfl (fun h => ?_) (fun h => ?_) | refine go_call [] (h0) rfl rfl rfl rfl ?_ | refine Or.inr ?_) <;> conv => whnf) | ((first | refine Or.inl ?_ | refine go_dsplit2 rfl (fun h => ?_) (fun h => ?_) | refine go_loadB ?_ | refine ⟨by kernel_rfl, ?_⟩ | refine go_ret ?_) <;> conv => whnf) | refine go_block ?_ | ((first | refine go_skip ?_ | refine go_exit ?_) <;> conv => whnf) | refine go_true rfl ?_ | refine go_false rfl ?_ | refine go_cond rfl (fun h => ?_) (fun h => ?_) | refine ⟨rfl, ?_⟩ | ((first | refine ⟨trivial, ?_⟩ | refine ⟨le_of_ble rfl, ?_⟩) <;> conv => whnf) | fail
    all_goals first
      | (refine ret_x (av := .imm (.agg [.other nilV, .other nilV, .other nilV])) [] [] rfl rfl (by intro e; cases e) rfl rfl (close_agg0 (vs := [nilV, nilV, nilV]) nil_tt) (close_no _) (by simp); done)
      | (exfalso; simp at h; done)
      | trace_state
  | true =>
    rw [hv] at h0
    rw [if_pos rfl, Bool.true_and]
    have hA := x23 t hf hv cs hl
    repeat' first | (refine go_ext (ext_xcall hA [] (fun _ _ => True) (v := Value.slice none 0 0) [] ⟨look_imm _ _ _, look_imm _ _ _, trivial⟩ (by simp) (.inr fun u => ⟨rfl, rfl, rfl⟩) (split_no _ _) have0 rfl rfl rfl rfl ?_); intro r; conv => whnf) | (refine go_fact tyOk (id := nid 3 12) (p := ∃ x : Sl × Sl × Sl, r = .agg #[x.1.v, x.2.1.v, x.2.2.v]) rfl (fun w F h => tt_shape h) ?_; rintro ⟨⟨⟨a1, n1, c1⟩, ⟨a2, n2, c2⟩, a3, n3, c3⟩, hv⟩; subst hv; conv => whnf) | refine go_seq ?_ | refine go_region ?_ | refine go_miss rfl rfl rfl ?_ | refine go_undef rfl rfl rfl ?_ | refine go_draw drawsOk ?_ | ((first | refine go_op rfl ?_ | refine go_nil ?_ | refine go_hit rfl rfl rfl ?_ | refine go_splitT rfl rfl rfl (fun h => ?_) (fun h => ?_) | refine go_splitF rfl rfl rfl (fun h => ?_) (fun h => ?_) | refine go_storeBox rfl rfl rfl rfl rfl rfl ?_ | refine go_dop rfl ?_ | refine go_dhit rfl rfl ?_ | refine go_dmiss rfl rfl ?_ | refine go_dundef rfl rfl ?_ | refine go_dend (by kernel_rfl) ?_ | refine go_pickT rfl ?_ | refine go_pickF rfl ?_ | refine go_pick rfl (fun h => ?_) (fun h => ?_) | refine go_call [] (h0) rfl rfl rfl rfl ?_) <;> conv => whnf) | ((first | refine Or.inl ?_ | refine go_dsplit2 rfl (fun h => ?_) (fun h => ?_) | refine go_loadB ?_ | refine ⟨by kernel_rfl, ?_⟩ | refine go_ret ?_) <;> conv => whnf) | refine go_block ?_ | ((first | refine go_skip ?_ | refine go_exit ?_) <;> conv => whnf) | refine go_true rfl ?_ | refine go_false rfl ?_ | refine go_cond rfl (fun h => ?_) (fun h => ?_) | refine ⟨rfl, ?_⟩ | ((first | refine ⟨trivial, ?_⟩ | refine ⟨le_of_ble rfl, ?_⟩) <;> conv => whnf) | fail
    all_goals first
      | (refine ret_x (av := .imm (.agg [.other (.slice a1 n1 c1), .other (.slice a2 n2 c2), .other (.slice a3 n3 c3)])) [nid 3 12] [] rfl rfl (by intro e; cases e) rfl rfl (close_agg1 (vs := [.slice a1 n1 c1, .slice a2 n2 c2, .slice a3 n3 c3]) rfl (fun _ _ h => h)) (close_no _) (by simp); done)
      | (exfalso; simp at h; done)
      | trace_state

theorem c6 (t : Timetable) (hf : t.fit) (cs : List Change) (hl : cs.length ≤ 1048576) : CallOk Try.prog 6 [.imm (.agg t.enc), .imm (.list (cs.map Change.enc))] { res := [.imm (.agg (acT t cs).enc), .imm (.bool (acOk t cs))], sep := false } := by
  refine callOk_of tyOk Try.func6 rfl rfl (le_of_ble rfl) (le_of_ble rfl) (mutOk_imm rfl _) ?_
  have h0 := c17 t hf
  unfold acT acOk
  cases hv : ttOk t with
  | false =>
    rw [hv] at h0
    rw [if_neg (by simp)]
    repeat' first | refine go_seq ?_ | refine go_region ?_ | ((first | refine go_op rfl ?_ | refine go_nil ?_ | refine go_storeBox rfl rfl rfl rfl rfl rfl ?_ | refine go_call [] (h0) rfl rfl rfl rfl ?_) <;> conv => whnf) | ((first | refine Or.inl ?_ | refine go_loadB ?_ | refine ⟨by kernel_rfl, ?_⟩ | refine go_ret ?_) <;> conv => whnf) | ((first | refine go_skip ?_) <;> conv => whnf) | refine go_true rfl ?_ | refine go_false rfl ?_ | refine go_cond rfl (fun h => ?_) (fun h => ?_) | refine ⟨rfl, ?_⟩ | ((first | refine ⟨trivial, ?_⟩ | refine ⟨le_of_ble rfl, ?_⟩) <;> conv => whnf) | fail
    all_goals first
      | exact ret_all rfl ⟨⟨rfl, fun h => by cases h⟩, ⟨rfl, fun h => by cases h⟩, trivial⟩ List.nodup_nil List.nodup_nil trivial
      | (exfalso; simp at h; done)
      | trace_state
  | true =>
    rw [hv] at h0
    rw [if_pos rfl, Bool.true_and]
    have h1 := c18 t hf hv cs hl
    repeat' first | refine go_seq ?_ | refine go_region ?_ | ((first | refine go_op rfl ?_ | refine go_nil ?_ | refine go_storeBox rfl rfl rfl rfl rfl rfl ?_ | refine go_call [] (h0) rfl rfl rfl rfl ?_ | refine go_call [] (h1) rfl rfl rfl rfl ?_) <;> conv => whnf) | ((first | refine Or.inl ?_ | refine go_loadB ?_ | refine ⟨by kernel_rfl, ?_⟩ | refine go_ret ?_) <;> conv => whnf) | ((first | refine go_skip ?_) <;> conv => whnf) | refine go_true rfl ?_ | refine go_false rfl ?_ | refine go_cond rfl (fun h => ?_) (fun h => ?_) | refine ⟨rfl, ?_⟩ | ((first | refine ⟨trivial, ?_⟩ | refine ⟨le_of_ble rfl, ?_⟩) <;> conv => whnf) | fail
    all_goals first
      | exact ret_all rfl ⟨⟨rfl, fun h => by cases h⟩, ⟨rfl, fun h => by cases h⟩, trivial⟩ List.nodup_nil List.nodup_nil trivial
      | (exfalso; simp at h; done)
      | trace_state
end Go.Proofs.Ytfjphbjbobojbaa

