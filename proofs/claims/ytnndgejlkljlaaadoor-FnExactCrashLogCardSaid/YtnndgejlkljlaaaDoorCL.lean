/- The law of CrashLog, walked. -/
import Derived.Test.YtnndgejlkljlaaaDoorCR
namespace Go.Proofs.YtnndgejlkljlaaaDoor
open Go Go.Am Go.Lg
set_option maxRecDepth 100000
set_option maxHeartbeats 4000000
attribute [local irreducible] amOps amC opCall opIndexAddr opPick retQ opMake opStore amDraw opAppend opLoad opNilCmp opIndex opSlice

def szLogV (l : LogV) (n : Int) : Int := less (less n l.d.length) l.p.length
theorem c4 (l : LogV) (hk : l.ok) (n : Int) (h0 : 0 ≤ n) (h1 : n ≤ 1048576) : CallOk Tryd.prog 4 [.imm (.agg l.enc), .imm (.int .i64 n)] { res := [.imm (.int .i64 (szLogV l n))] } := by
  refine callOk_of tyOk Tryd.func4 rfl rfl (le_of_ble rfl) (le_of_ble rfl) (mutOk_imm rfl _) ?_
  obtain ⟨k1, k2, _⟩ := hk
  unfold maxLen at k1 k2
  have s1 := ofL_size l.d
  have s2 := ofL_size l.p
  have w1 : IntKind.i64.wrap (n - ((ofL l.d).size : Int)) = n - l.d.length := by rw [s1]; exact wrap_small (by omega) (by omega)
  repeat' first | refine go_seq ?_ | refine go_region ?_ | ((first | refine go_op rfl ?_ | refine go_nil ?_) <;> conv => whnf) | ((first | refine go_loadB ?_ | refine ⟨by kernel_rfl, ?_⟩ | refine go_ret ?_) <;> conv => whnf) | ((first | refine go_skip ?_) <;> conv => whnf) | refine go_true rfl ?_ | refine go_false rfl ?_ | refine go_cond rfl (fun h => ?_) (fun h => ?_) | refine ⟨rfl, ?_⟩ | ((first | refine ⟨trivial, ?_⟩ | refine ⟨le_of_ble rfl, ?_⟩) <;> conv => whnf) | fail
  all_goals first
    | (refine ret_imm rfl rfl rfl rfl ?_ rfl
       simp [w1] at h
       have h' : n - (l.d.length : Int) < 0 := by omega
       have hx : less n l.d.length = -1 := by unfold less; rw [if_neg (by omega), if_pos h']
       unfold szLogV; rw [hx]; rfl)
    | skip
  all_goals
    rename_i hh
    simp [w1] at hh
    have w2 : IntKind.i64.wrap (IntKind.i64.wrap (n - ((ofL l.d).size : Int)) - ((ofL l.p).size : Int)) = n - l.d.length - l.p.length := by rw [w1, s2]; exact wrap_small (by omega) (by omega)
    have hx : less n l.d.length = n - l.d.length := by unfold less; rw [if_neg (by omega), if_neg (by omega)]
    first
      | (refine ret_imm rfl rfl rfl rfl ?_ rfl
         rw [w2] at h
         simp at h
         unfold szLogV; rw [hx]; unfold less; rw [if_neg (by omega), if_pos (by omega)]; done)
      | (refine ret_imm rfl rfl rfl rfl ?_ rfl
         rw [w2] at h ⊢
         simp at h
         unfold szLogV; rw [hx]; unfold less; rw [if_neg (by omega), if_neg (by omega)]; done)
      | trace_state
theorem szLogV_fit {l : LogV} {n : Int} (h1 : n ≤ 1048576) (h : 0 ≤ szLogV l n) : l.fit := by
  obtain ⟨a1, a2⟩ := less_le h
  obtain ⟨b1, b2⟩ := less_le (n := n) (k := l.d.length) (by omega)
  exact ⟨by omega, by omega⟩
theorem szLogV_bd {l : LogV} {n : Int} (h1 : n ≤ 1048576) : szLogV l n ≤ 1048576 := by
  have := less_bd (k := l.d.length) h1
  exact (less_bd (k := l.p.length) this.2).2

theorem c6 (l : LogV) : CallOk Tryd.prog 6 [.imm (.agg l.enc)] { res := [.imm (.agg l.enc)] } := by
  refine callOk_of tyOk Tryd.func6 rfl rfl (le_of_ble rfl) (le_of_ble rfl) (mutOk_imm rfl _) ?_
  repeat' first | refine go_seq ?_ | refine go_region ?_ | ((first | refine go_op rfl ?_ | refine go_nil ?_ | refine go_storeBox rfl rfl rfl rfl rfl rfl ?_) <;> conv => whnf) | ((first | refine go_loadB ?_ | refine ⟨by kernel_rfl, ?_⟩ | refine go_ret ?_) <;> conv => whnf) | ((first | refine go_skip ?_) <;> conv => whnf) | refine ⟨rfl, ?_⟩ | ((first | refine ⟨trivial, ?_⟩ | refine ⟨le_of_ble rfl, ?_⟩) <;> conv => whnf) | fail
  all_goals exact ret_imm rfl rfl rfl rfl rfl rfl


theorem c3 (l : LogV) (hk : l.ok) (k : Int) (_ : i64 k) (torn : Bool) : CallOk Tryd.prog 3 [.imm (.agg l.enc), .imm (.int .i64 k), .imm (.bool torn)] { res := [.imm (.bool true)] } := by
  refine callOk_of tyOk Tryd.func3 rfl rfl (le_of_ble rfl) (le_of_ble rfl) (mutOk_imm rfl _) ?_
  have hz := c4 l hk 1048576 (by omega) (by omega)
  have ht := c6 l
  by_cases h0 : 0 ≤ szLogV l 1048576
  · have hf := szLogV_fit (by omega) h0
    have h1 := c5 l hf k torn
    have h2 := c7 l hf k torn
    repeat' first | refine go_seq ?_ | refine go_region ?_ | refine go_miss rfl rfl rfl ?_ | refine go_undef rfl rfl rfl ?_ | ((first | refine go_op rfl ?_ | refine go_nil ?_ | refine go_hit rfl rfl rfl ?_ | refine go_splitT rfl rfl rfl (fun h => ?_) (fun h => ?_) | refine go_splitF rfl rfl rfl (fun h => ?_) (fun h => ?_) | refine go_pickT rfl ?_ | refine go_pickF rfl ?_ | refine go_pick rfl (fun h => ?_) (fun h => ?_) | refine go_call [] (hz) rfl rfl rfl rfl ?_ | refine go_call [] (ht) rfl rfl rfl rfl ?_ | refine go_call [] (h1) rfl rfl rfl rfl ?_ | refine go_call [] (h2) rfl rfl rfl rfl ?_) <;> conv => whnf) | ((first | refine go_loadB ?_ | refine ⟨by kernel_rfl, ?_⟩ | refine go_ret ?_) <;> conv => whnf) | ((first | refine go_skip ?_) <;> conv => whnf) | refine go_true rfl ?_ | refine go_false rfl ?_ | refine go_cond rfl (fun h => ?_) (fun h => ?_) | refine ⟨rfl, ?_⟩ | ((first | refine ⟨trivial, ?_⟩ | refine ⟨le_of_ble rfl, ?_⟩) <;> conv => whnf) | fail
    all_goals first
      | exact ret_imm rfl rfl rfl rfl rfl rfl
      | (exfalso; simp [str_self] at h; done)
      | (exfalso; rw [str_self] at h; cases h)
      | (exfalso; have h' := of_decide_eq_false h; omega)
      | (exfalso; have h' := of_decide_eq_true h; omega)
      | (exfalso; rename_i hq; have h' := of_decide_eq_true hq; omega)
      | (exfalso; rename_i hq; have h' := of_decide_eq_false hq; omega)
      | (exfalso; rename_i hq _; have h' := of_decide_eq_true hq; omega)
      | (exfalso; rename_i hq _; have h' := of_decide_eq_false hq; omega)
      | trace_state
  · skip
    repeat' first | refine go_seq ?_ | refine go_region ?_ | refine go_miss rfl rfl rfl ?_ | refine go_undef rfl rfl rfl ?_ | ((first | refine go_op rfl ?_ | refine go_nil ?_ | refine go_hit rfl rfl rfl ?_ | refine go_splitT rfl rfl rfl (fun h => ?_) (fun h => ?_) | refine go_splitF rfl rfl rfl (fun h => ?_) (fun h => ?_) | refine go_pickT rfl ?_ | refine go_pickF rfl ?_ | refine go_pick rfl (fun h => ?_) (fun h => ?_) | refine go_call [] (hz) rfl rfl rfl rfl ?_) <;> conv => whnf) | ((first | refine go_loadB ?_ | refine ⟨by kernel_rfl, ?_⟩ | refine go_ret ?_) <;> conv => whnf) | ((first | refine go_skip ?_) <;> conv => whnf) | refine go_true rfl ?_ | refine go_false rfl ?_ | refine go_cond rfl (fun h => ?_) (fun h => ?_) | refine ⟨rfl, ?_⟩ | ((first | refine ⟨trivial, ?_⟩ | refine ⟨le_of_ble rfl, ?_⟩) <;> conv => whnf) | fail
    all_goals first
      | exact ret_imm rfl rfl rfl rfl rfl rfl
      | (exfalso; have h' := of_decide_eq_false h; omega)
      | (exfalso; have h' := of_decide_eq_true h; omega)
      | (exfalso; rename_i hq; have h' := of_decide_eq_true hq; omega)
      | (exfalso; rename_i hq; have h' := of_decide_eq_false hq; omega)
      | (exfalso; rename_i hq _; have h' := of_decide_eq_true hq; omega)
      | (exfalso; rename_i hq _; have h' := of_decide_eq_false hq; omega)
      | trace_state
end Go.Proofs.YtnndgejlkljlaaaDoor

