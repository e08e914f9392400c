/- The walks of records as they come in: their size, their copy. -/
import Derived.Test.YtjebblagiiajaaaDoorG2
namespace Go.Proofs.YtjebblagiiajaaaDoor
open Go Go.Am Go.Lg
set_option maxRecDepth 100000
set_option maxHeartbeats 4000000
attribute [local irreducible] amOps amC opCall opIndexAddr opPick retQ opMake opStore amDraw opAppend opLoad opNilCmp opIndex

/-- What is left of a budget. -/
def less (n : Int) (k : Nat) : Int := if n < 0 then -1 else if n - k < 0 then -1 else n - k
theorem less_le {n : Int} {k : Nat} (h : 0 ≤ less n k) : (k : Int) ≤ n ∧ less n k = n - k := by
  unfold less at *
  split at h
  · omega
  · split at h
    · omega
    · rename_i h1 h2
      rw [if_neg h1, if_neg h2]
      exact ⟨by omega, rfl⟩
theorem less_bd {n : Int} {k : Nat} (h : n ≤ 1048576) : -1 ≤ less n k ∧ less n k ≤ 1048576 := by
  unfold less
  split
  · omega
  · split <;> omega
def szRec (e : Rec) (n : Int) : Int := less (less n e.cmd.length) e.reply.length

theorem c10 (e : Rec) (hk : e.ok) (n : Int) (h0 : 0 ≤ n) (h1 : n ≤ 1048576) : CallOk Tryd.prog 10 [.imm (.agg e.enc), .imm (.int .i64 n)] { res := [.imm (.int .i64 (szRec e n))] } := by
  refine callOk_of tyOk Tryd.func10 rfl rfl (le_of_ble rfl) (le_of_ble rfl) (mutOk_imm rfl _) ?_
  obtain ⟨k1, k2⟩ := hk
  unfold maxLen at k1 k2
  have s1 := ofL_size e.cmd
  have s2 := ofL_size e.reply
  have w1 : IntKind.i64.wrap (n - ((ofL e.cmd).size : Int)) = n - e.cmd.length := by rw [s1]; exact wrap_small (by omega) (by omega)
  repeat' first
    | refine go_seq ?_
    | refine go_region ?_
    | (refine go_op rfl ?_; conv => whnf)
    | (refine go_nil ?_; conv => whnf)
    | (refine go_hit rfl rfl rfl ?_; conv => whnf)
    | (refine go_miss rfl rfl rfl ?_)
    | (refine go_undef rfl rfl rfl ?_)
    | (refine go_splitT rfl rfl rfl (fun h => ?_) (fun h => ?_) <;> conv => whnf)
    | (refine go_splitF rfl rfl rfl (fun h => ?_) (fun h => ?_) <;> conv => whnf)
    | (refine go_storeBox rfl rfl rfl rfl rfl rfl ?_; conv => whnf)
    | (refine go_dop rfl ?_; conv => whnf)
    | (refine go_dhit rfl rfl ?_; conv => whnf)
    | (refine go_dmiss rfl rfl ?_; conv => whnf)
    | (refine go_dundef rfl rfl ?_; conv => whnf)
    | (refine go_dend (by kernel_rfl) ?_; conv => whnf)
    | refine go_draw drawsOk ?_
    | (refine go_pickT rfl ?_; conv => whnf)
    | (refine go_pickF rfl ?_; conv => whnf)
    | (refine go_pick rfl (fun h => ?_) (fun h => ?_) <;> conv => whnf)
    | (refine go_dsplit2 rfl (fun h => ?_) (fun h => ?_) <;> conv => whnf)
    | (refine go_loadB ?_; conv => whnf)
    | (refine ⟨by kernel_rfl, ?_⟩; conv => whnf)
    | (refine go_ret ?_; conv => whnf)
    | refine go_block ?_
    | (refine go_skip ?_; conv => whnf)
    | (refine go_exit ?_; conv => whnf)
    | refine go_true rfl ?_
    | refine go_false rfl ?_
    | refine go_cond rfl (fun h => ?_) (fun h => ?_)
    | refine ⟨rfl, ?_⟩
    | (refine ⟨trivial, ?_⟩; conv => whnf)
    | (refine ⟨le_of_ble rfl, ?_⟩; conv => whnf)
    | fail
  all_goals first
    | (refine ret_imm rfl rfl rfl rfl ?_ rfl
       simp [w1] at h
       have h' : n - (e.cmd.length : Int) < 0 := by omega
       have hx : less n e.cmd.length = -1 := by unfold less; rw [if_neg (by omega), if_pos h']
       unfold szRec; rw [hx]; rfl)
    | skip
  all_goals
    rename_i hh
    simp [w1] at hh
    have w2 : IntKind.i64.wrap (IntKind.i64.wrap (n - ((ofL e.cmd).size : Int)) - ((ofL e.reply).size : Int)) = n - e.cmd.length - e.reply.length := by rw [w1, s2]; exact wrap_small (by omega) (by omega)
    have hx : less n e.cmd.length = n - e.cmd.length := by unfold less; rw [if_neg (by omega), if_neg (by omega)]
    first
      | (refine ret_imm rfl rfl rfl rfl ?_ rfl
         rw [w2] at h
         simp at h
         unfold szRec; rw [hx]; unfold less; rw [if_neg (by omega), if_pos (by omega)]; done)
      | (refine ret_imm rfl rfl rfl rfl ?_ rfl
         rw [w2] at h ⊢
         simp at h
         unfold szRec; rw [hx]; unfold less; rw [if_neg (by omega), if_neg (by omega)]; done)
      | trace_state

theorem c12 (e : Rec) : CallOk Tryd.prog 12 [.imm (.agg e.enc)] { res := [.imm (.agg e.enc)] } := by
  refine callOk_of tyOk Tryd.func12 rfl rfl (le_of_ble rfl) (le_of_ble rfl) (mutOk_imm rfl _) ?_
  repeat' first
    | refine go_seq ?_
    | refine go_region ?_
    | (refine go_op rfl ?_; conv => whnf)
    | (refine go_nil ?_; conv => whnf)
    | (refine go_hit rfl rfl rfl ?_; conv => whnf)
    | (refine go_miss rfl rfl rfl ?_)
    | (refine go_undef rfl rfl rfl ?_)
    | (refine go_splitT rfl rfl rfl (fun h => ?_) (fun h => ?_) <;> conv => whnf)
    | (refine go_splitF rfl rfl rfl (fun h => ?_) (fun h => ?_) <;> conv => whnf)
    | (refine go_storeBox rfl rfl rfl rfl rfl rfl ?_; conv => whnf)
    | (refine go_dop rfl ?_; conv => whnf)
    | (refine go_dhit rfl rfl ?_; conv => whnf)
    | (refine go_dmiss rfl rfl ?_; conv => whnf)
    | (refine go_dundef rfl rfl ?_; conv => whnf)
    | (refine go_dend (by kernel_rfl) ?_; conv => whnf)
    | refine go_draw drawsOk ?_
    | (refine go_pickT rfl ?_; conv => whnf)
    | (refine go_pickF rfl ?_; conv => whnf)
    | (refine go_pick rfl (fun h => ?_) (fun h => ?_) <;> conv => whnf)
    | (refine go_dsplit2 rfl (fun h => ?_) (fun h => ?_) <;> conv => whnf)
    | (refine go_loadB ?_; conv => whnf)
    | (refine ⟨by kernel_rfl, ?_⟩; conv => whnf)
    | (refine go_ret ?_; conv => whnf)
    | refine go_block ?_
    | (refine go_skip ?_; conv => whnf)
    | (refine go_exit ?_; conv => whnf)
    | refine go_true rfl ?_
    | refine go_false rfl ?_
    | refine go_cond rfl (fun h => ?_) (fun h => ?_)
    | refine ⟨rfl, ?_⟩
    | (refine ⟨trivial, ?_⟩; conv => whnf)
    | (refine ⟨le_of_ble rfl, ?_⟩; conv => whnf)
    | fail
  all_goals exact ret_imm rfl rfl rfl rfl rfl rfl

theorem szRec_fit {e : Rec} {n : Int} (h1 : n ≤ 1048576) (h : 0 ≤ szRec e n) : e.fit := by
  obtain ⟨a1, a2⟩ := less_le h
  obtain ⟨b1, b2⟩ := less_le (n := n) (k := e.cmd.length) (by omega)
  exact ⟨by omega, by omega⟩
end Go.Proofs.YtjebblagiiajaaaDoor

