/- The walks of records as they come in: their size, their copy. -/
import Derived.Test.YtnndgejlkljlaaaDoorG2
namespace Go.Proofs.YtnndgejlkljlaaaDoor
open Go Go.Am Go.Lg
set_option maxRecDepth 100000
set_option maxHeartbeats 4000000
attribute [local irreducible] amOps amC opCall opIndexAddr opPick retQ opMake opStore amDraw opAppend opLoad opNilCmp opIndex

/-- What is left of a budget. -/
def less (n : Int) (k : Nat) : Int := if n < 0 then -1 else if n - k < 0 then -1 else n - k
theorem less_le {n : Int} {k : Nat} (h : 0 ≤ less n k) : (k : Int) ≤ n ∧ less n k = n - k := by
  unfold less at *
  split at h
  · omega
  · split at h
    · omega
    · rename_i h1 h2
      rw [if_neg h1, if_neg h2]
      exact ⟨by omega, rfl⟩
theorem less_bd {n : Int} {k : Nat} (h : n ≤ 1048576) : -1 ≤ less n k ∧ less n k ≤ 1048576 := by
  unfold less
  split
  · omega
  · split <;> omega
def szRec (e : Rec) (n : Int) : Int := less (less n e.cmd.length) e.reply.length

theorem szRec_fit {e : Rec} {n : Int} (h1 : n ≤ 1048576) (h : 0 ≤ szRec e n) : e.fit := by
  obtain ⟨a1, a2⟩ := less_le h
  obtain ⟨b1, b2⟩ := less_le (n := n) (k := e.cmd.length) (by omega)
  exact ⟨by omega, by omega⟩
end Go.Proofs.YtnndgejlkljlaaaDoor

