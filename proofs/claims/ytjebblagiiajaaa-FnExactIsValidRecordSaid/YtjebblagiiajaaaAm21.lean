/- The abstract machine, part 21: a contract from a body. -/
import Derived.Test.YtjebblagiiajaaaAm20
namespace Go.Am
open Go

theorem retOk_of {T : TypeId → Option TI} {fn : Func} {ins : List In} {out : Out} {e : Exit} {σ : S} (h : retQ T fn ins out e σ) : (e = .normal ∨ e = .ret) ∧ RetOk T fn ins out σ := by
  cases e with
  | normal => exact ⟨.inl rfl, h⟩
  | ret => exact ⟨.inr rfl, h⟩
  | _ => exact h.elim

theorem mutOk_box {ins : List In} {out : Out} (hm : MutOk ins out) : ∀ c o, outM ins out c = some o → ∃ ds : List D, ∀ ty cells, o = .box ty cells → cells = ds.map .imm := by
  intro c o ho
  unfold outM at ho
  split at ho
  · have key : ∀ o', inM ins c = some o' → ∃ ds : List D, ∀ ty cells, out.muts.getD c .gone = .box ty cells → cells = ds.map .imm := fun o' h' => by
      obtain ⟨_, h2⟩ := hm c o' h'
      rcases h2 with ⟨ty, sz, rows, h2⟩ | ⟨ty, ds, h2⟩ | h2
      · exact ⟨[], fun ty' cells e => by rw [h2] at e; cases e⟩
      · exact ⟨ds, fun ty' cells e => by rw [h2] at e; injection e with _ e; exact e.symm⟩
      · exact ⟨[], fun ty' cells e => by rw [h2] at e; cases e⟩
    split at ho
    · rename_i hi
      injection ho with ho; subst ho
      exact key _ (by unfold inM; rw [hi])
    · rename_i hi
      injection ho with ho; subst ho
      exact key _ (by unfold inM; rw [hi])
    · cases ho
  · split at ho
    · injection ho with ho; subst ho; exact ⟨[], fun _ _ e => by cases e⟩
    · cases ho

end Go.Am
