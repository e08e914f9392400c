/- The abstract machine, part 23: what an operation reads, and that its effect is one. -/
import Derived.Test.YtjebblagiiajaaaAm22
import Derived.Orders
namespace Go.Am
open Go

/-- The operands that the abstract machine looks at. -/
def opIn : Op → List Operand
  | .move x | .assign x | .box _ x | .load _ x | .nilCheck x | .unOp _ _ x | .convert _ _ x | .fieldAddr _ x _ | .field _ x _ | .extract x _ => [x]
  | .pick c a b => [c, a, b]
  | .build _ parts => parts.toList.map (·.2)
  | .buildSlice _ _ parts => parts.toList.map (·.2)
  | .store _ x y | .binOp _ _ x y _ | .indexAddr _ x y | .index _ x y | .makeSlice _ x y => [x, y]
  | .makeFunc _ first captured => first.toList ++ captured.toList
  | .slice _ x lo hi mx => x :: (lo.toList ++ (hi.toList ++ mx.toList))
  | .call c => c.args.toList ++ (match c.callee with | .value f => [f] | _ => [])
  | _ => []

theorem amOp_congr {P : Program} {T : TypeId → Option TI} {ρ ρ' : Operand → AV} {m : Nat → Option O} {ep : Nat} {o : Oper} {K : Eff → Prop} (h : ∀ x ∈ opIn o.op, ρ x = ρ' x) (hk : amOp P T ρ m ep o K) : amOp P T ρ' m ep o K := by
  have hmap : ∀ l : List Operand, (∀ x ∈ l, ρ x = ρ' x) → l.map ρ = l.map ρ' := fun l hl => List.map_congr_left hl
  have hopt : ∀ l : Option Operand, (∀ x ∈ l.toList, ρ x = ρ' x) → l.map ρ = l.map ρ' := fun l hl => by
    cases l with
    | none => rfl
    | some x => simp only [Option.map_some]; rw [hl x (by simp)]
  have hpart : ∀ l : List (Nat × Operand), (∀ x ∈ l.map (·.2), ρ x = ρ' x) → (l.map fun x => (x.1, ρ x.2)) = (l.map fun x => (x.1, ρ' x.2)) := fun l hl => by
    refine List.map_congr_left fun x hx => ?_
    rw [hl x.2 (List.mem_map.2 ⟨x, hx, rfl⟩)]
  unfold amOp at hk ⊢
  cases ho : o.op <;> simp only [ho, opIn] at h hk ⊢ <;> first | exact hk.elim | skip
  case move x => rw [← h x (by simp)]; exact hk
  case assign x => rw [← h x (by simp)]; exact hk
  case pick c a b => rw [← h c (by simp), ← h a (by simp), ← h b (by simp)]; exact hk
  case alloc t => exact hk
  case box t x => rw [← h x (by simp)]; exact hk
  case build t parts => rw [← hpart _ h]; exact hk
  case buildSlice t n parts => rw [← hpart _ h]; exact hk
  case load t x => rw [← h x (by simp)]; exact hk
  case store t x y => rw [← h x (by simp), ← h y (by simp)]; exact hk
  case nilCheck x => rw [← h x (by simp)]; exact hk
  case binOp op t x y yt => rw [← h x (by simp), ← h y (by simp)]; exact hk
  case unOp op t x => rw [← h x (by simp)]; exact hk
  case convert s d x => rw [← h x (by simp)]; exact hk
  case makeFunc fn first captured => rw [← hmap first.toList (fun x hx => h x (by simp [hx])), ← hmap captured.toList (fun x hx => h x (by simp [hx]))]; exact hk
  case makeSlice t x y => rw [← h x (by simp), ← h y (by simp)]; exact hk
  case slice t x lo hi mx => rw [← h x (by simp), ← hopt lo (fun x hx => h x (by simp [hx])), ← hopt hi (fun x hx => h x (by simp [hx])), ← hopt mx (fun x hx => h x (by simp [hx]))]; exact hk
  case fieldAddr t x f => rw [← h x (by simp)]; exact hk
  case field t x f => rw [← h x (by simp)]; exact hk
  case indexAddr t x y => rw [← h x (by simp), ← h y (by simp)]; exact hk
  case index t x y => rw [← h x (by simp), ← h y (by simp)]; exact hk
  case extract x i => rw [← h x (by simp)]; exact hk
  case call c =>
    cases hc : c.callee <;> simp only [hc] at h hk ⊢ <;> first | exact hk.elim | skip
    case builtin b => rw [← hmap c.args.toList (fun x hx => h x (by simp at hx; simp [hx]))]; exact hk
    case value f =>
      rw [← h f (by simp), ← hmap c.args.toList (fun x hx => h x (by simp at hx; simp [hx]))]; exact hk

/-- Its effect is one. -/
def Det (F : (Eff → Prop) → Prop) : Prop := ∀ K, F K → ∃ e, K e ∧ F fun e' => e' = e

theorem det_bin {T : TypeId → Option TI} {op : BinOp} {t : TypeId} {x y : AV} : Det (opBin T op t x y) := by
  intro K h
  unfold opBin at h ⊢
  split at h
  · split at h
    · exact ⟨_, h, rfl⟩
    · exact ⟨_, h, rfl⟩
    · exact h.elim
  · rename_i d d' hne
    simp only
    unfold binK at h ⊢
    (repeat' split at h) <;> first | exact h.elim | (refine ⟨_, h, ?_⟩; simp_all; done) | (refine ⟨_, h.2, ?_⟩; simp_all; done) | (refine ⟨_, h.2.2, ?_⟩; simp_all; done)
  · exact h.elim

theorem det_opMove {T : TypeId → Option TI} {m : Nat → Option O} {ep : Nat} {o : Oper} {x : Operand} {v : AV} : Det (opMove T m ep o x v) := by
  intro K h
  unfold opMove at h ⊢
  (repeat' split at h) <;> first | exact h.elim | (refine ⟨_, h, ?_⟩; simp_all; done) | (refine ⟨_, h.2, ?_⟩; simp_all; done) | (refine ⟨_, h.2.2, ?_⟩; simp_all; done) | (refine ⟨_, h.2.2.2, ?_⟩; simp_all; done) | (refine ⟨_, h.2.2.2.2, ?_⟩; simp_all; done) | (refine ⟨_, h.2.2.2.2.2, ?_⟩; simp_all; done) | (refine ⟨_, h.2.2.2.2.2.2, ?_⟩; simp_all; done) | (refine ⟨_, h.2.2.2.2.2.2.2, ?_⟩; simp_all; done) | (refine ⟨_, h.2.2.2.2.2.2.2.2, ?_⟩; simp_all; done) | (refine ⟨_, h.2.2.2.2.2.2.2.2.2, ?_⟩; simp_all; done) | (exact ⟨_, h.2, h.1, rfl⟩) | (exact ⟨_, h.2.2, h.1, h.2.1, rfl⟩) | (exact ⟨_, h.2.2.2, h.1, h.2.1, h.2.2.1, rfl⟩) | (exact ⟨_, h.2.2.2.2, h.1, h.2.1, h.2.2.1, h.2.2.2.1, rfl⟩) | (exact ⟨_, h.2.2.2.2.2, h.1, h.2.1, h.2.2.1, h.2.2.2.1, h.2.2.2.2.1, rfl⟩) | (exact ⟨_, h.2.2.2.2.2.2, h.1, h.2.1, h.2.2.1, h.2.2.2.1, h.2.2.2.2.1, h.2.2.2.2.2.1, rfl⟩) | (exact ⟨_, h.2.2.2.2.2.2.2, h.1, h.2.1, h.2.2.1, h.2.2.2.1, h.2.2.2.2.1, h.2.2.2.2.2.1, h.2.2.2.2.2.2.1, rfl⟩) | (exact ⟨_, h.2.2.2.2.2.2.2.2, h.1, h.2.1, h.2.2.1, h.2.2.2.1, h.2.2.2.2.1, h.2.2.2.2.2.1, h.2.2.2.2.2.2.1, h.2.2.2.2.2.2.2.1, rfl⟩) | (exact ⟨_, h.2.2.2.2.2.2.2.2.2, h.1, h.2.1, h.2.2.1, h.2.2.2.1, h.2.2.2.2.1, h.2.2.2.2.2.1, h.2.2.2.2.2.2.1, h.2.2.2.2.2.2.2.1, h.2.2.2.2.2.2.2.2.1, rfl⟩) | (exact ⟨_, h.2.2.2.2.2.2.2.2.2.2, h.1, h.2.1, h.2.2.1, h.2.2.2.1, h.2.2.2.2.1, h.2.2.2.2.2.1, h.2.2.2.2.2.2.1, h.2.2.2.2.2.2.2.1, h.2.2.2.2.2.2.2.2.1, h.2.2.2.2.2.2.2.2.2.1, rfl⟩) | (simp at h; done)

theorem det_opAlloc {T : TypeId → Option TI} {m : Nat → Option O} {ep : Nat} {o : Oper} {t : TypeId} : Det (opAlloc T m ep o t) := by
  intro K h
  unfold opAlloc at h ⊢
  (repeat' split at h) <;> first | exact h.elim | (refine ⟨_, h, ?_⟩; simp_all; done) | (refine ⟨_, h.2, ?_⟩; simp_all; done) | (refine ⟨_, h.2.2, ?_⟩; simp_all; done) | (refine ⟨_, h.2.2.2, ?_⟩; simp_all; done) | (refine ⟨_, h.2.2.2.2, ?_⟩; simp_all; done) | (refine ⟨_, h.2.2.2.2.2, ?_⟩; simp_all; done) | (refine ⟨_, h.2.2.2.2.2.2, ?_⟩; simp_all; done) | (refine ⟨_, h.2.2.2.2.2.2.2, ?_⟩; simp_all; done) | (refine ⟨_, h.2.2.2.2.2.2.2.2, ?_⟩; simp_all; done) | (refine ⟨_, h.2.2.2.2.2.2.2.2.2, ?_⟩; simp_all; done) | (exact ⟨_, h.2, h.1, rfl⟩) | (exact ⟨_, h.2.2, h.1, h.2.1, rfl⟩) | (exact ⟨_, h.2.2.2, h.1, h.2.1, h.2.2.1, rfl⟩) | (exact ⟨_, h.2.2.2.2, h.1, h.2.1, h.2.2.1, h.2.2.2.1, rfl⟩) | (exact ⟨_, h.2.2.2.2.2, h.1, h.2.1, h.2.2.1, h.2.2.2.1, h.2.2.2.2.1, rfl⟩) | (exact ⟨_, h.2.2.2.2.2.2, h.1, h.2.1, h.2.2.1, h.2.2.2.1, h.2.2.2.2.1, h.2.2.2.2.2.1, rfl⟩) | (exact ⟨_, h.2.2.2.2.2.2.2, h.1, h.2.1, h.2.2.1, h.2.2.2.1, h.2.2.2.2.1, h.2.2.2.2.2.1, h.2.2.2.2.2.2.1, rfl⟩) | (exact ⟨_, h.2.2.2.2.2.2.2.2, h.1, h.2.1, h.2.2.1, h.2.2.2.1, h.2.2.2.2.1, h.2.2.2.2.2.1, h.2.2.2.2.2.2.1, h.2.2.2.2.2.2.2.1, rfl⟩) | (exact ⟨_, h.2.2.2.2.2.2.2.2.2, h.1, h.2.1, h.2.2.1, h.2.2.2.1, h.2.2.2.2.1, h.2.2.2.2.2.1, h.2.2.2.2.2.2.1, h.2.2.2.2.2.2.2.1, h.2.2.2.2.2.2.2.2.1, rfl⟩) | (exact ⟨_, h.2.2.2.2.2.2.2.2.2.2, h.1, h.2.1, h.2.2.1, h.2.2.2.1, h.2.2.2.2.1, h.2.2.2.2.2.1, h.2.2.2.2.2.2.1, h.2.2.2.2.2.2.2.1, h.2.2.2.2.2.2.2.2.1, h.2.2.2.2.2.2.2.2.2.1, rfl⟩) | (simp at h; done)

theorem det_opBox {m : Nat → Option O} {ep : Nat} {o : Oper} {t : TypeId} {x : AV} : Det (opBox m ep o t x) := by
  intro K h
  unfold opBox at h ⊢
  (repeat' split at h) <;> first | exact h.elim | (refine ⟨_, h, ?_⟩; simp_all; done) | (refine ⟨_, h.2, ?_⟩; simp_all; done) | (refine ⟨_, h.2.2, ?_⟩; simp_all; done) | (refine ⟨_, h.2.2.2, ?_⟩; simp_all; done) | (refine ⟨_, h.2.2.2.2, ?_⟩; simp_all; done) | (refine ⟨_, h.2.2.2.2.2, ?_⟩; simp_all; done) | (refine ⟨_, h.2.2.2.2.2.2, ?_⟩; simp_all; done) | (refine ⟨_, h.2.2.2.2.2.2.2, ?_⟩; simp_all; done) | (refine ⟨_, h.2.2.2.2.2.2.2.2, ?_⟩; simp_all; done) | (refine ⟨_, h.2.2.2.2.2.2.2.2.2, ?_⟩; simp_all; done) | (exact ⟨_, h.2, h.1, rfl⟩) | (exact ⟨_, h.2.2, h.1, h.2.1, rfl⟩) | (exact ⟨_, h.2.2.2, h.1, h.2.1, h.2.2.1, rfl⟩) | (exact ⟨_, h.2.2.2.2, h.1, h.2.1, h.2.2.1, h.2.2.2.1, rfl⟩) | (exact ⟨_, h.2.2.2.2.2, h.1, h.2.1, h.2.2.1, h.2.2.2.1, h.2.2.2.2.1, rfl⟩) | (exact ⟨_, h.2.2.2.2.2.2, h.1, h.2.1, h.2.2.1, h.2.2.2.1, h.2.2.2.2.1, h.2.2.2.2.2.1, rfl⟩) | (exact ⟨_, h.2.2.2.2.2.2.2, h.1, h.2.1, h.2.2.1, h.2.2.2.1, h.2.2.2.2.1, h.2.2.2.2.2.1, h.2.2.2.2.2.2.1, rfl⟩) | (exact ⟨_, h.2.2.2.2.2.2.2.2, h.1, h.2.1, h.2.2.1, h.2.2.2.1, h.2.2.2.2.1, h.2.2.2.2.2.1, h.2.2.2.2.2.2.1, h.2.2.2.2.2.2.2.1, rfl⟩) | (exact ⟨_, h.2.2.2.2.2.2.2.2.2, h.1, h.2.1, h.2.2.1, h.2.2.2.1, h.2.2.2.2.1, h.2.2.2.2.2.1, h.2.2.2.2.2.2.1, h.2.2.2.2.2.2.2.1, h.2.2.2.2.2.2.2.2.1, rfl⟩) | (exact ⟨_, h.2.2.2.2.2.2.2.2.2.2, h.1, h.2.1, h.2.2.1, h.2.2.2.1, h.2.2.2.2.1, h.2.2.2.2.2.1, h.2.2.2.2.2.2.1, h.2.2.2.2.2.2.2.1, h.2.2.2.2.2.2.2.2.1, h.2.2.2.2.2.2.2.2.2.1, rfl⟩) | (simp at h; done)

theorem det_opBuild {T : TypeId → Option TI} {m : Nat → Option O} {t : TypeId} {parts : List (Nat × AV)} : Det (opBuild T m t parts) := by
  intro K h
  unfold opBuild at h ⊢
  (repeat' split at h) <;> first | exact h.elim | (refine ⟨_, h, ?_⟩; simp_all; done) | (refine ⟨_, h.2, ?_⟩; simp_all; done) | (refine ⟨_, h.2.2, ?_⟩; simp_all; done) | (refine ⟨_, h.2.2.2, ?_⟩; simp_all; done) | (refine ⟨_, h.2.2.2.2, ?_⟩; simp_all; done) | (refine ⟨_, h.2.2.2.2.2, ?_⟩; simp_all; done) | (refine ⟨_, h.2.2.2.2.2.2, ?_⟩; simp_all; done) | (refine ⟨_, h.2.2.2.2.2.2.2, ?_⟩; simp_all; done) | (refine ⟨_, h.2.2.2.2.2.2.2.2, ?_⟩; simp_all; done) | (refine ⟨_, h.2.2.2.2.2.2.2.2.2, ?_⟩; simp_all; done) | (exact ⟨_, h.2, h.1, rfl⟩) | (exact ⟨_, h.2.2, h.1, h.2.1, rfl⟩) | (exact ⟨_, h.2.2.2, h.1, h.2.1, h.2.2.1, rfl⟩) | (exact ⟨_, h.2.2.2.2, h.1, h.2.1, h.2.2.1, h.2.2.2.1, rfl⟩) | (exact ⟨_, h.2.2.2.2.2, h.1, h.2.1, h.2.2.1, h.2.2.2.1, h.2.2.2.2.1, rfl⟩) | (exact ⟨_, h.2.2.2.2.2.2, h.1, h.2.1, h.2.2.1, h.2.2.2.1, h.2.2.2.2.1, h.2.2.2.2.2.1, rfl⟩) | (exact ⟨_, h.2.2.2.2.2.2.2, h.1, h.2.1, h.2.2.1, h.2.2.2.1, h.2.2.2.2.1, h.2.2.2.2.2.1, h.2.2.2.2.2.2.1, rfl⟩) | (exact ⟨_, h.2.2.2.2.2.2.2.2, h.1, h.2.1, h.2.2.1, h.2.2.2.1, h.2.2.2.2.1, h.2.2.2.2.2.1, h.2.2.2.2.2.2.1, h.2.2.2.2.2.2.2.1, rfl⟩) | (exact ⟨_, h.2.2.2.2.2.2.2.2.2, h.1, h.2.1, h.2.2.1, h.2.2.2.1, h.2.2.2.2.1, h.2.2.2.2.2.1, h.2.2.2.2.2.2.1, h.2.2.2.2.2.2.2.1, h.2.2.2.2.2.2.2.2.1, rfl⟩) | (exact ⟨_, h.2.2.2.2.2.2.2.2.2.2, h.1, h.2.1, h.2.2.1, h.2.2.2.1, h.2.2.2.2.1, h.2.2.2.2.2.1, h.2.2.2.2.2.2.1, h.2.2.2.2.2.2.2.1, h.2.2.2.2.2.2.2.2.1, h.2.2.2.2.2.2.2.2.2.1, rfl⟩) | (simp at h; done)

theorem det_opBuildSlice {T : TypeId → Option TI} {m : Nat → Option O} {ep : Nat} {o : Oper} {t : TypeId} {n : Nat} {parts : List (Nat × AV)} : Det (opBuildSlice T m ep o t n parts) := by
  intro K h
  unfold opBuildSlice at h ⊢
  (repeat' split at h) <;> first | exact h.elim | (refine ⟨_, h, ?_⟩; simp_all; done) | (refine ⟨_, h.2, ?_⟩; simp_all; done) | (refine ⟨_, h.2.2, ?_⟩; simp_all; done) | (refine ⟨_, h.2.2.2, ?_⟩; simp_all; done) | (refine ⟨_, h.2.2.2.2, ?_⟩; simp_all; done) | (refine ⟨_, h.2.2.2.2.2, ?_⟩; simp_all; done) | (refine ⟨_, h.2.2.2.2.2.2, ?_⟩; simp_all; done) | (refine ⟨_, h.2.2.2.2.2.2.2, ?_⟩; simp_all; done) | (refine ⟨_, h.2.2.2.2.2.2.2.2, ?_⟩; simp_all; done) | (refine ⟨_, h.2.2.2.2.2.2.2.2.2, ?_⟩; simp_all; done) | (exact ⟨_, h.2, h.1, rfl⟩) | (exact ⟨_, h.2.2, h.1, h.2.1, rfl⟩) | (exact ⟨_, h.2.2.2, h.1, h.2.1, h.2.2.1, rfl⟩) | (exact ⟨_, h.2.2.2.2, h.1, h.2.1, h.2.2.1, h.2.2.2.1, rfl⟩) | (exact ⟨_, h.2.2.2.2.2, h.1, h.2.1, h.2.2.1, h.2.2.2.1, h.2.2.2.2.1, rfl⟩) | (exact ⟨_, h.2.2.2.2.2.2, h.1, h.2.1, h.2.2.1, h.2.2.2.1, h.2.2.2.2.1, h.2.2.2.2.2.1, rfl⟩) | (exact ⟨_, h.2.2.2.2.2.2.2, h.1, h.2.1, h.2.2.1, h.2.2.2.1, h.2.2.2.2.1, h.2.2.2.2.2.1, h.2.2.2.2.2.2.1, rfl⟩) | (exact ⟨_, h.2.2.2.2.2.2.2.2, h.1, h.2.1, h.2.2.1, h.2.2.2.1, h.2.2.2.2.1, h.2.2.2.2.2.1, h.2.2.2.2.2.2.1, h.2.2.2.2.2.2.2.1, rfl⟩) | (exact ⟨_, h.2.2.2.2.2.2.2.2.2, h.1, h.2.1, h.2.2.1, h.2.2.2.1, h.2.2.2.2.1, h.2.2.2.2.2.1, h.2.2.2.2.2.2.1, h.2.2.2.2.2.2.2.1, h.2.2.2.2.2.2.2.2.1, rfl⟩) | (exact ⟨_, h.2.2.2.2.2.2.2.2.2.2, h.1, h.2.1, h.2.2.1, h.2.2.2.1, h.2.2.2.2.1, h.2.2.2.2.2.1, h.2.2.2.2.2.2.1, h.2.2.2.2.2.2.2.1, h.2.2.2.2.2.2.2.2.1, h.2.2.2.2.2.2.2.2.2.1, rfl⟩) | (simp at h; done)

theorem det_opLoad {T : TypeId → Option TI} {m : Nat → Option O} {t : TypeId} {x : AV} : Det (opLoad T m t x) := by
  intro K h
  unfold opLoad at h ⊢
  (repeat' split at h) <;> first | exact h.elim | (refine ⟨_, h, ?_⟩; simp_all; done) | (refine ⟨_, h.2, ?_⟩; simp_all; done) | (refine ⟨_, h.2.2, ?_⟩; simp_all; done) | (refine ⟨_, h.2.2.2, ?_⟩; simp_all; done) | (refine ⟨_, h.2.2.2.2, ?_⟩; simp_all; done) | (refine ⟨_, h.2.2.2.2.2, ?_⟩; simp_all; done) | (refine ⟨_, h.2.2.2.2.2.2, ?_⟩; simp_all; done) | (refine ⟨_, h.2.2.2.2.2.2.2, ?_⟩; simp_all; done) | (refine ⟨_, h.2.2.2.2.2.2.2.2, ?_⟩; simp_all; done) | (refine ⟨_, h.2.2.2.2.2.2.2.2.2, ?_⟩; simp_all; done) | (exact ⟨_, h.2, h.1, rfl⟩) | (exact ⟨_, h.2.2, h.1, h.2.1, rfl⟩) | (exact ⟨_, h.2.2.2, h.1, h.2.1, h.2.2.1, rfl⟩) | (exact ⟨_, h.2.2.2.2, h.1, h.2.1, h.2.2.1, h.2.2.2.1, rfl⟩) | (exact ⟨_, h.2.2.2.2.2, h.1, h.2.1, h.2.2.1, h.2.2.2.1, h.2.2.2.2.1, rfl⟩) | (exact ⟨_, h.2.2.2.2.2.2, h.1, h.2.1, h.2.2.1, h.2.2.2.1, h.2.2.2.2.1, h.2.2.2.2.2.1, rfl⟩) | (exact ⟨_, h.2.2.2.2.2.2.2, h.1, h.2.1, h.2.2.1, h.2.2.2.1, h.2.2.2.2.1, h.2.2.2.2.2.1, h.2.2.2.2.2.2.1, rfl⟩) | (exact ⟨_, h.2.2.2.2.2.2.2.2, h.1, h.2.1, h.2.2.1, h.2.2.2.1, h.2.2.2.2.1, h.2.2.2.2.2.1, h.2.2.2.2.2.2.1, h.2.2.2.2.2.2.2.1, rfl⟩) | (exact ⟨_, h.2.2.2.2.2.2.2.2.2, h.1, h.2.1, h.2.2.1, h.2.2.2.1, h.2.2.2.2.1, h.2.2.2.2.2.1, h.2.2.2.2.2.2.1, h.2.2.2.2.2.2.2.1, h.2.2.2.2.2.2.2.2.1, rfl⟩) | (exact ⟨_, h.2.2.2.2.2.2.2.2.2.2, h.1, h.2.1, h.2.2.1, h.2.2.2.1, h.2.2.2.2.1, h.2.2.2.2.2.1, h.2.2.2.2.2.2.1, h.2.2.2.2.2.2.2.1, h.2.2.2.2.2.2.2.2.1, h.2.2.2.2.2.2.2.2.2.1, rfl⟩) | (simp at h; done)

theorem det_opStore {T : TypeId → Option TI} {m : Nat → Option O} {t : TypeId} {x v : AV} : Det (opStore T m t x v) := by
  intro K h
  unfold opStore at h ⊢
  (repeat' split at h) <;> first | exact h.elim | (refine ⟨_, h, ?_⟩; simp_all; done) | (refine ⟨_, h.2, ?_⟩; simp_all; done) | (refine ⟨_, h.2.2, ?_⟩; simp_all; done) | (refine ⟨_, h.2.2.2, ?_⟩; simp_all; done) | (refine ⟨_, h.2.2.2.2, ?_⟩; simp_all; done) | (refine ⟨_, h.2.2.2.2.2, ?_⟩; simp_all; done) | (refine ⟨_, h.2.2.2.2.2.2, ?_⟩; simp_all; done) | (refine ⟨_, h.2.2.2.2.2.2.2, ?_⟩; simp_all; done) | (refine ⟨_, h.2.2.2.2.2.2.2.2, ?_⟩; simp_all; done) | (refine ⟨_, h.2.2.2.2.2.2.2.2.2, ?_⟩; simp_all; done) | (exact ⟨_, h.2, h.1, rfl⟩) | (exact ⟨_, h.2.2, h.1, h.2.1, rfl⟩) | (exact ⟨_, h.2.2.2, h.1, h.2.1, h.2.2.1, rfl⟩) | (exact ⟨_, h.2.2.2.2, h.1, h.2.1, h.2.2.1, h.2.2.2.1, rfl⟩) | (exact ⟨_, h.2.2.2.2.2, h.1, h.2.1, h.2.2.1, h.2.2.2.1, h.2.2.2.2.1, rfl⟩) | (exact ⟨_, h.2.2.2.2.2.2, h.1, h.2.1, h.2.2.1, h.2.2.2.1, h.2.2.2.2.1, h.2.2.2.2.2.1, rfl⟩) | (exact ⟨_, h.2.2.2.2.2.2.2, h.1, h.2.1, h.2.2.1, h.2.2.2.1, h.2.2.2.2.1, h.2.2.2.2.2.1, h.2.2.2.2.2.2.1, rfl⟩) | (exact ⟨_, h.2.2.2.2.2.2.2.2, h.1, h.2.1, h.2.2.1, h.2.2.2.1, h.2.2.2.2.1, h.2.2.2.2.2.1, h.2.2.2.2.2.2.1, h.2.2.2.2.2.2.2.1, rfl⟩) | (exact ⟨_, h.2.2.2.2.2.2.2.2.2, h.1, h.2.1, h.2.2.1, h.2.2.2.1, h.2.2.2.2.1, h.2.2.2.2.2.1, h.2.2.2.2.2.2.1, h.2.2.2.2.2.2.2.1, h.2.2.2.2.2.2.2.2.1, rfl⟩) | (exact ⟨_, h.2.2.2.2.2.2.2.2.2.2, h.1, h.2.1, h.2.2.1, h.2.2.2.1, h.2.2.2.2.1, h.2.2.2.2.2.1, h.2.2.2.2.2.2.1, h.2.2.2.2.2.2.2.1, h.2.2.2.2.2.2.2.2.1, h.2.2.2.2.2.2.2.2.2.1, rfl⟩) | (simp at h; done)

theorem det_opNil {m : Nat → Option O} {x : AV} : Det (opNil m x) := by
  intro K h
  unfold opNil at h ⊢
  (repeat' split at h) <;> first | exact h.elim | (refine ⟨_, h, ?_⟩; simp_all; done) | (refine ⟨_, h.2, ?_⟩; simp_all; done) | (refine ⟨_, h.2.2, ?_⟩; simp_all; done) | (refine ⟨_, h.2.2.2, ?_⟩; simp_all; done) | (refine ⟨_, h.2.2.2.2, ?_⟩; simp_all; done) | (refine ⟨_, h.2.2.2.2.2, ?_⟩; simp_all; done) | (refine ⟨_, h.2.2.2.2.2.2, ?_⟩; simp_all; done) | (refine ⟨_, h.2.2.2.2.2.2.2, ?_⟩; simp_all; done) | (refine ⟨_, h.2.2.2.2.2.2.2.2, ?_⟩; simp_all; done) | (refine ⟨_, h.2.2.2.2.2.2.2.2.2, ?_⟩; simp_all; done) | (exact ⟨_, h.2, h.1, rfl⟩) | (exact ⟨_, h.2.2, h.1, h.2.1, rfl⟩) | (exact ⟨_, h.2.2.2, h.1, h.2.1, h.2.2.1, rfl⟩) | (exact ⟨_, h.2.2.2.2, h.1, h.2.1, h.2.2.1, h.2.2.2.1, rfl⟩) | (exact ⟨_, h.2.2.2.2.2, h.1, h.2.1, h.2.2.1, h.2.2.2.1, h.2.2.2.2.1, rfl⟩) | (exact ⟨_, h.2.2.2.2.2.2, h.1, h.2.1, h.2.2.1, h.2.2.2.1, h.2.2.2.2.1, h.2.2.2.2.2.1, rfl⟩) | (exact ⟨_, h.2.2.2.2.2.2.2, h.1, h.2.1, h.2.2.1, h.2.2.2.1, h.2.2.2.2.1, h.2.2.2.2.2.1, h.2.2.2.2.2.2.1, rfl⟩) | (exact ⟨_, h.2.2.2.2.2.2.2.2, h.1, h.2.1, h.2.2.1, h.2.2.2.1, h.2.2.2.2.1, h.2.2.2.2.2.1, h.2.2.2.2.2.2.1, h.2.2.2.2.2.2.2.1, rfl⟩) | (exact ⟨_, h.2.2.2.2.2.2.2.2.2, h.1, h.2.1, h.2.2.1, h.2.2.2.1, h.2.2.2.2.1, h.2.2.2.2.2.1, h.2.2.2.2.2.2.1, h.2.2.2.2.2.2.2.1, h.2.2.2.2.2.2.2.2.1, rfl⟩) | (exact ⟨_, h.2.2.2.2.2.2.2.2.2.2, h.1, h.2.1, h.2.2.1, h.2.2.2.1, h.2.2.2.2.1, h.2.2.2.2.2.1, h.2.2.2.2.2.2.1, h.2.2.2.2.2.2.2.1, h.2.2.2.2.2.2.2.2.1, h.2.2.2.2.2.2.2.2.2.1, rfl⟩) | (simp at h; done)

theorem det_opUn {op : UnOp} {x : AV} : Det (opUn op x) := by
  intro K h
  unfold opUn at h ⊢
  (repeat' split at h) <;> first | exact h.elim | (refine ⟨_, h, ?_⟩; simp_all; done) | (refine ⟨_, h.2, ?_⟩; simp_all; done) | (refine ⟨_, h.2.2, ?_⟩; simp_all; done) | (refine ⟨_, h.2.2.2, ?_⟩; simp_all; done) | (refine ⟨_, h.2.2.2.2, ?_⟩; simp_all; done) | (refine ⟨_, h.2.2.2.2.2, ?_⟩; simp_all; done) | (refine ⟨_, h.2.2.2.2.2.2, ?_⟩; simp_all; done) | (refine ⟨_, h.2.2.2.2.2.2.2, ?_⟩; simp_all; done) | (refine ⟨_, h.2.2.2.2.2.2.2.2, ?_⟩; simp_all; done) | (refine ⟨_, h.2.2.2.2.2.2.2.2.2, ?_⟩; simp_all; done) | (exact ⟨_, h.2, h.1, rfl⟩) | (exact ⟨_, h.2.2, h.1, h.2.1, rfl⟩) | (exact ⟨_, h.2.2.2, h.1, h.2.1, h.2.2.1, rfl⟩) | (exact ⟨_, h.2.2.2.2, h.1, h.2.1, h.2.2.1, h.2.2.2.1, rfl⟩) | (exact ⟨_, h.2.2.2.2.2, h.1, h.2.1, h.2.2.1, h.2.2.2.1, h.2.2.2.2.1, rfl⟩) | (exact ⟨_, h.2.2.2.2.2.2, h.1, h.2.1, h.2.2.1, h.2.2.2.1, h.2.2.2.2.1, h.2.2.2.2.2.1, rfl⟩) | (exact ⟨_, h.2.2.2.2.2.2.2, h.1, h.2.1, h.2.2.1, h.2.2.2.1, h.2.2.2.2.1, h.2.2.2.2.2.1, h.2.2.2.2.2.2.1, rfl⟩) | (exact ⟨_, h.2.2.2.2.2.2.2.2, h.1, h.2.1, h.2.2.1, h.2.2.2.1, h.2.2.2.2.1, h.2.2.2.2.2.1, h.2.2.2.2.2.2.1, h.2.2.2.2.2.2.2.1, rfl⟩) | (exact ⟨_, h.2.2.2.2.2.2.2.2.2, h.1, h.2.1, h.2.2.1, h.2.2.2.1, h.2.2.2.2.1, h.2.2.2.2.2.1, h.2.2.2.2.2.2.1, h.2.2.2.2.2.2.2.1, h.2.2.2.2.2.2.2.2.1, rfl⟩) | (exact ⟨_, h.2.2.2.2.2.2.2.2.2.2, h.1, h.2.1, h.2.2.1, h.2.2.2.1, h.2.2.2.2.1, h.2.2.2.2.2.1, h.2.2.2.2.2.2.1, h.2.2.2.2.2.2.2.1, h.2.2.2.2.2.2.2.2.1, h.2.2.2.2.2.2.2.2.2.1, rfl⟩) | (simp at h; done)

theorem det_opConv {T : TypeId → Option TI} {s d : TypeId} {x : AV} : Det (opConv T s d x) := by
  intro K h
  unfold opConv at h ⊢
  (repeat' split at h) <;> first | exact h.elim | (refine ⟨_, h, ?_⟩; simp_all; done) | (refine ⟨_, h.2, ?_⟩; simp_all; done) | (refine ⟨_, h.2.2, ?_⟩; simp_all; done) | (refine ⟨_, h.2.2.2, ?_⟩; simp_all; done) | (refine ⟨_, h.2.2.2.2, ?_⟩; simp_all; done) | (refine ⟨_, h.2.2.2.2.2, ?_⟩; simp_all; done) | (refine ⟨_, h.2.2.2.2.2.2, ?_⟩; simp_all; done) | (refine ⟨_, h.2.2.2.2.2.2.2, ?_⟩; simp_all; done) | (refine ⟨_, h.2.2.2.2.2.2.2.2, ?_⟩; simp_all; done) | (refine ⟨_, h.2.2.2.2.2.2.2.2.2, ?_⟩; simp_all; done) | (exact ⟨_, h.2, h.1, rfl⟩) | (exact ⟨_, h.2.2, h.1, h.2.1, rfl⟩) | (exact ⟨_, h.2.2.2, h.1, h.2.1, h.2.2.1, rfl⟩) | (exact ⟨_, h.2.2.2.2, h.1, h.2.1, h.2.2.1, h.2.2.2.1, rfl⟩) | (exact ⟨_, h.2.2.2.2.2, h.1, h.2.1, h.2.2.1, h.2.2.2.1, h.2.2.2.2.1, rfl⟩) | (exact ⟨_, h.2.2.2.2.2.2, h.1, h.2.1, h.2.2.1, h.2.2.2.1, h.2.2.2.2.1, h.2.2.2.2.2.1, rfl⟩) | (exact ⟨_, h.2.2.2.2.2.2.2, h.1, h.2.1, h.2.2.1, h.2.2.2.1, h.2.2.2.2.1, h.2.2.2.2.2.1, h.2.2.2.2.2.2.1, rfl⟩) | (exact ⟨_, h.2.2.2.2.2.2.2.2, h.1, h.2.1, h.2.2.1, h.2.2.2.1, h.2.2.2.2.1, h.2.2.2.2.2.1, h.2.2.2.2.2.2.1, h.2.2.2.2.2.2.2.1, rfl⟩) | (exact ⟨_, h.2.2.2.2.2.2.2.2.2, h.1, h.2.1, h.2.2.1, h.2.2.2.1, h.2.2.2.2.1, h.2.2.2.2.2.1, h.2.2.2.2.2.2.1, h.2.2.2.2.2.2.2.1, h.2.2.2.2.2.2.2.2.1, rfl⟩) | (exact ⟨_, h.2.2.2.2.2.2.2.2.2.2, h.1, h.2.1, h.2.2.1, h.2.2.2.1, h.2.2.2.2.1, h.2.2.2.2.2.1, h.2.2.2.2.2.2.1, h.2.2.2.2.2.2.2.1, h.2.2.2.2.2.2.2.2.1, h.2.2.2.2.2.2.2.2.2.1, rfl⟩) | (simp at h; done)

theorem det_opAggEq {P : Program} {op : BinOp} {t : TypeId} {ds ds' : List D} : Det (opAggEq P op t ds ds') := by
  rintro K ⟨h1, h2⟩
  unfold opAggEq
  cases hb : dsEq ds ds' with
  | none => rw [hb] at h2; exact h2.elim
  | some b =>
    rw [hb] at h2
    simp only at h2 ⊢
    split at h2
    · exact ⟨_, h2, h1, rfl⟩
    · exact ⟨_, h2, h1, rfl⟩
    · exact h2.elim

theorem det_opConvB {T : TypeId → Option TI} {m : Nat → Option O} {s d : TypeId} {x : AV} : Det (opConvB T m s d x) := by
  intro K h
  unfold opConvB at h ⊢
  (repeat' split at h) <;> first | exact h.elim | exact det_opConv K h | (refine ⟨_, h, ?_⟩; simp_all; done)

theorem det_opFunc {fn : Fn} {first captured : List AV} : Det (opFunc fn first captured) := by
  intro K h
  unfold opFunc at h ⊢
  (repeat' split at h) <;> first | exact h.elim | (refine ⟨_, h, ?_⟩; simp_all; done) | (refine ⟨_, h.2, ?_⟩; simp_all; done) | (refine ⟨_, h.2.2, ?_⟩; simp_all; done) | (refine ⟨_, h.2.2.2, ?_⟩; simp_all; done) | (refine ⟨_, h.2.2.2.2, ?_⟩; simp_all; done) | (refine ⟨_, h.2.2.2.2.2, ?_⟩; simp_all; done) | (refine ⟨_, h.2.2.2.2.2.2, ?_⟩; simp_all; done) | (refine ⟨_, h.2.2.2.2.2.2.2, ?_⟩; simp_all; done) | (refine ⟨_, h.2.2.2.2.2.2.2.2, ?_⟩; simp_all; done) | (refine ⟨_, h.2.2.2.2.2.2.2.2.2, ?_⟩; simp_all; done) | (exact ⟨_, h.2, h.1, rfl⟩) | (exact ⟨_, h.2.2, h.1, h.2.1, rfl⟩) | (exact ⟨_, h.2.2.2, h.1, h.2.1, h.2.2.1, rfl⟩) | (exact ⟨_, h.2.2.2.2, h.1, h.2.1, h.2.2.1, h.2.2.2.1, rfl⟩) | (exact ⟨_, h.2.2.2.2.2, h.1, h.2.1, h.2.2.1, h.2.2.2.1, h.2.2.2.2.1, rfl⟩) | (exact ⟨_, h.2.2.2.2.2.2, h.1, h.2.1, h.2.2.1, h.2.2.2.1, h.2.2.2.2.1, h.2.2.2.2.2.1, rfl⟩) | (exact ⟨_, h.2.2.2.2.2.2.2, h.1, h.2.1, h.2.2.1, h.2.2.2.1, h.2.2.2.2.1, h.2.2.2.2.2.1, h.2.2.2.2.2.2.1, rfl⟩) | (exact ⟨_, h.2.2.2.2.2.2.2.2, h.1, h.2.1, h.2.2.1, h.2.2.2.1, h.2.2.2.2.1, h.2.2.2.2.2.1, h.2.2.2.2.2.2.1, h.2.2.2.2.2.2.2.1, rfl⟩) | (exact ⟨_, h.2.2.2.2.2.2.2.2.2, h.1, h.2.1, h.2.2.1, h.2.2.2.1, h.2.2.2.2.1, h.2.2.2.2.2.1, h.2.2.2.2.2.2.1, h.2.2.2.2.2.2.2.1, h.2.2.2.2.2.2.2.2.1, rfl⟩) | (exact ⟨_, h.2.2.2.2.2.2.2.2.2.2, h.1, h.2.1, h.2.2.1, h.2.2.2.1, h.2.2.2.2.1, h.2.2.2.2.2.1, h.2.2.2.2.2.2.1, h.2.2.2.2.2.2.2.1, h.2.2.2.2.2.2.2.2.1, h.2.2.2.2.2.2.2.2.2.1, rfl⟩) | (simp at h; done)

theorem det_opMake {T : TypeId → Option TI} {m : Nat → Option O} {ep : Nat} {o : Oper} {t : TypeId} {l c : AV} : Det (opMake T m ep o t l c) := by
  intro K h
  unfold opMake at h ⊢
  (repeat' split at h) <;> first | exact h.elim | (refine ⟨_, h, ?_⟩; simp_all; done) | (refine ⟨_, h.2, ?_⟩; simp_all; done) | (refine ⟨_, h.2.2, ?_⟩; simp_all; done) | (refine ⟨_, h.2.2.2, ?_⟩; simp_all; done) | (refine ⟨_, h.2.2.2.2, ?_⟩; simp_all; done) | (refine ⟨_, h.2.2.2.2.2, ?_⟩; simp_all; done) | (refine ⟨_, h.2.2.2.2.2.2, ?_⟩; simp_all; done) | (refine ⟨_, h.2.2.2.2.2.2.2, ?_⟩; simp_all; done) | (refine ⟨_, h.2.2.2.2.2.2.2.2, ?_⟩; simp_all; done) | (refine ⟨_, h.2.2.2.2.2.2.2.2.2, ?_⟩; simp_all; done) | (exact ⟨_, h.2, h.1, rfl⟩) | (exact ⟨_, h.2.2, h.1, h.2.1, rfl⟩) | (exact ⟨_, h.2.2.2, h.1, h.2.1, h.2.2.1, rfl⟩) | (exact ⟨_, h.2.2.2.2, h.1, h.2.1, h.2.2.1, h.2.2.2.1, rfl⟩) | (exact ⟨_, h.2.2.2.2.2, h.1, h.2.1, h.2.2.1, h.2.2.2.1, h.2.2.2.2.1, rfl⟩) | (exact ⟨_, h.2.2.2.2.2.2, h.1, h.2.1, h.2.2.1, h.2.2.2.1, h.2.2.2.2.1, h.2.2.2.2.2.1, rfl⟩) | (exact ⟨_, h.2.2.2.2.2.2.2, h.1, h.2.1, h.2.2.1, h.2.2.2.1, h.2.2.2.2.1, h.2.2.2.2.2.1, h.2.2.2.2.2.2.1, rfl⟩) | (exact ⟨_, h.2.2.2.2.2.2.2.2, h.1, h.2.1, h.2.2.1, h.2.2.2.1, h.2.2.2.2.1, h.2.2.2.2.2.1, h.2.2.2.2.2.2.1, h.2.2.2.2.2.2.2.1, rfl⟩) | (exact ⟨_, h.2.2.2.2.2.2.2.2.2, h.1, h.2.1, h.2.2.1, h.2.2.2.1, h.2.2.2.2.1, h.2.2.2.2.2.1, h.2.2.2.2.2.2.1, h.2.2.2.2.2.2.2.1, h.2.2.2.2.2.2.2.2.1, rfl⟩) | (exact ⟨_, h.2.2.2.2.2.2.2.2.2.2, h.1, h.2.1, h.2.2.1, h.2.2.2.1, h.2.2.2.2.1, h.2.2.2.2.2.1, h.2.2.2.2.2.2.1, h.2.2.2.2.2.2.2.1, h.2.2.2.2.2.2.2.2.1, h.2.2.2.2.2.2.2.2.2.1, rfl⟩) | (simp at h; done)

theorem det_opFieldAddr {T : TypeId → Option TI} {m : Nat → Option O} {t : TypeId} {x : AV} {f : Nat} : Det (opFieldAddr T m t x f) := by
  intro K h
  unfold opFieldAddr at h ⊢
  (repeat' split at h) <;> first | exact h.elim | (refine ⟨_, h, ?_⟩; simp_all; done) | (refine ⟨_, h.2, ?_⟩; simp_all; done) | (refine ⟨_, h.2.2, ?_⟩; simp_all; done) | (refine ⟨_, h.2.2.2, ?_⟩; simp_all; done) | (refine ⟨_, h.2.2.2.2, ?_⟩; simp_all; done) | (refine ⟨_, h.2.2.2.2.2, ?_⟩; simp_all; done) | (refine ⟨_, h.2.2.2.2.2.2, ?_⟩; simp_all; done) | (refine ⟨_, h.2.2.2.2.2.2.2, ?_⟩; simp_all; done) | (refine ⟨_, h.2.2.2.2.2.2.2.2, ?_⟩; simp_all; done) | (refine ⟨_, h.2.2.2.2.2.2.2.2.2, ?_⟩; simp_all; done) | (exact ⟨_, h.2, h.1, rfl⟩) | (exact ⟨_, h.2.2, h.1, h.2.1, rfl⟩) | (exact ⟨_, h.2.2.2, h.1, h.2.1, h.2.2.1, rfl⟩) | (exact ⟨_, h.2.2.2.2, h.1, h.2.1, h.2.2.1, h.2.2.2.1, rfl⟩) | (exact ⟨_, h.2.2.2.2.2, h.1, h.2.1, h.2.2.1, h.2.2.2.1, h.2.2.2.2.1, rfl⟩) | (exact ⟨_, h.2.2.2.2.2.2, h.1, h.2.1, h.2.2.1, h.2.2.2.1, h.2.2.2.2.1, h.2.2.2.2.2.1, rfl⟩) | (exact ⟨_, h.2.2.2.2.2.2.2, h.1, h.2.1, h.2.2.1, h.2.2.2.1, h.2.2.2.2.1, h.2.2.2.2.2.1, h.2.2.2.2.2.2.1, rfl⟩) | (exact ⟨_, h.2.2.2.2.2.2.2.2, h.1, h.2.1, h.2.2.1, h.2.2.2.1, h.2.2.2.2.1, h.2.2.2.2.2.1, h.2.2.2.2.2.2.1, h.2.2.2.2.2.2.2.1, rfl⟩) | (exact ⟨_, h.2.2.2.2.2.2.2.2.2, h.1, h.2.1, h.2.2.1, h.2.2.2.1, h.2.2.2.2.1, h.2.2.2.2.2.1, h.2.2.2.2.2.2.1, h.2.2.2.2.2.2.2.1, h.2.2.2.2.2.2.2.2.1, rfl⟩) | (exact ⟨_, h.2.2.2.2.2.2.2.2.2.2, h.1, h.2.1, h.2.2.1, h.2.2.2.1, h.2.2.2.2.1, h.2.2.2.2.2.1, h.2.2.2.2.2.2.1, h.2.2.2.2.2.2.2.1, h.2.2.2.2.2.2.2.2.1, h.2.2.2.2.2.2.2.2.2.1, rfl⟩) | (simp at h; done)

theorem det_opField {T : TypeId → Option TI} {t : TypeId} {x : AV} {f : Nat} : Det (opField T t x f) := by
  intro K h
  unfold opField at h ⊢
  (repeat' split at h) <;> first | exact h.elim | (refine ⟨_, h, ?_⟩; simp_all; done) | (refine ⟨_, h.2, ?_⟩; simp_all; done) | (refine ⟨_, h.2.2, ?_⟩; simp_all; done) | (refine ⟨_, h.2.2.2, ?_⟩; simp_all; done) | (refine ⟨_, h.2.2.2.2, ?_⟩; simp_all; done) | (refine ⟨_, h.2.2.2.2.2, ?_⟩; simp_all; done) | (refine ⟨_, h.2.2.2.2.2.2, ?_⟩; simp_all; done) | (refine ⟨_, h.2.2.2.2.2.2.2, ?_⟩; simp_all; done) | (refine ⟨_, h.2.2.2.2.2.2.2.2, ?_⟩; simp_all; done) | (refine ⟨_, h.2.2.2.2.2.2.2.2.2, ?_⟩; simp_all; done) | (exact ⟨_, h.2, h.1, rfl⟩) | (exact ⟨_, h.2.2, h.1, h.2.1, rfl⟩) | (exact ⟨_, h.2.2.2, h.1, h.2.1, h.2.2.1, rfl⟩) | (exact ⟨_, h.2.2.2.2, h.1, h.2.1, h.2.2.1, h.2.2.2.1, rfl⟩) | (exact ⟨_, h.2.2.2.2.2, h.1, h.2.1, h.2.2.1, h.2.2.2.1, h.2.2.2.2.1, rfl⟩) | (exact ⟨_, h.2.2.2.2.2.2, h.1, h.2.1, h.2.2.1, h.2.2.2.1, h.2.2.2.2.1, h.2.2.2.2.2.1, rfl⟩) | (exact ⟨_, h.2.2.2.2.2.2.2, h.1, h.2.1, h.2.2.1, h.2.2.2.1, h.2.2.2.2.1, h.2.2.2.2.2.1, h.2.2.2.2.2.2.1, rfl⟩) | (exact ⟨_, h.2.2.2.2.2.2.2.2, h.1, h.2.1, h.2.2.1, h.2.2.2.1, h.2.2.2.2.1, h.2.2.2.2.2.1, h.2.2.2.2.2.2.1, h.2.2.2.2.2.2.2.1, rfl⟩) | (exact ⟨_, h.2.2.2.2.2.2.2.2.2, h.1, h.2.1, h.2.2.1, h.2.2.2.1, h.2.2.2.2.1, h.2.2.2.2.2.1, h.2.2.2.2.2.2.1, h.2.2.2.2.2.2.2.1, h.2.2.2.2.2.2.2.2.1, rfl⟩) | (exact ⟨_, h.2.2.2.2.2.2.2.2.2.2, h.1, h.2.1, h.2.2.1, h.2.2.2.1, h.2.2.2.2.1, h.2.2.2.2.2.1, h.2.2.2.2.2.2.1, h.2.2.2.2.2.2.2.1, h.2.2.2.2.2.2.2.2.1, h.2.2.2.2.2.2.2.2.2.1, rfl⟩) | (simp at h; done)

theorem det_opIndexAddr {T : TypeId → Option TI} {m : Nat → Option O} {t : TypeId} {x y : AV} : Det (opIndexAddr T m t x y) := by
  intro K h
  unfold opIndexAddr at h ⊢
  (repeat' split at h) <;> first | exact h.elim | (refine ⟨_, h, ?_⟩; simp_all; done) | (refine ⟨_, h.2, ?_⟩; simp_all; done) | (refine ⟨_, h.2.2, ?_⟩; simp_all; done) | (refine ⟨_, h.2.2.2, ?_⟩; simp_all; done) | (refine ⟨_, h.2.2.2.2, ?_⟩; simp_all; done) | (refine ⟨_, h.2.2.2.2.2, ?_⟩; simp_all; done) | (refine ⟨_, h.2.2.2.2.2.2, ?_⟩; simp_all; done) | (refine ⟨_, h.2.2.2.2.2.2.2, ?_⟩; simp_all; done) | (refine ⟨_, h.2.2.2.2.2.2.2.2, ?_⟩; simp_all; done) | (refine ⟨_, h.2.2.2.2.2.2.2.2.2, ?_⟩; simp_all; done) | (exact ⟨_, h.2, h.1, rfl⟩) | (exact ⟨_, h.2.2, h.1, h.2.1, rfl⟩) | (exact ⟨_, h.2.2.2, h.1, h.2.1, h.2.2.1, rfl⟩) | (exact ⟨_, h.2.2.2.2, h.1, h.2.1, h.2.2.1, h.2.2.2.1, rfl⟩) | (exact ⟨_, h.2.2.2.2.2, h.1, h.2.1, h.2.2.1, h.2.2.2.1, h.2.2.2.2.1, rfl⟩) | (exact ⟨_, h.2.2.2.2.2.2, h.1, h.2.1, h.2.2.1, h.2.2.2.1, h.2.2.2.2.1, h.2.2.2.2.2.1, rfl⟩) | (exact ⟨_, h.2.2.2.2.2.2.2, h.1, h.2.1, h.2.2.1, h.2.2.2.1, h.2.2.2.2.1, h.2.2.2.2.2.1, h.2.2.2.2.2.2.1, rfl⟩) | (exact ⟨_, h.2.2.2.2.2.2.2.2, h.1, h.2.1, h.2.2.1, h.2.2.2.1, h.2.2.2.2.1, h.2.2.2.2.2.1, h.2.2.2.2.2.2.1, h.2.2.2.2.2.2.2.1, rfl⟩) | (exact ⟨_, h.2.2.2.2.2.2.2.2.2, h.1, h.2.1, h.2.2.1, h.2.2.2.1, h.2.2.2.2.1, h.2.2.2.2.2.1, h.2.2.2.2.2.2.1, h.2.2.2.2.2.2.2.1, h.2.2.2.2.2.2.2.2.1, rfl⟩) | (exact ⟨_, h.2.2.2.2.2.2.2.2.2.2, h.1, h.2.1, h.2.2.1, h.2.2.2.1, h.2.2.2.2.1, h.2.2.2.2.2.1, h.2.2.2.2.2.2.1, h.2.2.2.2.2.2.2.1, h.2.2.2.2.2.2.2.2.1, h.2.2.2.2.2.2.2.2.2.1, rfl⟩) | (simp at h; done)

theorem det_opIndex {T : TypeId → Option TI} {t : TypeId} {x y : AV} : Det (opIndex T t x y) := by
  intro K h
  unfold opIndex at h ⊢
  (repeat' split at h) <;> first | exact h.elim | (refine ⟨_, h, ?_⟩; simp_all; done) | (refine ⟨_, h.2, ?_⟩; simp_all; done) | (refine ⟨_, h.2.2, ?_⟩; simp_all; done) | (refine ⟨_, h.2.2.2, ?_⟩; simp_all; done) | (refine ⟨_, h.2.2.2.2, ?_⟩; simp_all; done) | (refine ⟨_, h.2.2.2.2.2, ?_⟩; simp_all; done) | (refine ⟨_, h.2.2.2.2.2.2, ?_⟩; simp_all; done) | (refine ⟨_, h.2.2.2.2.2.2.2, ?_⟩; simp_all; done) | (refine ⟨_, h.2.2.2.2.2.2.2.2, ?_⟩; simp_all; done) | (refine ⟨_, h.2.2.2.2.2.2.2.2.2, ?_⟩; simp_all; done) | (exact ⟨_, h.2, h.1, rfl⟩) | (exact ⟨_, h.2.2, h.1, h.2.1, rfl⟩) | (exact ⟨_, h.2.2.2, h.1, h.2.1, h.2.2.1, rfl⟩) | (exact ⟨_, h.2.2.2.2, h.1, h.2.1, h.2.2.1, h.2.2.2.1, rfl⟩) | (exact ⟨_, h.2.2.2.2.2, h.1, h.2.1, h.2.2.1, h.2.2.2.1, h.2.2.2.2.1, rfl⟩) | (exact ⟨_, h.2.2.2.2.2.2, h.1, h.2.1, h.2.2.1, h.2.2.2.1, h.2.2.2.2.1, h.2.2.2.2.2.1, rfl⟩) | (exact ⟨_, h.2.2.2.2.2.2.2, h.1, h.2.1, h.2.2.1, h.2.2.2.1, h.2.2.2.2.1, h.2.2.2.2.2.1, h.2.2.2.2.2.2.1, rfl⟩) | (exact ⟨_, h.2.2.2.2.2.2.2.2, h.1, h.2.1, h.2.2.1, h.2.2.2.1, h.2.2.2.2.1, h.2.2.2.2.2.1, h.2.2.2.2.2.2.1, h.2.2.2.2.2.2.2.1, rfl⟩) | (exact ⟨_, h.2.2.2.2.2.2.2.2.2, h.1, h.2.1, h.2.2.1, h.2.2.2.1, h.2.2.2.2.1, h.2.2.2.2.2.1, h.2.2.2.2.2.2.1, h.2.2.2.2.2.2.2.1, h.2.2.2.2.2.2.2.2.1, rfl⟩) | (exact ⟨_, h.2.2.2.2.2.2.2.2.2.2, h.1, h.2.1, h.2.2.1, h.2.2.2.1, h.2.2.2.2.1, h.2.2.2.2.2.1, h.2.2.2.2.2.2.1, h.2.2.2.2.2.2.2.1, h.2.2.2.2.2.2.2.2.1, h.2.2.2.2.2.2.2.2.2.1, rfl⟩) | (simp at h; done)

theorem det_opExtract {x : AV} {i : Nat} : Det (opExtract x i) := by
  intro K h
  unfold opExtract at h ⊢
  (repeat' split at h) <;> first | exact h.elim | (refine ⟨_, h, ?_⟩; simp_all; done) | (refine ⟨_, h.2, ?_⟩; simp_all; done) | (refine ⟨_, h.2.2, ?_⟩; simp_all; done) | (refine ⟨_, h.2.2.2, ?_⟩; simp_all; done) | (refine ⟨_, h.2.2.2.2, ?_⟩; simp_all; done) | (refine ⟨_, h.2.2.2.2.2, ?_⟩; simp_all; done) | (refine ⟨_, h.2.2.2.2.2.2, ?_⟩; simp_all; done) | (refine ⟨_, h.2.2.2.2.2.2.2, ?_⟩; simp_all; done) | (refine ⟨_, h.2.2.2.2.2.2.2.2, ?_⟩; simp_all; done) | (refine ⟨_, h.2.2.2.2.2.2.2.2.2, ?_⟩; simp_all; done) | (exact ⟨_, h.2, h.1, rfl⟩) | (exact ⟨_, h.2.2, h.1, h.2.1, rfl⟩) | (exact ⟨_, h.2.2.2, h.1, h.2.1, h.2.2.1, rfl⟩) | (exact ⟨_, h.2.2.2.2, h.1, h.2.1, h.2.2.1, h.2.2.2.1, rfl⟩) | (exact ⟨_, h.2.2.2.2.2, h.1, h.2.1, h.2.2.1, h.2.2.2.1, h.2.2.2.2.1, rfl⟩) | (exact ⟨_, h.2.2.2.2.2.2, h.1, h.2.1, h.2.2.1, h.2.2.2.1, h.2.2.2.2.1, h.2.2.2.2.2.1, rfl⟩) | (exact ⟨_, h.2.2.2.2.2.2.2, h.1, h.2.1, h.2.2.1, h.2.2.2.1, h.2.2.2.2.1, h.2.2.2.2.2.1, h.2.2.2.2.2.2.1, rfl⟩) | (exact ⟨_, h.2.2.2.2.2.2.2.2, h.1, h.2.1, h.2.2.1, h.2.2.2.1, h.2.2.2.2.1, h.2.2.2.2.2.1, h.2.2.2.2.2.2.1, h.2.2.2.2.2.2.2.1, rfl⟩) | (exact ⟨_, h.2.2.2.2.2.2.2.2.2, h.1, h.2.1, h.2.2.1, h.2.2.2.1, h.2.2.2.2.1, h.2.2.2.2.2.1, h.2.2.2.2.2.2.1, h.2.2.2.2.2.2.2.1, h.2.2.2.2.2.2.2.2.1, rfl⟩) | (exact ⟨_, h.2.2.2.2.2.2.2.2.2.2, h.1, h.2.1, h.2.2.1, h.2.2.2.1, h.2.2.2.2.1, h.2.2.2.2.2.1, h.2.2.2.2.2.2.1, h.2.2.2.2.2.2.2.1, h.2.2.2.2.2.2.2.2.1, h.2.2.2.2.2.2.2.2.2.1, rfl⟩) | (simp at h; done)

theorem det_opLen {T : TypeId → Option TI} {m : Nat → Option O} {t : TypeId} {x : AV} : Det (opLen T m t x) := by
  intro K h
  unfold opLen at h ⊢
  (repeat' split at h) <;> first | exact h.elim | (refine ⟨_, h, ?_⟩; simp_all; done) | (refine ⟨_, h.2, ?_⟩; simp_all; done) | (refine ⟨_, h.2.2, ?_⟩; simp_all; done) | (refine ⟨_, h.2.2.2, ?_⟩; simp_all; done) | (refine ⟨_, h.2.2.2.2, ?_⟩; simp_all; done) | (refine ⟨_, h.2.2.2.2.2, ?_⟩; simp_all; done) | (refine ⟨_, h.2.2.2.2.2.2, ?_⟩; simp_all; done) | (refine ⟨_, h.2.2.2.2.2.2.2, ?_⟩; simp_all; done) | (refine ⟨_, h.2.2.2.2.2.2.2.2, ?_⟩; simp_all; done) | (refine ⟨_, h.2.2.2.2.2.2.2.2.2, ?_⟩; simp_all; done) | (exact ⟨_, h.2, h.1, rfl⟩) | (exact ⟨_, h.2.2, h.1, h.2.1, rfl⟩) | (exact ⟨_, h.2.2.2, h.1, h.2.1, h.2.2.1, rfl⟩) | (exact ⟨_, h.2.2.2.2, h.1, h.2.1, h.2.2.1, h.2.2.2.1, rfl⟩) | (exact ⟨_, h.2.2.2.2.2, h.1, h.2.1, h.2.2.1, h.2.2.2.1, h.2.2.2.2.1, rfl⟩) | (exact ⟨_, h.2.2.2.2.2.2, h.1, h.2.1, h.2.2.1, h.2.2.2.1, h.2.2.2.2.1, h.2.2.2.2.2.1, rfl⟩) | (exact ⟨_, h.2.2.2.2.2.2.2, h.1, h.2.1, h.2.2.1, h.2.2.2.1, h.2.2.2.2.1, h.2.2.2.2.2.1, h.2.2.2.2.2.2.1, rfl⟩) | (exact ⟨_, h.2.2.2.2.2.2.2.2, h.1, h.2.1, h.2.2.1, h.2.2.2.1, h.2.2.2.2.1, h.2.2.2.2.2.1, h.2.2.2.2.2.2.1, h.2.2.2.2.2.2.2.1, rfl⟩) | (exact ⟨_, h.2.2.2.2.2.2.2.2.2, h.1, h.2.1, h.2.2.1, h.2.2.2.1, h.2.2.2.2.1, h.2.2.2.2.2.1, h.2.2.2.2.2.2.1, h.2.2.2.2.2.2.2.1, h.2.2.2.2.2.2.2.2.1, rfl⟩) | (exact ⟨_, h.2.2.2.2.2.2.2.2.2.2, h.1, h.2.1, h.2.2.1, h.2.2.2.1, h.2.2.2.2.1, h.2.2.2.2.2.1, h.2.2.2.2.2.2.1, h.2.2.2.2.2.2.2.1, h.2.2.2.2.2.2.2.2.1, h.2.2.2.2.2.2.2.2.2.1, rfl⟩) | (simp at h; done)

theorem det_opMinMax {b : Bool} {x y : AV} : Det (opMinMax b x y) := by
  intro K h
  unfold opMinMax at h ⊢
  split at h
  · exact ⟨_, h.2, h.1, rfl⟩
  · exact h.elim

theorem det_opAppend {T : TypeId → Option TI} {m : Nat → Option O} {ep : Nat} {o : Oper} {t : TypeId} {x y : AV} : Det (opAppend T m ep o t x y) := by
  intro K h
  unfold opAppend at h ⊢
  (repeat' split at h) <;> first | exact h.elim | (refine ⟨_, h, ?_⟩; simp_all; done) | (refine ⟨_, h.2, ?_⟩; simp_all; done) | (refine ⟨_, h.2.2, ?_⟩; simp_all; done) | (refine ⟨_, h.2.2.2, ?_⟩; simp_all; done) | (refine ⟨_, h.2.2.2.2, ?_⟩; simp_all; done) | (refine ⟨_, h.2.2.2.2.2, ?_⟩; simp_all; done) | (refine ⟨_, h.2.2.2.2.2.2, ?_⟩; simp_all; done) | (refine ⟨_, h.2.2.2.2.2.2.2, ?_⟩; simp_all; done) | (refine ⟨_, h.2.2.2.2.2.2.2.2, ?_⟩; simp_all; done) | (refine ⟨_, h.2.2.2.2.2.2.2.2.2, ?_⟩; simp_all; done) | (exact ⟨_, h.2, h.1, rfl⟩) | (exact ⟨_, h.2.2, h.1, h.2.1, rfl⟩) | (exact ⟨_, h.2.2.2, h.1, h.2.1, h.2.2.1, rfl⟩) | (exact ⟨_, h.2.2.2.2, h.1, h.2.1, h.2.2.1, h.2.2.2.1, rfl⟩) | (exact ⟨_, h.2.2.2.2.2, h.1, h.2.1, h.2.2.1, h.2.2.2.1, h.2.2.2.2.1, rfl⟩) | (exact ⟨_, h.2.2.2.2.2.2, h.1, h.2.1, h.2.2.1, h.2.2.2.1, h.2.2.2.2.1, h.2.2.2.2.2.1, rfl⟩) | (exact ⟨_, h.2.2.2.2.2.2.2, h.1, h.2.1, h.2.2.1, h.2.2.2.1, h.2.2.2.2.1, h.2.2.2.2.2.1, h.2.2.2.2.2.2.1, rfl⟩) | (exact ⟨_, h.2.2.2.2.2.2.2.2, h.1, h.2.1, h.2.2.1, h.2.2.2.1, h.2.2.2.2.1, h.2.2.2.2.2.1, h.2.2.2.2.2.2.1, h.2.2.2.2.2.2.2.1, rfl⟩) | (exact ⟨_, h.2.2.2.2.2.2.2.2.2, h.1, h.2.1, h.2.2.1, h.2.2.2.1, h.2.2.2.2.1, h.2.2.2.2.2.1, h.2.2.2.2.2.2.1, h.2.2.2.2.2.2.2.1, h.2.2.2.2.2.2.2.2.1, rfl⟩) | (exact ⟨_, h.2.2.2.2.2.2.2.2.2.2, h.1, h.2.1, h.2.2.1, h.2.2.2.1, h.2.2.2.2.1, h.2.2.2.2.2.1, h.2.2.2.2.2.2.1, h.2.2.2.2.2.2.2.1, h.2.2.2.2.2.2.2.2.1, h.2.2.2.2.2.2.2.2.2.1, rfl⟩) | (simp at h; done)

theorem det_opPick {c a b : AV} : Det (opPick c a b) := by
  intro K h
  unfold opPick at h ⊢
  split at h
  · rename_i t
    cases t with
    | true => exact ⟨_, h.1 rfl, fun _ => rfl, fun e => by cases e⟩
    | false => exact ⟨_, h.2 rfl, fun e => (by cases e), fun _ => rfl⟩
  · exact h.elim

theorem det_opCall {P : Program} {m : Nat → Option O} {ep : Nat} {o : Oper} {f : FuncId} {args : List AV} : Det (opCall P m ep o f args) := by
  intro K h
  obtain ⟨md, out, h⟩ := h
  split at h
  · rename_i ins vs fz gs ha
    obtain ⟨h1, h2, h3, h4, h5⟩ := h
    refine ⟨_, h5, md, out, ?_⟩
    rw [ha]
    exact ⟨h1, h2, h3, h4, rfl⟩
  · exact h.elim

theorem det_bnd {x : Option AV} {d : Int} {F : Int → (Eff → Prop) → Prop} (hF : ∀ n, Det (F n)) : Det (fun K' => bnd x d fun n => F n K') := by
  intro K h
  unfold bnd at h ⊢
  split at h
  · exact hF _ K h
  · exact hF _ K h
  · exact h.elim

theorem det_and {c : Prop} {F : (Eff → Prop) → Prop} (hF : Det F) : Det (fun K => c ∧ F K) := fun K h => by
  obtain ⟨e, h1, h2⟩ := hF K h.2
  exact ⟨e, h1, h.1, h2⟩

theorem det_ret {e : Eff} : Det (fun K => K e) := fun _ h => ⟨e, h, rfl⟩

theorem det_false : Det (fun _ => False) := fun _ h => h.elim

theorem det_opSlice {T : TypeId → Option TI} {m : Nat → Option O} {t : TypeId} {x : AV} {lo hi mx : Option AV} : Det (opSlice T m t x lo hi mx) := by
  unfold opSlice
  refine det_and ?_
  intro K h
  split at h
  · simp only
    exact det_bnd (fun l => det_bnd fun r => det_and (det_and (det_and det_ret))) K h
  · simp only
    split at h
    · exact det_and (det_bnd (fun l => det_bnd fun r => det_and (det_and (det_and det_ret)))) K h
    · exact h.elim
  · simp only
    split at h
    · exact det_and (det_bnd (fun l => det_bnd fun r => det_and (det_and (det_and det_ret)))) K h
    · exact h.elim
  · exact h.elim

theorem det_opBuiltin {T : TypeId → Option TI} {m : Nat → Option O} {ep : Nat} {o : Oper} {b : Builtin} {args : List AV} {ts : List TypeId} : Det (opBuiltin T m ep o b args ts) := by
  intro K h
  unfold opBuiltin at h ⊢
  split at h
  · exact det_opLen K h
  · exact det_and det_opAppend K h
  · exact det_opMinMax K h
  · exact det_opMinMax K h
  · exact h.elim

/-- Operations whose effect is one: all but a slice's comparison with nil. -/
def detOk : Op → Bool
  | .binOp _ _ _ (.const (.slice none 0 0)) _ => false
  | _ => true

theorem det_amOp {P : Program} {T : TypeId → Option TI} {ρ : Operand → AV} {m : Nat → Option O} {ep : Nat} {o : Oper} (hdet : detOk o.op = true) : Det (amOp P T ρ m ep o) := by
  intro K h
  unfold amOp at h ⊢
  cases ho : o.op <;> simp only [ho] at h ⊢ <;> first | exact h.elim | skip
  case move x => exact det_opMove K h
  case assign x => exact det_opMove K h
  case pick c a b => exact det_opPick K h
  case alloc t => exact det_opAlloc K h
  case box t x => exact det_opBox K h
  case build t parts => exact det_opBuild K h
  case buildSlice t n parts => exact det_opBuildSlice K h
  case load t x => exact det_opLoad K h
  case store t x y => exact det_opStore K h
  case nilCheck x => exact det_opNil K h
  case binOp op t x y yt =>
    unfold opCmp at h ⊢
    split at h
    · rw [ho] at hdet; cases hdet
    · unfold opCmpV at h ⊢
      split at h
      · exact det_opAggEq K h
      · exact det_bin K h
  case unOp op t x => exact det_opUn K h
  case convert s d x => exact det_opConvB K h
  case makeFunc fn first captured => exact det_opFunc K h
  case makeSlice t x y => exact det_opMake K h
  case slice t x lo hi mx => exact det_opSlice K h
  case fieldAddr t x f => exact det_opFieldAddr K h
  case field t x f => exact det_opField K h
  case indexAddr t x y => exact det_opIndexAddr K h
  case index t x y => exact det_opIndex K h
  case extract x i => exact det_opExtract K h
  case call c =>
    cases hc : c.callee <;> simp only [hc] at h ⊢ <;> first | exact h.elim | skip
    case builtin b => exact det_opBuiltin K h
    case value f =>
      split at h
      · exact det_opCall K h
      · exact h.elim

end Go.Am
