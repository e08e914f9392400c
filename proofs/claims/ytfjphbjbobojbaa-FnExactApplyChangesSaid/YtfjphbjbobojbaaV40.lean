/- Changes applied: facts of both sides. -/
import Derived.Test.YtfjphbjbobojbaaV3
namespace Go.Proofs.Ytfjphbjbobojbaa
open Go Go.Am
set_option maxRecDepth 100000
set_option maxHeartbeats 8000000
attribute [local irreducible] amOps amC opCall opIndexAddr opPick retQ opMake opStore amDraw opAppend opLoad opNilCmp opIndex opSlice

def ckT (t : Timetable) : Timetable := if ttOk t then t else ttNone

theorem tt_12 {t : Timetable} (h : ttOk t = true) : t.trips.length ≤ 12 := by
  unfold ttOk tripsOk at h
  simp only [Bool.and_eq_true, decide_eq_true_eq] at h
  exact h.2.1

theorem fold_next {cs : List Change} {c : Change} {i : Nat} (h : cs[i]? = some c) : cs.drop i = c :: cs.drop (i + 1) := by
  have h1 := List.getElem?_eq_some_iff.1 h
  obtain ⟨hlt, hx⟩ := h1
  rw [List.drop_eq_getElem_cons hlt, hx]

theorem foldC_low {c : Change} {cs : List Change} {out : List Trip} {last : Option Int} (hl : tooLow last c = true) : foldC (c :: cs) out last = none := by
  show (if tooLow last c then none else _) = none
  rw [hl]; rfl
theorem foldC_none {c : Change} {cs : List Change} {out : List Trip} {last : Option Int} (hs : stepC out c = none) : foldC (c :: cs) out last = none := by
  show (if tooLow last c then none else match stepC out c with | none => none | some out' => foldC cs out' (some c.trip.id)) = none
  rw [hs]
  split <;> rfl
theorem foldC_some {c : Change} {cs : List Change} {out out' : List Trip} {last : Option Int} (hl : tooLow last c = false) (hs : stepC out c = some out') : foldC (c :: cs) out last = foldC cs out' (some c.trip.id) := by
  show (if tooLow last c then none else match stepC out c with | none => none | some out' => foldC cs out' (some c.trip.id)) = _
  rw [hs, hl]
  rfl
theorem place_at {xs : List Trip} {x : Trip} (h : 0 ≤ placeT xs x) : ∃ k : Nat, k < xs.length ∧ xs[k]? = some x ∧ placeT xs x = k := by
  unfold placeT idxF at h ⊢
  split at h
  · rename_i ha
    rw [if_pos ha]
    have hlt : xs.findIdx (fun y => x.beq y) < xs.length := List.findIdx_lt_length_of_exists (by simpa using List.any_eq_true.1 ha)
    refine ⟨_, hlt, ?_, rfl⟩
    have := List.findIdx_getElem (w := hlt)
    rw [List.getElem?_eq_getElem hlt]
    exact congrArg some (Trip.beq_iff.1 this).symm
  · omega

end Go.Proofs.Ytfjphbjbobojbaa

