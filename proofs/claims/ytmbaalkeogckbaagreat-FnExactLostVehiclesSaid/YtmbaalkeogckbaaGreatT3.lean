/- The walks of a trip's line and of its times. -/
import Derived.Test.YtmbaalkeogckbaaGreatT1
namespace Go.Proofs.YtmbaalkeogckbaaGreat
open Go Go.Am
set_option maxRecDepth 100000
set_option maxHeartbeats 4000000
attribute [local irreducible] amOps amC opCall opIndexAddr opPick retQ opMake opStore amDraw opAppend opLoad opNilCmp opIndex opSlice

/-- When a trip is at a stop of its line. -/
def stopAt (x : Trip) (l : Line) (k : Nat) : Int := IntKind.i64.wrap (x.start + totW (l.runs.take k))
def stopsT (x : Trip) (l : Line) (n : Nat) : List Int := (List.range n).map (stopAt x l)
theorem stopAt_next {x : Trip} {l : Line} {k : Nat} {v : Int} (h : l.runs[k]? = some v) : IntKind.i64.wrap (stopAt x l k + v) = stopAt x l (k + 1) := by
  unfold stopAt
  rw [tot_take h]
  simp only [IntKind.wrap_i64]
  omega
theorem stopAt_0 {x : Trip} (l : Line) (h : timeOk x.start = true) : stopAt x l 0 = x.start := by
  have := (inR_iff _ _ _).1 h
  unfold stopAt
  rw [List.take_zero, show totW [] = 0 from rfl, wrap_small (by omega) (by omega)]
  omega
theorem stopsT_next (x : Trip) (l : Line) (n : Nat) : (stopsT x l (n + 1)).map intRow = (stopsT x l n).map intRow ++ [intRow (stopAt x l n)] := by
  unfold stopsT
  rw [List.range_succ, List.map_append, List.map_append]
  rfl
theorem stopsT_at {x : Trip} {l : Line} {n i : Nat} (h : i < n) : ((stopsT x l n).map intRow)[i]? = some (intRow (stopAt x l i)) := by simp [stopsT, h]
theorem stopsT_len (x : Trip) (l : Line) (n : Nat) : ((stopsT x l n).map intRow).length = n := by simp [stopsT]

theorem tot_bd {runs : List Int} (hr : ∀ x ∈ runs, 1 ≤ x ∧ x ≤ 60) : ∀ i : Nat, i ≤ 1000 → 0 ≤ totW (runs.take i) ∧ totW (runs.take i) ≤ 60 * i
  | 0, _ => by simp [totW]
  | i + 1, hi => by
    have ih := tot_bd hr i (by omega)
    cases hx : runs[i]? with
    | none =>
      have hl := le_of_at hx
      rw [List.take_of_length_le (by omega)]
      rw [List.take_of_length_le hl] at ih
      omega
    | some v =>
      have hv := hr v (List.mem_of_getElem? hx)
      rw [tot_take hx, wrap_small (by omega) (by omega)]
      omega

theorem runs_bd {k : Nat} {l : Line} (h : lineOk k l = true) : ∀ x ∈ l.runs, 1 ≤ x ∧ x ≤ 60 := by
  unfold lineOk at h
  simp only [Bool.and_eq_true] at h
  intro x hx
  have := List.all_eq_true.1 h.2 x hx
  exact (inR_iff _ _ _).1 this

end Go.Proofs.YtmbaalkeogckbaaGreat

