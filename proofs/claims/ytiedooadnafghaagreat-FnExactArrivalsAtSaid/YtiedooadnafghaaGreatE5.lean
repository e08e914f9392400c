/- The walks of the departures from a stop. -/
import Derived.Test.YtiedooadnafghaaGreatT4
import Derived.Test.YtiedooadnafghaaGreatE3
namespace Go.Proofs.YtiedooadnafghaaGreat
open Go Go.Am
set_option maxRecDepth 100000
set_option maxHeartbeats 4000000
attribute [local irreducible] amOps amC opCall opIndexAddr opPick retQ opMake opStore amDraw opAppend opLoad opNilCmp opIndex opSlice

/-- A departure: of a trip, when, how late. -/
structure Dep where
  trip : Trip
  time : Int
  delay : Int
def Dep.enc (v : Dep) : List D := [.int .i64 v.trip.id, .int .i64 v.trip.line, .int .i64 v.trip.start, .int .i64 v.time, .int .i64 v.delay]
theorem dep_gr (xs : List Dep) : ∀ x ∈ xs.map Dep.enc, x.all D.gr = true := by
  intro x hx
  obtain ⟨_, _, rfl⟩ := List.mem_map.1 hx
  rfl
theorem dep_one (xs : List Dep) : (xs.map Dep.enc).all (fun r => r.all D.one) = true := by
  simp only [List.all_map, List.all_eq_true]
  intro _ _
  rfl

def plAt (l : Line) (stop : Int) : Int := idxF (pInt stop) l.stops
def goes (l : Line) (stop : Int) : Bool := decide (0 ≤ plAt l stop) && decide (plAt l stop < (l.stops.length : Int) - 1)
def depOf (t : Timetable) (ds : List TripDelay) (stop : Int) (x : Trip) : Option Dep :=
  match t.net.lines[x.line.toNat]? with
  | some l => if goes l stop then some ⟨x, stopAt x l (plAt l stop).toNat, delOf ds x.id⟩ else none
  | none => none
def depsN (t : Timetable) (ds : List TripDelay) (stop : Int) (i : Nat) : List Dep := (t.trips.take i).filterMap (depOf t ds stop)
def deps (t : Timetable) (ds : List TripDelay) (stop : Int) : List Dep := t.trips.filterMap (depOf t ds stop)
theorem depsN_next {t : Timetable} {i : Nat} {x : Trip} (ds : List TripDelay) (stop : Int) (h : t.trips[i]? = some x) : depsN t ds stop (i + 1) = depsN t ds stop i ++ (match depOf t ds stop x with | some d => [d] | none => []) := by
  unfold depsN
  rw [List.take_add_one, h]
  simp only [Option.toList_some, List.filterMap_append]
  congr 1
  cases hd : depOf t ds stop x <;> simp [hd]
theorem depsN_len (t : Timetable) (ds : List TripDelay) (stop : Int) (i : Nat) : (depsN t ds stop i).length ≤ i := by
  unfold depsN
  exact Nat.le_trans (List.length_filterMap_le _ _) (by rw [List.length_take]; omega)
theorem deps_all {t : Timetable} {i : Nat} (ds : List TripDelay) (stop : Int) (h : t.trips.length ≤ i) : depsN t ds stop i = deps t ds stop := by
  unfold depsN deps
  rw [List.take_of_length_le h]

theorem plAt_lt (l : Line) (stop : Int) : plAt l stop < l.stops.length ∨ plAt l stop = -1 := by
  by_cases h : 0 ≤ plAt l stop
  · obtain ⟨i, x, h1, h2, _⟩ := idxF_spec h
    have := lt_of_at h2
    left
    unfold plAt at *
    omega
  · right
    unfold plAt idxF at *
    split at h
    · omega
    · rename_i hn
      rw [if_neg hn]

end Go.Proofs.YtiedooadnafghaaGreat

