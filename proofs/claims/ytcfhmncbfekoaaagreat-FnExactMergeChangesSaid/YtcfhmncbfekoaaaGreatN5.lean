/- The walks of the laws' own helpers over delays of trips. MADE BY PROGRAM (nest.py). -/
import Derived.Test.YtcfhmncbfekoaaaGreatN4
namespace Go.Proofs.YtcfhmncbfekoaaaGreat
open Go Go.Am
set_option maxRecDepth 100000
set_option maxHeartbeats 4000000
attribute [local irreducible] amOps amC opCall opIndexAddr opPick retQ opMake opStore amDraw opAppend opLoad opNilCmp opIndex opSlice

structure TripDelay where
  id : Int
  minutes : Int

def TripDelay.enc (v : TripDelay) : List D := [.int .i64 v.id, .int .i64 v.minutes]
def TripDelay.ok (v : TripDelay) : Prop := i64 v.id ∧ i64 v.minutes
def TripDelay.fit (v : TripDelay) : Prop := True

theorem tripDelay_gr (xs : List TripDelay) : ∀ x ∈ xs.map TripDelay.enc, x.all D.gr = true := by
  intro x hx
  obtain ⟨_, _, rfl⟩ := List.mem_map.1 hx
  rfl
theorem tripDelay_one (xs : List TripDelay) : (xs.map TripDelay.enc).all (fun r => r.all D.one) = true := by
  simp only [List.all_map, List.all_eq_true]
  intro _ _
  rfl
theorem tripDelay_view (xs : List TripDelay) : ((xs.map TripDelay.enc).drop 0).take (xs.map TripDelay.enc).length = xs.map TripDelay.enc := by rw [List.drop_zero, List.take_length]

def szTripDelayS (n : Int) (xs : List TripDelay) : Int := less n xs.length
theorem szTripDelayS_sz : Sz szTripDelayS := less_sz.on List.length

end Go.Proofs.YtcfhmncbfekoaaaGreat

