/- The walks of the laws' own helpers over reports. MADE BY PROGRAM (nest.py). -/
import Derived.Test.YtiedooadnafghaaGreatN4
namespace Go.Proofs.YtiedooadnafghaaGreat
open Go Go.Am
set_option maxRecDepth 100000
set_option maxHeartbeats 4000000
attribute [local irreducible] amOps amC opCall opIndexAddr opPick retQ opMake opStore amDraw opAppend opLoad opNilCmp opIndex opSlice

structure Report where
  vehicle : Int
  time : Int
  line : Int
  done : Int

def Report.enc (v : Report) : List D := [.int .i64 v.vehicle, .int .i64 v.time, .int .i64 v.line, .int .i64 v.done]
def Report.ok (v : Report) : Prop := i64 v.vehicle ∧ i64 v.time ∧ i64 v.line ∧ i64 v.done
def Report.fit (v : Report) : Prop := True

theorem report_gr (xs : List Report) : ∀ x ∈ xs.map Report.enc, x.all D.gr = true := by
  intro x hx
  obtain ⟨_, _, rfl⟩ := List.mem_map.1 hx
  rfl
theorem report_one (xs : List Report) : (xs.map Report.enc).all (fun r => r.all D.one) = true := by
  simp only [List.all_map, List.all_eq_true]
  intro _ _
  rfl
theorem report_view (xs : List Report) : ((xs.map Report.enc).drop 0).take (xs.map Report.enc).length = xs.map Report.enc := by rw [List.drop_zero, List.take_length]

def szReportS (n : Int) (xs : List Report) : Int := less n xs.length
theorem szReportS_sz : Sz szReportS := less_sz.on List.length

end Go.Proofs.YtiedooadnafghaaGreat

