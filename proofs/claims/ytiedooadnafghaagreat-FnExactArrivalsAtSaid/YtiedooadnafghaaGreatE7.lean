/- The walks of the next departures by line, and the law of NextByLine, walked. -/
import Derived.Test.YtiedooadnafghaaGreatE5
namespace Go.Proofs.YtiedooadnafghaaGreat
open Go Go.Am
set_option maxRecDepth 100000
set_option maxHeartbeats 4000000
attribute [local irreducible] amOps amC opCall opIndexAddr opPick retQ opMake opStore amDraw opAppend opLoad opNilCmp opIndex opSlice

def nbC (now best x : Int) : Bool := decide (now ≤ x) && (decide (best < 0) || decide (x < best))
def nbStep (now best x : Int) : Int := if nbC now best x then x else best
def nbAdd (now : Int) (k : Nat) (b : Int) (d : Dep) : Int := if d.trip.line = (k : Int) then nbStep now b (IntKind.i64.wrap (d.time + d.delay)) else b
def nbBest (now : Int) (k : Nat) (ds : List Dep) : Int := ds.foldl (nbAdd now k) (-1)
def nbRow (now : Int) (n : Nat) (ds : List Dep) : List Int := (List.range n).map (fun k => nbBest now k ds)
theorem nbRow_len (now : Int) (n : Nat) (ds : List Dep) : ((nbRow now n ds).map intRow).length = n := by simp [nbRow]
theorem nbRow_at {now : Int} {n k : Nat} (ds : List Dep) (h : k < n) : ((nbRow now n ds).map intRow)[k]? = some (intRow (nbBest now k ds)) := by simp [nbRow, h]
theorem nbRow_nil (now : Int) (ls : List Line) : ls.map (fun _ => intRow (-1)) = (nbRow now ls.length []).map intRow := by
  unfold nbRow nbBest
  simp only [List.foldl_nil, List.map_map]
  apply List.ext_getElem?
  intro i
  simp only [List.getElem?_map]
  by_cases h : i < ls.length
  · simp [h]
  · have e : (List.range ls.length)[i]? = none := List.getElem?_eq_none (by simp; omega)
    simp [List.getElem?_eq_none (Nat.le_of_not_lt h), e]
theorem nbRow_next {now : Int} {n j : Nat} {ds : List Dep} {d : Dep} (h : ds[j]? = some d) {k : Nat} (hk : d.trip.line = (k : Int)) (hn : k < n) :
    (nbRow now n (ds.take (j + 1))).map intRow = ((nbRow now n (ds.take j)).map intRow).set k (intRow (nbStep now (nbBest now k (ds.take j)) (IntKind.i64.wrap (d.time + d.delay)))) := by
  apply List.ext_getElem?
  intro i
  rw [List.getElem?_set]
  by_cases hi : i < n
  · have e : nbBest now i (ds.take (j + 1)) = nbAdd now i (nbBest now i (ds.take j)) d := foldl_next h
    rw [nbRow_at _ hi, e]
    by_cases hik : k = i
    · subst hik
      rw [if_pos rfl, if_pos (by rw [nbRow_len]; exact hn)]
      unfold nbAdd
      rw [if_pos hk]
    · rw [if_neg hik, nbRow_at _ hi]
      unfold nbAdd
      rw [if_neg (by omega)]
  · rw [List.getElem?_eq_none (by rw [nbRow_len]; omega)]
    rw [if_neg (by omega), List.getElem?_eq_none (by rw [nbRow_len]; omega)]

def nbOk (t : Timetable) (ds : List TripDelay) (stop now : Int) : Bool := delaysOk t ds && (inR stop 0 ((t.net.stops.length : Int) - 1) && timeOk now)
def nbR (t : Timetable) (ds : List TripDelay) (stop now : Int) : List Int := if nbOk t ds stop now then nbRow now t.net.lines.length (deps t ds stop) else []
theorem nbR_len (t : Timetable) (hf : t.fit) (ds : List TripDelay) (stop now : Int) : (nbR t ds stop now).length ≤ 1048576 := by
  unfold nbR
  split
  · have := nbRow_len now t.net.lines.length (deps t ds stop)
    rw [List.length_map] at this
    rw [this]
    exact hf.1.2.2.1
  · simp

theorem c29 (t : Timetable) (hf : t.fit) (ds : List TripDelay) (hl : ds.length ≤ 1048576) (stop now : Int) : CallOk Tryz.prog 29 [.imm (.agg t.enc), .imm (.list (ds.map TripDelay.enc)), .imm (.int .i64 stop), .imm (.int .i64 now)] { res := [.imm (.bool (nbOk t ds stop now))] } := by
  refine callOk_of tyOk Tryz.func29 rfl rfl (le_of_ble rfl) (le_of_ble rfl) (mutOk_imm rfl _) ?_
  have hc0 := c51 t hf ds hl
  have hc1 := c52 t.net stop
  have hc2 := c30 now
  unfold nbOk
  repeat' first | refine go_seq ?_ | refine go_region ?_ | refine go_miss rfl rfl rfl ?_ | refine go_undef rfl rfl rfl ?_ | ((first | refine go_op rfl ?_ | refine go_nil ?_ | refine go_hit rfl rfl rfl ?_ | refine go_splitT rfl rfl rfl (fun h => ?_) (fun h => ?_) | refine go_splitF rfl rfl rfl (fun h => ?_) (fun h => ?_) | refine go_pickT rfl ?_ | refine go_pickF rfl ?_ | refine go_pick rfl (fun h => ?_) (fun h => ?_) | refine go_call [] (hc0) rfl rfl rfl rfl ?_ | refine go_call [] (hc1) rfl rfl rfl rfl ?_ | refine go_call [] (hc2) rfl rfl rfl rfl ?_) <;> conv => whnf) | ((first | refine go_loadB ?_ | refine ⟨by kernel_rfl, ?_⟩ | refine go_ret ?_) <;> conv => whnf) | ((first | refine go_skip ?_) <;> conv => whnf) | refine ⟨rfl, ?_⟩ | ((first | refine ⟨trivial, ?_⟩ | refine ⟨le_of_ble rfl, ?_⟩) <;> conv => whnf) | fail
  all_goals
    refine ret_imm rfl rfl rfl rfl ?_ rfl
    simp_all
theorem c19 (t : Timetable) (hf : t.fit) (ds : List TripDelay) (hl : ds.length ≤ 1048576) (stop : Int) : CallOk Tryz.prog 19 [.imm (.agg t.enc), .imm (.list (ds.map TripDelay.enc)), .imm (.int .i64 stop)] { res := [.imm (.bool (delaysOk t ds && inR stop 0 ((t.net.stops.length : Int) - 1)))] } := by
  refine callOk_of tyOk Tryz.func19 rfl rfl (le_of_ble rfl) (le_of_ble rfl) (mutOk_imm rfl _) ?_
  have hc0 := c46 t hf ds hl
  have hsl : ((t.net.stops.map strRow).length : Int) = t.net.stops.length := by rw [List.length_map]
  have hw : IntKind.i64.wrap (((t.net.stops.map strRow).length : Int) - 1) = (t.net.stops.length : Int) - 1 := by rw [hsl]; have := hf.1.1; exact wrap_small (by omega) (by omega)
  have hc1 := c25 stop 0 (IntKind.i64.wrap (((t.net.stops.map strRow).length : Int) - 1))
  repeat' first | refine go_seq ?_ | refine go_region ?_ | refine go_miss rfl rfl rfl ?_ | refine go_undef rfl rfl rfl ?_ | ((first | refine go_op rfl ?_ | refine go_nil ?_ | refine go_hit rfl rfl rfl ?_ | refine go_splitT rfl rfl rfl (fun h => ?_) (fun h => ?_) | refine go_splitF rfl rfl rfl (fun h => ?_) (fun h => ?_) | refine go_pickT rfl ?_ | refine go_pickF rfl ?_ | refine go_pick rfl (fun h => ?_) (fun h => ?_) | refine go_call [] (hc0) rfl rfl rfl rfl ?_ | refine go_call [] (hc1) rfl rfl rfl rfl ?_) <;> conv => whnf) | ((first | refine go_loadB ?_ | refine ⟨by kernel_rfl, ?_⟩ | refine go_ret ?_) <;> conv => whnf) | ((first | refine go_skip ?_) <;> conv => whnf) | refine ⟨rfl, ?_⟩ | ((first | refine ⟨trivial, ?_⟩ | refine ⟨le_of_ble rfl, ?_⟩) <;> conv => whnf) | fail
  all_goals
    refine ret_imm rfl rfl rfl rfl ?_ rfl
    simp_all

theorem deps_at {t : Timetable} (hok : ttOk t = true) {ds : List TripDelay} {stop : Int} {j : Nat} {d : Dep} (h : (deps t ds stop)[j]? = some d) : ∃ k : Nat, d.trip.line = (k : Int) ∧ k < t.net.lines.length := by
  obtain ⟨x, hx, hd⟩ := List.mem_filterMap.1 (List.mem_of_getElem? h)
  obtain ⟨i, hi⟩ := List.getElem?_of_mem hx
  obtain ⟨l, hg⟩ := good_of hok hi
  unfold depOf at hd
  rw [hg.on.ln] at hd
  simp only at hd
  split at hd
  · injection hd with hd
    subst hd
    have := lt_of_at hg.on.ln
    have := hg.on.lo
    exact ⟨x.line.toNat, by simp only; omega, by omega⟩
  · cases hd
theorem deps_len (t : Timetable) (ds : List TripDelay) (stop : Int) : (deps t ds stop).length ≤ t.trips.length := List.length_filterMap_le _ _

def nbFold (t : Timetable) (ds : List TripDelay) (stop now : Int) (k i : Nat) : Int := nbBest now k (depsN t ds stop i)
theorem nbFold_next {t : Timetable} {i : Nat} {x : Trip} (ds : List TripDelay) (stop now : Int) (k : Nat) (h : t.trips[i]? = some x) : nbFold t ds stop now k (i + 1) = match depOf t ds stop x with | some d => nbAdd now k (nbFold t ds stop now k i) d | none => nbFold t ds stop now k i := by
  unfold nbFold nbBest
  rw [depsN_next ds stop h, List.foldl_append]
  cases depOf t ds stop x <;> rfl

end Go.Proofs.YtiedooadnafghaaGreat

