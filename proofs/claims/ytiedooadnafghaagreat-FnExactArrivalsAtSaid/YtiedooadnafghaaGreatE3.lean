/- The walks of predicted arrivals, and the law of PredictArrivals, walked. -/
import Derived.Test.YtiedooadnafghaaGreatT4
import Derived.Test.YtiedooadnafghaaGreatE1
namespace Go.Proofs.YtiedooadnafghaaGreat
open Go Go.Am
set_option maxRecDepth 100000
set_option maxHeartbeats 4000000
attribute [local irreducible] amOps amC opCall opIndexAddr opPick retQ opMake opStore amDraw opAppend opLoad opNilCmp opIndex opSlice

theorem idxF_spec {α : Type} {p : α → Bool} {xs : List α} (h : 0 ≤ idxF p xs) : ∃ (i : Nat) (x : α), idxF p xs = i ∧ xs[i]? = some x ∧ p x = true := by
  unfold idxF at h ⊢
  split at h
  · rename_i ha
    rw [if_pos ha]
    have hlt : xs.findIdx p < xs.length := List.findIdx_lt_length_of_exists (List.any_eq_true.1 ha)
    exact ⟨_, _, rfl, List.getElem?_eq_getElem hlt, List.findIdx_getElem⟩
  · omega

/-- What is so of a trip of a valid timetable and its line. -/
structure Good (t : Timetable) (i : Nat) (x : Trip) (l : Line) : Prop where
  on : OnLine t i x l
  st : timeOk x.start = true
  rs : l.runs.length + 1 = l.stops.length
  r5 : l.runs.length ≤ 5
  bd : ∀ k : Nat, k ≤ 1000 → 0 ≤ totW (l.runs.take k) ∧ totW (l.runs.take k) ≤ 60 * k
theorem good_of {t : Timetable} (h : ttOk t = true) {i : Nat} {x : Trip} (hx : t.trips[i]? = some x) : ∃ l, Good t i x l := by
  have h1 := tripAt_of h hx
  unfold tripAtS at h1
  simp only [Bool.and_eq_true] at h1
  obtain ⟨h0, l, h2, h3, _, _⟩ := line_at h1.2.1
  have hn : netOk t.net = true := by unfold ttOk at h; simp only [Bool.and_eq_true] at h; exact h.1
  unfold netOk at hn
  simp only [Bool.and_eq_true] at hn
  have hl := List.all_eq_true.1 hn.2 l (List.mem_of_getElem? h3)
  have hl' := hl
  unfold lineOk at hl'
  simp only [Bool.and_eq_true, decide_eq_true_eq] at hl'
  have hs := (inR_iff _ _ _).1 hl'.1.1.1
  exact ⟨l, ⟨⟨hx, h3, h0⟩, h1.2.2.1, by omega, by omega, fun k hk => tot_bd (runs_bd hl) k hk⟩⟩
theorem Good.at {t : Timetable} {i : Nat} {x : Trip} {l : Line} (h : Good t i x l) (k : Nat) (hk : k ≤ 1000) : stopAt x l k = x.start + totW (l.runs.take k) := by
  have h1 := (inR_iff _ _ _).1 h.st
  have h2 := h.bd k hk
  unfold stopAt
  exact wrap_small (by omega) (by omega)

def mx0 (d : Int) : Int := if d > 0 then d else 0
def paP (l : Line) (done : Int) (k : Nat) : Bool := decide (done < totW (l.runs.take k))
def paV (x : Trip) (l : Line) (d : Int) (k : Nat) : Int := IntKind.i64.wrap (stopAt x l k + mx0 d)
def paOut (x : Trip) (l : Line) (d done : Int) (n : Nat) : List Int := ((List.range n).filter (paP l done)).map (paV x l d)
theorem paOut_next (x : Trip) (l : Line) (d done : Int) (n : Nat) : paOut x l d done (n + 1) = if paP l done n = true then paOut x l d done n ++ [paV x l d n] else paOut x l d done n := by
  unfold paOut
  rw [List.range_succ, List.filter_append, List.map_append]
  by_cases h : paP l done n = true <;> simp [h]
theorem paOut_len (x : Trip) (l : Line) (d done : Int) (n : Nat) : (paOut x l d done n).length ≤ n := by
  unfold paOut
  rw [List.length_map]
  exact Nat.le_trans (List.length_filter_le _ _) (by simp)

structure Match where
  vehicle : Int
  id : Int
  delay : Int
def Match.enc (v : Match) : List D := [.int .i64 v.vehicle, .int .i64 v.id, .int .i64 v.delay]
def Match.ok (v : Match) : Prop := i64 v.vehicle ∧ i64 v.id ∧ i64 v.delay

def paPre (t : Timetable) (m : Match) : Bool := ttOk t && (inR m.vehicle 1 99 && (inR m.delay (-1799) 1799 && hasTrip t m.id))
def paFind (t : Timetable) (m : Match) : Option (Trip × Line) :=
  if paPre t m then (match t.trips[(idxF (pId m.id) t.trips).toNat]? with | some x => (match t.net.lines[x.line.toNat]? with | some l => some (x, l) | none => none) | none => none) else none
def paOk (t : Timetable) (m : Match) (done : Int) : Bool := match paFind t m with | some y => inR done 0 (totW y.2.runs) | none => false
def paR (t : Timetable) (m : Match) (done : Int) : List Int := if paOk t m done then (match paFind t m with | some y => paOut y.1 y.2 m.delay done (y.2.runs.length + 1) | none => []) else []
theorem paR_small (t : Timetable) (m : Match) (done : Int) : (paR t m done).length ≤ 6 := by
  unfold paR
  split
  · split
    · rename_i y hy
      have h1 := paOut_len y.1 y.2 m.delay done (y.2.runs.length + 1)
      have h2 : y.2.runs.length ≤ 5 := by
        unfold paFind at hy
        split at hy
        · rename_i hp
          unfold paPre at hp
          simp only [Bool.and_eq_true] at hp
          split at hy
          · rename_i x hx
            obtain ⟨l, hg⟩ := good_of hp.1 hx
            rw [hg.on.ln] at hy
            injection hy with hy
            rw [← hy]
            exact hg.r5
          · cases hy
        · cases hy
      omega
    · simp
  · simp

end Go.Proofs.YtiedooadnafghaaGreat

