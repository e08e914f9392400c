/- The walks of the arrivals at a stop (seat Z): what they are, and the sort of them. -/
import Derived.Test.YtiedooadnafghaaGreatE14
import Derived.Test.YtiedooadnafghaaGreatLZ
import Derived.Test.YtiedooadnafghaaGreatE5
namespace Go.Proofs.YtiedooadnafghaaGreat
open Go Go.Am Go.Proofs
set_option maxRecDepth 100000
set_option maxHeartbeats 4000000
attribute [local irreducible] amOps amC opCall opIndexAddr opPick retQ opMake opStore amDraw opAppend opLoad opNilCmp opIndex opSlice

def arrAt (x : Trip) (l : Line) (ds : List TripDelay) (stop : Int) : Int := IntKind.i64.wrap (stopAt x l (plAt l stop).toNat + delOf ds x.id)
def arrOf (t : Timetable) (ds : List TripDelay) (stop fr to : Int) (x : Trip) : Option Arr :=
  match t.net.lines[x.line.toNat]? with
  | some l => if decide (0 < plAt l stop) && inR (arrAt x l ds stop) fr to then some ⟨arrAt x l ds stop, x.id⟩ else none
  | none => none
def arrsN (t : Timetable) (ds : List TripDelay) (stop fr to : Int) (i : Nat) : List Arr := (t.trips.take i).filterMap (arrOf t ds stop fr to)
def arrs (t : Timetable) (ds : List TripDelay) (stop fr to : Int) : List Arr := t.trips.filterMap (arrOf t ds stop fr to)
theorem arrsN_next {t : Timetable} {i : Nat} {x : Trip} (ds : List TripDelay) (stop fr to : Int) (h : t.trips[i]? = some x) : arrsN t ds stop fr to (i + 1) = arrsN t ds stop fr to i ++ (match arrOf t ds stop fr to x with | some d => [d] | none => []) := by
  unfold arrsN
  rw [List.take_add_one, h]
  simp only [Option.toList_some, List.filterMap_append]
  congr 1
  cases hd : arrOf t ds stop fr to x <;> simp [hd]
theorem arrsN_len (t : Timetable) (ds : List TripDelay) (stop fr to : Int) (i : Nat) : (arrsN t ds stop fr to i).length ≤ i := by
  unfold arrsN
  exact Nat.le_trans (List.length_filterMap_le _ _) (by rw [List.length_take]; omega)
theorem arrs_all {t : Timetable} {i : Nat} (ds : List TripDelay) (stop fr to : Int) (h : t.trips.length ≤ i) : arrsN t ds stop fr to i = arrs t ds stop fr to := by
  unfold arrsN arrs
  rw [List.take_of_length_le h]

theorem trip_next {t : Timetable} (hok : ttOk t = true) {i : Nat} {x y : Trip} (hx : t.trips[i]? = some x) (hy : t.trips[i + 1]? = some y) : x.id < y.id := by
  have h2 : tripsOk t = true := by unfold ttOk at hok; simp only [Bool.and_eq_true] at hok; exact hok.2
  unfold tripsOk at h2
  simp only [Bool.and_eq_true] at h2
  have h3 := (allI_iff.1 h2.2) _ _ hy
  have hp : prevId t (i + 1) = x.id := by show (match t.trips[i]? with | some y => y.id | none => 0) = x.id; rw [hx]
  unfold tripAt at h3
  rw [hp] at h3
  simp only [Bool.and_eq_true, decide_eq_true_eq] at h3
  exact h3.1
theorem trips_up {t : Timetable} (hok : ttOk t = true) : ∀ (n i : Nat) {x y : Trip}, t.trips[i]? = some x → t.trips[i + 1 + n]? = some y → x.id < y.id
  | 0, i, x, y, hx, hy => trip_next hok hx hy
  | n + 1, i, x, y, hx, hy => by
    have hlt := lt_of_at hy
    obtain ⟨z, hz⟩ : ∃ z, t.trips[i + 1 + n]? = some z := ⟨_, List.getElem?_eq_getElem (by omega)⟩
    have h1 := trips_up hok n i hx hz
    have h2 := trip_next hok hz hy
    omega
theorem trips_inc {t : Timetable} (hok : ttOk t = true) : t.trips.Pairwise fun a b => a.id < b.id := by
  refine List.pairwise_iff_getElem.2 fun i j hi hj hij => ?_
  refine trips_up hok (j - i - 1) i (List.getElem?_eq_getElem hi) ?_
  rw [show i + 1 + (j - i - 1) = j from by omega]
  exact List.getElem?_eq_getElem hj
theorem arrOf_id {t : Timetable} {ds : List TripDelay} {stop fr to : Int} {x : Trip} {a : Arr} (h : arrOf t ds stop fr to x = some a) : a.id = x.id := by
  unfold arrOf at h
  split at h
  · split at h
    · injection h with h
      rw [← h]
    · cases h
  · cases h
theorem arrs_inc {t : Timetable} (hok : ttOk t = true) (ds : List TripDelay) (stop fr to : Int) : (arrs t ds stop fr to).Pairwise fun a b => a.id < b.id := by
  unfold arrs
  refine List.Pairwise.filterMap _ (fun a a' h b hb b' hb' => ?_) (trips_inc hok)
  rw [arrOf_id hb, arrOf_id hb']
  exact h
/-- Sorted by time and number, or put in by time in the order of the numbers: the same. -/
theorem arrs_same {t : Timetable} (hok : ttOk t = true) (ds : List TripDelay) (stop fr to : Int) : sortL arrLt (arrs t ds stop fr to) = sortL atLt (arrs t ds stop fr to) := by
  refine sortL_congr ((arrs_inc hok ds stop fr to).imp fun {a b} h => ?_)
  unfold arrLt atLt
  have h1 : ¬ b.id < a.id := by omega
  simp [h1]

theorem c36 (xs : List Arr) (h : 0 < xs.length) (hl : xs.length ≤ 1048576) : CallOk Tryz.prog 36 [.arr 73 2 (xs.map Arr.enc), .imm (.fn 37 [])]
    { res := [], muts := [.arr 73 2 ((sortL arrLt xs).map Arr.enc)] } := by
  have h := callOk_sortFn arrLays ⟨_, Tryz.func36, rfl, rfl⟩ (k := 2) Tryz.isAgg73 Tryz.sizeOf73 (enc := Arr.enc) (fun _ => rfl) arr_pl (cf := arrC) (g := 37) (by rw [arrLt_eq]; exact arrWeak) (caps := []) c37 rfl 73 xs h (by omega)
  rw [arrLt_eq, pdqL_eq arrWeak arr_anti] at h
  exact h
end Go.Proofs.YtiedooadnafghaaGreat

