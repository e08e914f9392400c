/- The text of a network: plain facts. -/
import Derived.Test.YtekilollacmajaaGreatDoorT1
import Derived.Test.YtekilollacmajaaGreatDoorKI
namespace Go.Proofs.YtekilollacmajaaGreatDoor
open Go Go.Am
set_option maxRecDepth 100000

def stpT (n : Network) (s : Int) : List UInt8 := match n.stops[s.toNat]? with | some x => bytes x | none => []
def runT (r : Int) : List UInt8 := numT r.toNat
def midT (l : Line) : Nat → List UInt8
  | 0 => []
  | j + 1 => 32 :: runT (l.runs.getD j 0)
def lineN (n : Network) (l : Line) : Nat → List UInt8
  | 0 => []
  | k + 1 => lineN n l k ++ midT l k ++ (32 :: stpT n (l.stops.getD k 0))
def headT (l : Line) : List UInt8 := [108, 105, 110, 101, 32] ++ bytes l.name
def lineT (n : Network) (l : Line) : List UInt8 := headT l ++ lineN n l l.stops.length ++ [10]
def stopT (s : ByteArray) : List UInt8 := [115, 116, 111, 112, 32] ++ bytes s ++ [10]
def stopsN (n : Network) (i : Nat) : List UInt8 := (n.stops.take i).flatMap stopT
def linesN (n : Network) (i : Nat) : List UInt8 := (n.lines.take i).flatMap (lineT n)
def stopsA (n : Network) : List UInt8 := stopsN n n.stops.length
def netT (n : Network) : List UInt8 := stopsA n ++ linesN n n.lines.length
/-- What the reference has written when k stops of a line are written: the next run already. -/
def runN (l : Line) : Nat → List UInt8
  | 0 => []
  | k + 1 => if k < l.runs.length then 32 :: runT (l.runs.getD k 0) else []

theorem stopsN_next {n : Network} {i : Nat} {s : ByteArray} (h : n.stops[i]? = some s) : stopsN n (i + 1) = stopsN n i ++ stopT s := by
  unfold stopsN
  rw [List.take_add_one, h]
  simp
theorem linesN_next {n : Network} {i : Nat} {l : Line} (h : n.lines[i]? = some l) : linesN n (i + 1) = linesN n i ++ lineT n l := by
  unfold linesN
  rw [List.take_add_one, h]
  simp
theorem stopsN_all {n : Network} {i : Nat} (h : n.stops.length ≤ i) : stopsN n i = stopsA n := by
  unfold stopsA stopsN
  rw [List.take_of_length_le h, List.take_length]
theorem linesN_all {n : Network} {i : Nat} (h : n.lines.length ≤ i) : stopsA n ++ linesN n i = netT n := by
  unfold netT linesN
  rw [List.take_of_length_le h, List.take_length]
theorem getD_at {α : Type} {xs : List α} {i : Nat} {x d : α} (h : xs[i]? = some x) : xs.getD i d = x := by
  rw [List.getD_eq_getElem?_getD, h]; rfl
theorem mid_run {l : Line} {k : Nat} (h : k ≤ l.runs.length) : runN l k = midT l k := by
  cases k with
  | zero => rfl
  | succ k => show (if k < l.runs.length then 32 :: runT (l.runs.getD k 0) else []) = _; rw [if_pos (by omega)]; rfl
theorem run_none {l : Line} {k : Nat} (h : l.runs.length < k) : runN l k = [] := by
  cases k with
  | zero => omega
  | succ k => show (if k < l.runs.length then 32 :: runT (l.runs.getD k 0) else []) = _; rw [if_neg (by omega)]

/-- What a valid network gives its text. -/
structure NFit (n : Network) : Prop where
  st : ∀ s ∈ n.stops, s.size ≤ 8
  sl : n.stops.length ≤ 8
  ll : n.lines.length ≤ 5
  ln : ∀ l ∈ n.lines, l.name.size ≤ 8 ∧ 2 ≤ l.stops.length ∧ l.stops.length ≤ 6 ∧ l.runs.length + 1 = l.stops.length
  sp : ∀ l ∈ n.lines, ∀ (k : Nat) (s : Int), l.stops[k]? = some s → 0 ≤ s ∧ ∃ x, n.stops[s.toNat]? = some x
  rn : ∀ l ∈ n.lines, ∀ r ∈ l.runs, 1 ≤ r ∧ r ≤ 60

theorem name_size {s : ByteArray} (h : nameOk s = true) : s.size ≤ 8 := by
  unfold nameOk inR at h
  simp only [Bool.and_eq_true, decide_eq_true_eq] at h
  have := h.1.1.2
  omega
theorem names_size {xs : List ByteArray} (h : namesOk xs = true) : ∀ s ∈ xs, s.size ≤ 8 := by
  intro s hs
  obtain ⟨j, hj⟩ := List.getElem?_of_mem hs
  have := allI_iff.1 h j s hj
  simp only [Bool.and_eq_true] at this
  exact name_size this.1
theorem nfit {n : Network} (h : netOk n = true) : NFit n := by
  have hl : ∀ l ∈ n.lines, lineOk n.stops.length l = true := fun l hl => line_ok h hl
  unfold netOk at h
  simp only [Bool.and_eq_true] at h
  obtain ⟨⟨⟨⟨h1, h2⟩, h3⟩, h4⟩, h5⟩ := h
  have h1' := (inR_iff _ _ _).1 h1
  have h2' := (inR_iff _ _ _).1 h2
  refine ⟨names_size h3, by omega, by omega, fun l hl' => ?_, fun l hl' k s hk => ?_, fun l hl' r hr => ?_⟩
  · obtain ⟨a, b, c⟩ := line_runs (hl l hl')
    exact ⟨names_size h4 _ (List.mem_map_of_mem hl'), b, c, a⟩
  · have := hl l hl'
    unfold lineOk at this
    simp only [Bool.and_eq_true] at this
    have h6 := allI_iff.1 this.1.2 k s hk
    simp only [Bool.and_eq_true] at h6
    have h7 := (inR_iff _ _ _).1 h6.1
    refine ⟨h7.1, _, List.getElem?_eq_getElem (by omega)⟩
  · have := hl l hl'
    unfold lineOk at this
    simp only [Bool.and_eq_true] at this
    have h6 := List.all_eq_true.1 this.2 r hr
    exact (inR_iff _ _ _).1 h6

theorem runT_len {r : Int} (h : r ≤ 60) : (runT r).length ≤ 2 := by
  unfold runT numT
  exact Lg.num_len 1 r.toNat (by omega)
theorem stpT_len {n : Network} (hf : NFit n) (s : Int) : (stpT n s).length ≤ 8 := by
  unfold stpT
  split
  · rename_i x hx
    rw [bytes_len]
    exact hf.st x (List.mem_of_getElem? hx)
  · simp
theorem midT_len {n : Network} (hf : NFit n) {l : Line} (hl : l ∈ n.lines) (k : Nat) : (midT l k).length ≤ 3 := by
  cases k with
  | zero => simp [midT]
  | succ j =>
    unfold midT
    have : (runT (l.runs.getD j 0)).length ≤ 2 := by
      refine runT_len ?_
      rw [List.getD_eq_getElem?_getD]
      cases hx : l.runs[j]? with
      | none => simp
      | some r => exact (hf.rn l hl r (List.mem_of_getElem? hx)).2
    simp only [List.length_cons]
    omega
theorem lineN_len {n : Network} (hf : NFit n) {l : Line} (hl : l ∈ n.lines) : ∀ k, (lineN n l k).length ≤ 12 * k
  | 0 => by simp [lineN]
  | k + 1 => by
    have h1 := lineN_len hf hl k
    have h2 := midT_len hf hl k
    have h3 := stpT_len hf (l.stops.getD k 0)
    unfold lineN
    simp only [List.length_append, List.length_cons]
    omega
theorem headT_len {n : Network} (hf : NFit n) {l : Line} (hl : l ∈ n.lines) : (headT l).length ≤ 13 := by
  unfold headT
  rw [List.length_append, bytes_len]
  have := (hf.ln l hl).1
  simp only [List.length_cons, List.length_nil]
  omega
theorem flat_len {α : Type} (f : α → List UInt8) (k : Nat) : ∀ xs : List α, (∀ x ∈ xs, (f x).length ≤ k) → (xs.flatMap f).length ≤ k * xs.length
  | [], _ => by simp
  | x :: xs, h => by
    have h1 := flat_len f k xs fun y hy => h y (by simp [hy])
    have h2 := h x (by simp)
    rw [List.flatMap_cons, List.length_append, List.length_cons, Nat.mul_add]
    omega
theorem stopsN_len {n : Network} (hf : NFit n) (i : Nat) : (stopsN n i).length ≤ 112 := by
  have := flat_len stopT 14 (n.stops.take i) fun s hs => by
    unfold stopT
    have := hf.st s (List.mem_of_mem_take hs)
    simp only [List.length_append, bytes_len, List.length_cons, List.length_nil]
    omega
  have h2 : (n.stops.take i).length ≤ 8 := by rw [List.length_take]; have := hf.sl; omega
  unfold stopsN
  omega
theorem linesN_len {n : Network} (hf : NFit n) (i : Nat) : (linesN n i).length ≤ 500 := by
  have := flat_len (lineT n) 86 (n.lines.take i) fun l hl => by
    have hl := List.mem_of_mem_take hl
    unfold lineT
    have h1 := lineN_len hf hl l.stops.length
    have h2 := headT_len hf hl
    have h3 := (hf.ln l hl).2.2.1
    simp only [List.length_append, List.length_cons, List.length_nil]
    omega
  have h2 : (n.lines.take i).length ≤ 5 := by rw [List.length_take]; have := hf.ll; omega
  unfold linesN
  omega
end Go.Proofs.YtekilollacmajaaGreatDoor

