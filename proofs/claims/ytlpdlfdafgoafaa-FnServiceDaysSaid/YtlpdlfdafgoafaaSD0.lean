/- Calendars: plain facts, no program in sight: the days of a fitted calendar, and the next run. -/
import Derived.Test.YtlpdlfdafgoafaaAmC
namespace Go.SD

/-- The n days from a on. -/
def rngN (a : Int) : Nat → List Int
  | 0 => []
  | n + 1 => a :: rngN (a + 1) n

theorem rngN_len : ∀ (n : Nat) (a : Int), (rngN a n).length = n
  | 0, _ => rfl
  | n + 1, a => by simp [rngN, rngN_len n]
theorem rngN_mem : ∀ (n : Nat) (a x : Int), x ∈ rngN a n ↔ a ≤ x ∧ x < a + n
  | 0, a, x => by simp only [rngN, List.not_mem_nil, false_iff]; omega
  | n + 1, a, x => by simp only [rngN, List.mem_cons, rngN_mem n]; omega
theorem rngN_snoc : ∀ (n : Nat) (a : Int), rngN a (n + 1) = rngN a n ++ [a + n]
  | 0, a => by simp [rngN]
  | n + 1, a => by
    have := rngN_snoc n (a + 1)
    rw [rngN, this, rngN]
    simp only [List.cons_append, List.cons.injEq, true_and, List.append_cancel_left_eq, and_true]
    omega

/-- Strictly ascending, above 'last', not above 'to'. -/
def ascI : Int → List Int → Int → Bool
  | _, [], _ => true
  | last, d :: r, to => decide (last < d) && (decide (d ≤ to) && ascI d r to)

theorem ascI_mem : ∀ {xs : List Int} {last to : Int}, ascI last xs to = true → ∀ x ∈ xs, last < x ∧ x ≤ to
  | [], _, _, _, x, hx => by cases hx
  | d :: r, last, to, h, x, hx => by
    simp only [ascI, Bool.and_eq_true, decide_eq_true_eq] at h
    rcases List.mem_cons.1 hx with rfl | hx
    · exact ⟨h.1, h.2.1⟩
    · have := ascI_mem h.2.2 x hx
      exact ⟨by omega, this.2⟩

theorem filter_asc : ∀ (n : Nat) (a : Int) (xs : List Int), ascI (a - 1) xs (a + n - 1) = true → (rngN a n).filter (fun d => xs.contains d) = xs
  | 0, a, [], _ => rfl
  | 0, a, d :: r, h => by
    have := ascI_mem h d (List.mem_cons_self ..)
    omega
  | n + 1, a, [], _ => by simp
  | n + 1, a, d :: r, h => by
    have hm := ascI_mem h
    simp only [ascI, Bool.and_eq_true, decide_eq_true_eq] at h
    by_cases hd : d = a
    · subst hd
      have h2 : ascI (d + 1 - 1) r (d + 1 + n - 1) = true := by
        rw [show d + 1 - 1 = d from by omega, show d + 1 + (n : Int) - 1 = d + ((n + 1 : Nat) : Int) - 1 from by omega]
        exact h.2.2
      have ih := filter_asc n (d + 1) r h2
      rw [rngN, List.filter_cons, if_pos (by simp)]
      congr 1
      rw [← ih]
      refine List.filter_congr fun x hx => ?_
      have := ((rngN_mem n (d + 1) x).1 hx).1
      rw [ih]
      simp only [List.contains_cons]
      rw [show (x == d) = false from by simp; omega, Bool.false_or]
    · have h2 : ascI (a + 1 - 1) (d :: r) (a + 1 + n - 1) = true := by
        rw [show a + 1 - 1 = a from by omega, show a + 1 + (n : Int) - 1 = a + ((n + 1 : Nat) : Int) - 1 from by omega]
        simp only [ascI, Bool.and_eq_true, decide_eq_true_eq]
        exact ⟨by omega, h.2.1, h.2.2⟩
      have ih := filter_asc n (a + 1) (d :: r) h2
      have hn : (d :: r).contains a = false := by
        rw [Bool.eq_false_iff]
        intro hc
        have := ascI_mem h2 a (by simpa using hc)
        omega
      rw [rngN, List.filter_cons, if_neg (by rw [hn]; simp), ih]

structure Cal where
  fro : Int
  to : Int
  wd : Int
  added : List Int
  removed : List Int

/-- Whether a day runs by its weekday. -/
def byW (s d : Int) : Bool := s.toNat.testBit (d % 7).toNat

/-- Whether a day between the bounds runs. -/
def run (c : Cal) (d : Int) : Bool := byW c.wd d && !c.removed.contains d || c.added.contains d

/-- How many days the bounds hold. -/
def span (c : Cal) : Nat := (c.to + 1 - c.fro).toNat

def daysOf (c : Cal) : List Int := (rngN c.fro (span c)).filter (run c)

/-- The calendar that is fitted to days, whatever its weekdays. -/
def fitC (fro to wd : Int) (days : List Int) : Cal :=
  { fro := fro, to := to, wd := wd
    added := (rngN fro (to + 1 - fro).toNat).filter fun d => days.contains d && !byW wd d
    removed := (rngN fro (to + 1 - fro).toNat).filter fun d => !days.contains d && byW wd d }

theorem fit_run {fro to wd : Int} {days : List Int} {d : Int} (hd : d ∈ rngN fro (to + 1 - fro).toNat) : run (fitC fro to wd days) d = days.contains d := by
  have ha : (fitC fro to wd days).added.contains d = (days.contains d && !byW wd d) := by
    rw [Bool.eq_iff_iff, List.contains_iff_mem]
    simp only [fitC, List.mem_filter]
    exact ⟨fun h => h.2, fun h => ⟨hd, h⟩⟩
  have hr : (fitC fro to wd days).removed.contains d = (!days.contains d && byW wd d) := by
    rw [Bool.eq_iff_iff, List.contains_iff_mem]
    simp only [fitC, List.mem_filter]
    exact ⟨fun h => h.2, fun h => ⟨hd, h⟩⟩
  unfold run
  rw [ha, hr]
  show (byW wd d && _ || _) = _
  cases byW wd d <;> cases days.contains d <;> rfl

/-- A fitted calendar runs on the given days and on no others. -/
theorem fit_days {fro to wd : Int} {days : List Int} (hle : fro ≤ to) (h : ascI (fro - 1) days to = true) : daysOf (fitC fro to wd days) = days := by
  have hn : ((to + 1 - fro).toNat : Int) = to + 1 - fro := by omega
  unfold daysOf span
  rw [show (rngN (fitC fro to wd days).fro ((fitC fro to wd days).to + 1 - (fitC fro to wd days).fro).toNat) = rngN fro (to + 1 - fro).toNat from rfl]
  rw [List.filter_congr (fun d hd => fit_run hd)]
  refine filter_asc _ _ _ ?_
  rw [hn, show fro + (to + 1 - fro) - 1 = to from by omega]
  exact h

/-- The first day of n that runs. -/
def next (c : Cal) (a : Int) (n : Nat) : Option Int := (rngN a n).find? (run c)

theorem next_some {c : Cal} {a x : Int} {n : Nat} (h : next c a n = some x) : run c x = true ∧ a ≤ x ∧ x < a + n := by
  unfold next at h
  have h1 := List.find?_some h
  have h2 := List.mem_of_find?_eq_some h
  exact ⟨by simpa using h1, (rngN_mem _ _ _).1 h2⟩

theorem next_self {c : Cal} {x : Int} {n : Nat} (h : run c x = true) : next c x (n + 1) = some x := by
  unfold next rngN
  rw [List.find?_cons_of_pos h]

end Go.SD

