/- The quantile of the delays: what both programs compute. -/
import Derived.Test.YtnjojepeilgikaaV12
namespace Go.Proofs.Ytnjojepeilgikaa
open Go Go.Am
set_option maxRecDepth 100000
set_option maxHeartbeats 4000000

def cntLe (ds : List Int) (d : Int) : Nat := (ds.filter fun x => decide (x ≤ d)).length
def srt (ds : List Int) : List Int := ds.mergeSort fun x y => decide (x ≤ y)

theorem srt_perm (ds : List Int) : (srt ds).Perm ds := List.mergeSort_perm _ _
theorem srt_le (ds : List Int) : (srt ds).Pairwise (fun a b => a ≤ b) := by
  have h := List.pairwise_mergeSort (le := fun x y : Int => decide (x ≤ y)) (fun a b c h1 h2 => by simp only [decide_eq_true_eq] at *; omega) (fun a b => by simp only [Bool.or_eq_true, decide_eq_true_eq]; omega) ds
  exact h.imp (fun h => by simpa using h)
theorem srt_len (ds : List Int) : (srt ds).length = ds.length := List.length_mergeSort _

theorem cnt_perm {a b : List Int} (h : a.Perm b) (d : Int) : cntLe a d = cntLe b d := (h.filter _).length_eq

theorem cnt_cons (a : Int) (r : List Int) (d : Int) : cntLe (a :: r) d = (if a ≤ d then 1 else 0) + cntLe r d := by
  unfold cntLe
  rw [List.filter_cons]
  by_cases h : a ≤ d
  · simp [h]; omega
  · simp [h]

theorem cnt_ge : ∀ {s : List Int}, s.Pairwise (fun a b => a ≤ b) → ∀ {i : Nat} {x : Int}, s[i]? = some x → i + 1 ≤ cntLe s x
  | [], _, i, x, hx => by simp at hx
  | a :: r, hs, i, x, hx => by
    rw [cnt_cons]
    cases i with
    | zero => simp at hx; subst hx; simp
    | succ i =>
      have hx' : r[i]? = some x := by simpa using hx
      have h1 := cnt_ge (List.pairwise_cons.1 hs).2 hx'
      have h2 := (List.pairwise_cons.1 hs).1 x (List.mem_of_getElem? hx')
      rw [if_pos h2]; omega

theorem cnt_zero_of : ∀ {s : List Int} {d : Int}, (∀ y ∈ s, d < y) → cntLe s d = 0
  | [], _, _ => rfl
  | a :: r, d, h => by
    rw [cnt_cons, cnt_zero_of fun y hy => h y (by simp [hy]), if_neg (by have := h a (by simp); omega)]

theorem cnt_lt : ∀ {s : List Int}, s.Pairwise (fun a b => a ≤ b) → ∀ {i : Nat} {x : Int}, s[i]? = some x → ∀ {d : Int}, d < x → cntLe s d ≤ i
  | [], _, i, x, hx, _, _ => by simp at hx
  | a :: r, hs, i, x, hx, d, hd => by
    cases i with
    | zero =>
      simp at hx; subst hx
      rw [cnt_zero_of]
      · omega
      · intro y hy
        rcases List.mem_cons.1 hy with rfl | hy
        · exact hd
        · have := (List.pairwise_cons.1 hs).1 y hy; omega
    | succ i =>
      have hx' : r[i]? = some x := by simpa using hx
      have h1 := cnt_lt (List.pairwise_cons.1 hs).2 hx' hd
      rw [cnt_cons]
      split <;> omega

def least (a b : Int) : Int := if a < b then a else b

def bestAt (num den L : Int) (ds : List Int) : Nat → Int
  | 0 => 600
  | k + 1 => match ds[k]? with
    | some d => if num * L ≤ (cntLe ds d : Int) * den then least (bestAt num den L ds k) d else bestAt num den L ds k
    | none => bestAt num den L ds k

theorem best_down (num den L : Int) (ds : List Int) (k : Nat) : bestAt num den L ds (k + 1) ≤ bestAt num den L ds k := by
  simp only [bestAt]
  split
  · split
    · unfold least; split <;> omega
    · omega
  · omega

theorem best_mono (num den L : Int) (ds : List Int) {i j : Nat} (h : i ≤ j) : bestAt num den L ds j ≤ bestAt num den L ds i := by
  induction j with
  | zero => have : i = 0 := by omega
            subst this; omega
  | succ j ih =>
    by_cases e : i = j + 1
    · subst e; omega
    · have := ih (by omega); have := best_down num den L ds j; omega

theorem best_eq {num den L : Int} {ds : List Int} (hd : 0 < den) (h600 : ∀ d ∈ ds, d ≤ 600) {k : Nat} {x : Int} (hx : (srt ds)[k]? = some x) (h1 : num * L ≤ ((k : Int) + 1) * den) (h2 : k = 0 ∨ (k : Int) * den < num * L) :
    bestAt num den L ds ds.length = x := by
  have hxm : x ∈ ds := (srt_perm ds).mem_iff.1 (List.mem_of_getElem? hx)
  have hge : ∀ i, x ≤ bestAt num den L ds i := by
    intro i
    induction i with
    | zero => exact h600 x hxm
    | succ i ih =>
      simp only [bestAt]
      split
      · rename_i d hdi
        split
        · rename_i hq
          have hdx : x ≤ d := by
            rcases Int.lt_or_le d x with hlt | hle
            · exfalso
              have hc := cnt_lt (srt_le ds) hx hlt
              rw [cnt_perm (srt_perm ds)] at hc
              rcases h2 with rfl | h2
              · have hdm : d ∈ ds := List.mem_of_getElem? hdi
                have hpos : 0 < cntLe ds d := by
                  unfold cntLe
                  exact List.length_pos_of_mem (List.mem_filter.2 ⟨hdm, by simp⟩)
                omega
              · have : (cntLe ds d : Int) * den ≤ (k : Int) * den := Int.mul_le_mul_of_nonneg_right (by omega) (by omega)
                omega
            · exact hle
          unfold least; split <;> omega
        · exact ih
      · exact ih
  have hle : bestAt num den L ds ds.length ≤ x := by
    obtain ⟨j, hj⟩ := List.getElem?_of_mem hxm
    have hjl := (List.getElem?_eq_some_iff.1 hj).1
    have hc := cnt_ge (srt_le ds) hx
    rw [cnt_perm (srt_perm ds)] at hc
    have hq : num * L ≤ (cntLe ds x : Int) * den := by
      have : ((k : Int) + 1) * den ≤ (cntLe ds x : Int) * den := Int.mul_le_mul_of_nonneg_right (by omega) (by omega)
      omega
    have hstep : bestAt num den L ds (j + 1) ≤ x := by
      simp only [bestAt, hj]
      rw [if_pos hq]
      unfold least; split <;> omega
    have := best_mono num den L ds (show j + 1 ≤ ds.length from hjl)
    omega
  have := hge ds.length
  omega

end Go.Proofs.Ytnjojepeilgikaa

