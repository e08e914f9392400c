/- Words and walks that all laws use: bounds, budgets. -/
import Derived.Test.YteoiohkdhdpkoaaTy
import Derived.Test.YteoiohkdhdpkoaaAmC
namespace Go.Proofs.Yteoiohkdhdpkoaa
open Go Go.Am
set_option maxRecDepth 100000
set_option maxHeartbeats 4000000
attribute [local irreducible] amOps amC opCall opIndexAddr opPick retQ opMake opStore amDraw opAppend opLoad opNilCmp opIndex opSlice

def inR (x a b : Int) : Bool := decide (a ≤ x) && decide (x ≤ b)
def i64 (x : Int) : Prop := -9223372036854775808 ≤ x ∧ x ≤ 9223372036854775807
theorem wrap_small {n : Int} (h1 : -9223372036854775808 ≤ n) (h2 : n ≤ 9223372036854775807) : IntKind.i64.wrap n = n := by rw [IntKind.wrap_i64]; omega
theorem inR_iff (x a b : Int) : inR x a b = true ↔ a ≤ x ∧ x ≤ b := by simp [inR]

/-- What is left of a budget. -/
def less (n : Int) (k : Nat) : Int := if n < 0 then -1 else if n - k < 0 then -1 else n - k
/-- A budget's step: what is spent for a datum. -/
structure Sz {α : Type} (f : Int → α → Int) : Prop where
  neg : ∀ n v, n < 0 → f n v = -1
  lo : ∀ n v, -1 ≤ f n v
  le : ∀ n v, 0 ≤ n → f n v ≤ n
theorem less_sz : Sz less := by
  refine ⟨fun n v h => ?_, fun n v => ?_, fun n v h => ?_⟩
  · unfold less; rw [if_pos h]
  · unfold less; split <;> (try split) <;> omega
  · unfold less; split <;> (try split) <;> omega
theorem less_pos {n : Int} {k : Nat} (h : 0 ≤ less n k) : 0 ≤ n ∧ (k : Int) ≤ n ∧ less n k = n - k := by
  unfold less at *
  split at h
  · omega
  · rename_i h1
    split at h
    · omega
    · rename_i h2
      rw [if_neg h1, if_neg h2]
      exact ⟨by omega, by omega, rfl⟩
theorem less_eq {n : Int} {k : Nat} (h : 0 ≤ n) : less n k = if n - k < 0 then -1 else n - k := by unfold less; rw [if_neg (by omega)]
theorem Sz.pos {α : Type} {f : Int → α → Int} (hf : Sz f) {n : Int} {v : α} (h : 0 ≤ f n v) : 0 ≤ n := by
  rcases Int.lt_or_le n 0 with h' | h'
  · rw [hf.neg n v h'] at h; omega
  · exact h'
theorem Sz.comp {α : Type} {f : Int → α → Int} {g : Int → α → Int} (hf : Sz f) (hg : Sz g) : Sz (fun n (v : α) => g (f n v) v) :=
  ⟨fun n v h => by show g (f n v) v = -1; rw [hf.neg n v h]; exact hg.neg _ _ (by omega), fun n v => hg.lo _ _, fun n v h => by
    show g (f n v) v ≤ n
    rcases Int.lt_or_le (f n v) 0 with h' | h'
    · rw [hg.neg _ _ h']; omega
    · have := hg.le (f n v) v h'
      have := hf.le n v h
      omega⟩
theorem Sz.on {α β : Type} {f : Int → β → Int} (hf : Sz f) (p : α → β) : Sz (fun n (v : α) => f n (p v)) := ⟨fun n _ h => hf.neg n _ h, fun n _ => hf.lo n _, fun n _ h => hf.le n _ h⟩

def szAll {α : Type} (f : Int → α → Int) (n : Int) (xs : List α) : Int := xs.foldl f n
def szList {α : Type} (f : Int → α → Int) (n : Int) (xs : List α) : Int := szAll f (less n xs.length) xs
theorem szAll_neg {α : Type} {f : Int → α → Int} (hf : Sz f) : ∀ (xs : List α), szAll f (-1) xs = -1
  | [] => rfl
  | x :: xs => by show szAll f (f (-1) x) xs = -1; rw [hf.neg _ _ (by omega)]; exact szAll_neg hf xs
theorem szAll_lo {α : Type} {f : Int → α → Int} (hf : Sz f) : ∀ (xs : List α) (n : Int), -1 ≤ n → -1 ≤ szAll f n xs
  | [], _, h => h
  | x :: xs, n, _ => szAll_lo hf xs (f n x) (hf.lo _ _)
theorem szAll_le {α : Type} {f : Int → α → Int} (hf : Sz f) : ∀ (xs : List α) (n : Int), -1 ≤ n → szAll f n xs ≤ n
  | [], _, _ => Int.le_refl _
  | x :: xs, n, h => by
    show szAll f (f n x) xs ≤ n
    have h1 := szAll_le hf xs (f n x) (hf.lo _ _)
    rcases Int.lt_or_le n 0 with h' | h'
    · rw [hf.neg n x h'] at h1 ⊢; omega
    · have := hf.le n x h'; omega
theorem szList_sz {α : Type} {f : Int → α → Int} (hf : Sz f) : Sz (szList f) := by
  refine ⟨fun n v h => ?_, fun n v => szAll_lo hf v _ (less_sz.lo _ _), fun n v h => ?_⟩
  · unfold szList; rw [less_sz.neg _ _ h]; exact szAll_neg hf v
  · have h1 := szAll_le hf v (less n v.length) (less_sz.lo _ _)
    have h2 := less_sz.le n v.length h
    unfold szList; omega
theorem szAll_pos {α : Type} {f : Int → α → Int} (hf : Sz f) : ∀ (xs : List α) (n : Int), 0 ≤ szAll f n xs → ∀ x ∈ xs, ∃ m, m ≤ n ∧ 0 ≤ f m x
  | [], _, _, x, hx => by cases hx
  | y :: xs, n, h, x, hx => by
    have h' : 0 ≤ szAll f (f n y) xs := h
    have hy : 0 ≤ f n y := by
      rcases Int.lt_or_le (f n y) 0 with h1 | h1
      · have : f n y = -1 := by have := hf.lo n y; omega
        rw [this, szAll_neg hf] at h'; omega
      · exact h1
    rcases List.mem_cons.1 hx with rfl | hx
    · exact ⟨n, Int.le_refl _, hy⟩
    · obtain ⟨m, h1, h2⟩ := szAll_pos hf xs (f n y) h' x hx
      have := hf.le n y (hf.pos hy)
      exact ⟨m, by omega, h2⟩
theorem szList_pos {α : Type} {f : Int → α → Int} (hf : Sz f) {n : Int} {xs : List α} (h : 0 ≤ szList f n xs) : (xs.length : Int) ≤ n ∧ 0 ≤ n ∧ ∀ x ∈ xs, ∃ m, m ≤ n ∧ 0 ≤ f m x := by
  have h0 : 0 ≤ less n xs.length := by
    rcases Int.lt_or_le (less n xs.length) 0 with h1 | h1
    · have : less n xs.length = -1 := by have := less_sz.lo n xs.length; omega
      unfold szList at h; rw [this, szAll_neg hf] at h; omega
    · exact h1
  obtain ⟨h1, h2, h3⟩ := less_pos h0
  refine ⟨h2, h1, fun x hx => ?_⟩
  obtain ⟨m, h4, h5⟩ := szAll_pos hf xs _ h x hx
  exact ⟨m, by omega, h5⟩
theorem szAll_take {α : Type} {f : Int → α → Int} {n : Int} {xs : List α} {i : Nat} {x : α} (hx : xs[i]? = some x) : szAll f n (xs.take (i + 1)) = f (szAll f n (xs.take i)) x := by
  unfold szAll
  rw [List.take_add_one, hx]
  simp [List.foldl_append]
theorem szAll_end {α : Type} {f : Int → α → Int} {n : Int} {xs : List α} {i : Nat} (h : xs.length ≤ i) : szAll f n (xs.take i) = szAll f n xs := by rw [List.take_of_length_le h]
theorem szAll_stop {α : Type} {f : Int → α → Int} (hf : Sz f) {n : Int} {xs : List α} {i : Nat} (h : szAll f n (xs.take i) = -1) : szAll f n xs = -1 := by
  have : szAll f n xs = szAll f (szAll f n (xs.take i)) (xs.drop i) := by
    unfold szAll
    rw [← List.foldl_append, List.take_append_drop]
  rw [this, h]
  exact szAll_neg hf _

theorem c29 (x a b : Int) : CallOk Try.prog 29 [.imm (.int .i64 x), .imm (.int .i64 a), .imm (.int .i64 b)] { res := [.imm (.bool (inR x a b))] } := by
  refine callOk_of tyOk Try.func29 rfl rfl (le_of_ble rfl) (le_of_ble rfl) (mutOk_imm rfl _) ?_
  repeat' first | refine go_seq ?_ | refine go_region ?_ | refine go_miss rfl rfl rfl ?_ | refine go_undef rfl rfl rfl ?_ | ((first | refine go_op rfl ?_ | refine go_nil ?_ | refine go_hit rfl rfl rfl ?_ | refine go_splitT rfl rfl rfl (fun h => ?_) (fun h => ?_) | refine go_splitF rfl rfl rfl (fun h => ?_) (fun h => ?_) | refine go_pickT rfl ?_ | refine go_pickF rfl ?_ | refine go_pick rfl (fun h => ?_) (fun h => ?_)) <;> conv => whnf) | ((first | refine ⟨by kernel_rfl, ?_⟩ | refine go_ret ?_) <;> conv => whnf) | ((first | refine go_skip ?_) <;> conv => whnf) | refine ⟨rfl, ?_⟩ | ((first | refine ⟨trivial, ?_⟩ | refine ⟨le_of_ble rfl, ?_⟩) <;> conv => whnf) | fail
  all_goals refine ret_imm rfl rfl rfl rfl ?_ rfl
  all_goals first | (simp_all [inR]; done) | (simp_all [inR]; omega)

theorem c23 (x a b : Int) : CallOk Try.prog 23 [.imm (.int .i64 x), .imm (.int .i64 a), .imm (.int .i64 b)] { res := [.imm (.bool (inR x a b))] } := by
  refine callOk_of tyOk Try.func23 rfl rfl (le_of_ble rfl) (le_of_ble rfl) (mutOk_imm rfl _) ?_
  repeat' first | refine go_seq ?_ | refine go_region ?_ | refine go_miss rfl rfl rfl ?_ | refine go_undef rfl rfl rfl ?_ | ((first | refine go_op rfl ?_ | refine go_nil ?_ | refine go_hit rfl rfl rfl ?_ | refine go_splitT rfl rfl rfl (fun h => ?_) (fun h => ?_) | refine go_splitF rfl rfl rfl (fun h => ?_) (fun h => ?_) | refine go_pickT rfl ?_ | refine go_pickF rfl ?_ | refine go_pick rfl (fun h => ?_) (fun h => ?_)) <;> conv => whnf) | ((first | refine ⟨by kernel_rfl, ?_⟩ | refine go_ret ?_) <;> conv => whnf) | ((first | refine go_skip ?_) <;> conv => whnf) | refine ⟨rfl, ?_⟩ | ((first | refine ⟨trivial, ?_⟩ | refine ⟨le_of_ble rfl, ?_⟩) <;> conv => whnf) | fail
  all_goals refine ret_imm rfl rfl rfl rfl ?_ rfl
  all_goals first | (simp_all [inR]; done) | (simp_all [inR]; omega)
end Go.Proofs.Yteoiohkdhdpkoaa

