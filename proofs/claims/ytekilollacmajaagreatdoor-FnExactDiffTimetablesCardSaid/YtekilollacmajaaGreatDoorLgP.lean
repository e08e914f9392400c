/- Logs as plain data: what a record's line is, how a line is read, how a text is read as a log. -/
import Derived.Lib.ItoaNum
import Derived.Lib.Bytealg
namespace Go.Lg
open Go

def pre (c : UInt8) : List UInt8 → List UInt8
  | [] => []
  | x :: l => if x = c then [] else x :: pre c l
def post (c : UInt8) : List UInt8 → List UInt8
  | [] => []
  | x :: l => if x = c then l else post c l

theorem pre_app {c : UInt8} {b : List UInt8} : ∀ {a : List UInt8}, c ∉ a → pre c (a ++ c :: b) = a
  | [], _ => by simp [pre]
  | x :: a, h => by
    have h1 : x ≠ c := fun e => h (by simp [e])
    have h2 : c ∉ a := fun e => h (by simp [e])
    rw [List.cons_append, pre, if_neg h1, pre_app h2]
theorem post_app {c : UInt8} {b : List UInt8} : ∀ {a : List UInt8}, c ∉ a → post c (a ++ c :: b) = b
  | [], _ => by simp [post]
  | x :: a, h => by
    have h1 : x ≠ c := fun e => h (by simp [e])
    have h2 : c ∉ a := fun e => h (by simp [e])
    rw [List.cons_append, post, if_neg h1, post_app h2]
theorem pre_no {c : UInt8} : ∀ {a : List UInt8}, c ∉ a → pre c a = a
  | [], _ => rfl
  | x :: a, h => by
    have h1 : x ≠ c := fun e => h (by simp [e])
    have h2 : c ∉ a := fun e => h (by simp [e])
    rw [pre, if_neg h1, pre_no h2]
theorem post_no {c : UInt8} : ∀ {a : List UInt8}, c ∉ a → post c a = []
  | [], _ => rfl
  | x :: a, h => by
    have h1 : x ≠ c := fun e => h (by simp [e])
    have h2 : c ∉ a := fun e => h (by simp [e])
    rw [post, if_neg h1, post_no h2]
theorem split_at {c : UInt8} : ∀ {a : List UInt8}, c ∈ a → a = pre c a ++ c :: post c a
  | [], h => by cases h
  | x :: a, h => by
    by_cases h1 : x = c
    · rw [pre, if_pos h1, post, if_pos h1, h1]; rfl
    · have h2 : c ∈ a := by
        rcases List.mem_cons.1 h with e | e
        · exact absurd e.symm h1
        · exact e
      rw [pre, if_neg h1, post, if_neg h1]
      exact congrArg (x :: ·) (split_at h2)
theorem not_in_pre {c : UInt8} : ∀ {a : List UInt8}, c ∉ pre c a
  | [] => by simp [pre]
  | x :: a => by
    by_cases h1 : x = c
    · rw [pre, if_pos h1]; simp
    · rw [pre, if_neg h1]
      intro h
      rcases List.mem_cons.1 h with e | e
      · exact h1 e.symm
      · exact not_in_pre e
theorem len_split {c : UInt8} {a : List UInt8} (h : c ∈ a) : a.length = (pre c a).length + 1 + (post c a).length := by
  have := congrArg List.length (split_at h)
  rw [List.length_append, List.length_cons] at this
  omega
theorem pre_len {c : UInt8} (a : List UInt8) : (pre c a).length ≤ a.length := by
  by_cases h : c ∈ a
  · have := len_split h; omega
  · rw [pre_no h]; exact Nat.le_refl _
theorem pre_take {c : UInt8} (a : List UInt8) : a.take (pre c a).length = pre c a := by
  by_cases h : c ∈ a
  · conv => lhs; rw [split_at h]
    rw [pre_app not_in_pre, List.take_left']
    rfl
  · rw [pre_no h, List.take_length]
theorem post_drop {c : UInt8} (a : List UInt8) : a.drop ((pre c a).length + 1) = post c a := by
  by_cases h : c ∈ a
  · conv => lhs; rw [split_at h]
    rw [pre_app not_in_pre, List.drop_append, List.drop_eq_nil_of_le (by omega), Nat.add_sub_cancel_left]
    rfl
  · rw [pre_no h, post_no h, List.drop_eq_nil_of_le (by omega)]

theorem index_eq (c : UInt8) : ∀ a : List UInt8, Lib.indexByte a c = if c ∈ a then ((pre c a).length : Int) else -1
  | [] => by simp [Lib.indexByte]
  | x :: a => by
    rw [Lib.indexByte, index_eq c a]
    by_cases h1 : x = c
    · subst h1; simp [pre]
    · have h1' : (x == c) = false := by simpa using h1
      rw [h1', pre, if_neg h1]
      by_cases h2 : c ∈ a
      · rw [if_pos h2, if_pos (List.mem_cons_of_mem _ h2)]
        have h3 : (((pre c a).length : Int) == -1) = false := by
          rw [beq_eq_false_iff_ne]; omega
        rw [h3]
        simp
      · have h3 : c ∉ x :: a := fun e => by
          rcases List.mem_cons.1 e with e | e
          · exact h1 e.symm
          · exact h2 e
        rw [if_neg h2, if_neg h3]
        simp

/-- A command and its reply. -/
structure Rec where
  cmd : List UInt8
  reply : List UInt8

def pr (b : UInt8) : Bool := decide (32 ≤ b.toNat) && decide (b.toNat ≤ 126) && decide (b.toNat ≠ 35)
def good (e : Rec) : Bool := decide (1 ≤ e.cmd.length) && decide (e.cmd.length ≤ 160) && e.cmd.all pr && !decide ((64 : UInt8) ∈ e.cmd) && decide (e.reply.length ≤ 200) && e.reply.all pr

def num (n : Nat) : List UInt8 := Lib.decDigits n
def step (h : Nat) (b : UInt8) : Nat := (41 * h + b.toNat + 1) % 999979
def sum (l : List UInt8) : Nat := l.foldl step 7

def headOf (k : Nat) (e : Rec) : List UInt8 := num k ++ [32] ++ e.cmd ++ [64] ++ e.reply
def lineOf (k : Nat) (e : Rec) : List UInt8 := headOf k e ++ [35] ++ num (sum (headOf k e))

theorem num_eq (n : Nat) : num n = if n < 10 then [UInt8.ofNat (48 + n)] else num (n / 10) ++ [UInt8.ofNat (48 + n % 10)] := by
  unfold num
  rw [Lib.decDigits]
  split <;> rfl

theorem num_digit (n : Nat) : ∀ b ∈ num n, 48 ≤ b.toNat ∧ b.toNat ≤ 57 := by
  induction n using Nat.strongRecOn with
  | ind n ih =>
    intro b hb
    rw [num_eq] at hb
    split at hb
    · rename_i h
      simp only [List.mem_singleton] at hb
      subst hb
      rw [UInt8.toNat_ofNat']
      omega
    · rename_i h
      rcases List.mem_append.1 hb with hb | hb
      · exact ih (n / 10) (by omega) b hb
      · simp only [List.mem_singleton] at hb
        subst hb
        rw [UInt8.toNat_ofNat']
        omega

theorem num_len : ∀ (d n : Nat), n < 10 ^ (d + 1) → (num n).length ≤ d + 1
  | 0, n, h => by
    rw [num_eq, if_pos (by simpa using h)]
    simp
  | d + 1, n, h => by
    rw [num_eq]
    split
    · simp
    · rw [List.length_append]
      have := num_len d (n / 10) (by rw [Nat.pow_succ] at h; omega)
      simp
      omega

theorem fold_lt : ∀ (l : List UInt8) (h : Nat), h < 999979 → l.foldl step h < 999979
  | [], _, h => h
  | b :: l, h, _ => fold_lt l _ (Nat.mod_lt _ (by omega))
theorem sum_lt (l : List UInt8) : sum l < 999979 := fold_lt l 7 (by omega)

theorem good_iff (e : Rec) : good e = true ↔ 1 ≤ e.cmd.length ∧ e.cmd.length ≤ 160 ∧ (∀ b ∈ e.cmd, pr b = true) ∧ (64 : UInt8) ∉ e.cmd ∧ e.reply.length ≤ 200 ∧ ∀ b ∈ e.reply, pr b = true := by
  simp [good, and_assoc]

theorem no35 {l : List UInt8} (h : ∀ b ∈ l, pr b = true) : (35 : UInt8) ∉ l := fun hm => by
  have := h _ hm
  revert this
  decide
theorem no35_num (k : Nat) : (35 : UInt8) ∉ num k := fun hm => by
  have := (num_digit k _ hm).1
  revert this
  decide
theorem no32_num (k : Nat) : (32 : UInt8) ∉ num k := fun hm => by
  have := (num_digit k _ hm).1
  revert this
  decide
theorem no10_num (k : Nat) : (10 : UInt8) ∉ num k := fun hm => by
  have := (num_digit k _ hm).1
  revert this
  decide

theorem head_no35 {k : Nat} {e : Rec} (hg : good e = true) : (35 : UInt8) ∉ headOf k e := by
  obtain ⟨_, _, h3, _, _, h6⟩ := (good_iff e).1 hg
  unfold headOf
  simp only [List.mem_append, List.mem_singleton, not_or]
  exact ⟨⟨⟨⟨no35_num k, by decide⟩, no35 h3⟩, by decide⟩, no35 h6⟩

/-- The record that the program reads from a line. -/
def eOf (line : List UInt8) : Rec := ⟨pre 64 (post 32 (pre 35 line)), post 64 (post 32 (pre 35 line))⟩

theorem pre35_line {k : Nat} {e : Rec} (hg : good e = true) : pre 35 (lineOf k e) = headOf k e := by
  unfold lineOf
  rw [List.append_assoc]
  exact pre_app (head_no35 hg)

theorem head_cons (k : Nat) (e : Rec) : headOf k e = num k ++ 32 :: (e.cmd ++ 64 :: e.reply) := by
  unfold headOf
  simp

theorem eOf_line {k : Nat} {e : Rec} (hg : good e = true) : eOf (lineOf k e) = e := by
  obtain ⟨_, _, _, h4, _, _⟩ := (good_iff e).1 hg
  unfold eOf
  rw [pre35_line hg, head_cons, post_app (no32_num k), pre_app h4, post_app h4]

/-- What the specification reads from a line: the record, and whether it is one. -/
def sGuard (k : Nat) (line : List UInt8) : Prop := (num k ++ [32]).length ≤ (pre 35 line).length ∧ (pre 35 line).take (num k ++ [32]).length = num k ++ [32]
instance (k : Nat) (line : List UInt8) : Decidable (sGuard k line) := inferInstanceAs (Decidable (_ ∧ _))
def sRest (k : Nat) (line : List UInt8) : List UInt8 := (pre 35 line).drop (num k ++ [32]).length
def sRec (k : Nat) (line : List UInt8) : Rec := ⟨pre 64 (sRest k line), post 64 (sRest k line)⟩
def sOk (k : Nat) (line : List UInt8) : Bool := decide (sGuard k line) && decide ((64 : UInt8) ∈ sRest k line) && good (sRec k line) && decide (lineOf k (sRec k line) = line)

def iOk (k : Nat) (line : List UInt8) : Bool := good (eOf line) && decide (lineOf k (eOf line) = line)

theorem spec_line {k : Nat} {e : Rec} (hg : good e = true) : sGuard k (lineOf k e) ∧ (64 : UInt8) ∈ sRest k (lineOf k e) ∧ sRec k (lineOf k e) = e := by
  obtain ⟨_, _, _, h4, _, _⟩ := (good_iff e).1 hg
  have hh : pre 35 (lineOf k e) = (num k ++ [32]) ++ (e.cmd ++ 64 :: e.reply) := by rw [pre35_line hg, head_cons]; simp
  have hr : sRest k (lineOf k e) = e.cmd ++ 64 :: e.reply := by
    unfold sRest
    rw [hh, List.drop_left' rfl]
  refine ⟨⟨by rw [hh, List.length_append (as := num k ++ [32])]; omega, by rw [hh, List.take_left' rfl]⟩, by rw [hr]; simp, ?_⟩
  unfold sRec
  rw [hr, pre_app h4, post_app h4]

theorem ok_eq (k : Nat) (line : List UInt8) : sOk k line = iOk k line := by
  rw [Bool.eq_iff_iff]
  unfold sOk iOk
  simp only [Bool.and_eq_true, decide_eq_true_eq]
  constructor
  · rintro ⟨⟨⟨_, _⟩, h3⟩, h4⟩
    have := eOf_line (k := k) h3
    rw [h4] at this
    rw [this]
    exact ⟨h3, h4⟩
  · rintro ⟨h3, h4⟩
    obtain ⟨p1, p2, p3⟩ := spec_line (k := k) h3
    rw [h4] at p1 p2 p3
    rw [p3]
    exact ⟨⟨⟨p1, p2⟩, h3⟩, h4⟩
theorem rec_eq {k : Nat} {line : List UInt8} (h : iOk k line = true) : sRec k line = eOf line := by
  unfold iOk at h
  simp only [Bool.and_eq_true, decide_eq_true_eq] at h
  obtain ⟨h3, h4⟩ := h
  obtain ⟨_, _, p3⟩ := spec_line (k := k) h3
  rw [h4] at p3
  exact p3

theorem line_len {k : Nat} {e : Rec} (hg : good e = true) (hk : k < 60) : (lineOf k e).length ≤ 371 := by
  obtain ⟨_, h2, _, _, h5, _⟩ := (good_iff e).1 hg
  have h6 := num_len 1 k (by omega)
  have h7 := num_len 5 (sum (headOf k e)) (by have := sum_lt (headOf k e); omega)
  unfold lineOf
  rw [List.length_append, List.length_append]
  unfold headOf at *
  simp only [List.length_append, List.length_cons, List.length_nil] at *
  omega

/-- The record with which a text begins, and how long its encoding is. -/
def dec (k : Nat) (s : List UInt8) : Option (Rec × Nat) :=
  if (10 : UInt8) ∈ s ∧ k < 60 ∧ iOk k (pre 10 s) = true then some (eOf (pre 10 s), (pre 10 s).length + 1) else none

theorem dec_some {k : Nat} {s : List UInt8} {x : Rec × Nat} (h : dec k s = some x) :
    (10 : UInt8) ∈ s ∧ k < 60 ∧ iOk k (pre 10 s) = true ∧ x = (eOf (pre 10 s), (pre 10 s).length + 1) := by
  unfold dec at h
  split at h
  · rename_i hc
    injection h with h
    exact ⟨hc.1, hc.2.1, hc.2.2, h.symm⟩
  · cases h

theorem dec_len {k : Nat} {s : List UInt8} {x : Rec × Nat} (h : dec k s = some x) : 1 ≤ x.2 ∧ x.2 ≤ s.length ∧ x.2 ≤ 372 := by
  obtain ⟨h1, h2, h3, rfl⟩ := dec_some h
  have := len_split h1
  unfold iOk at h3
  simp only [Bool.and_eq_true, decide_eq_true_eq] at h3
  have h4 := line_len h3.1 h2
  rw [h3.2] at h4
  refine ⟨by simp, ?_, ?_⟩ <;> simp only <;> omega

theorem dec_app {k : Nat} {a : List UInt8} {x : Rec × Nat} (b : List UInt8) (h : dec k a = some x) : dec k (a ++ b) = some x := by
  obtain ⟨h1, h2, h3, rfl⟩ := dec_some h
  have hp : pre 10 (a ++ b) = pre 10 a := by
    conv => lhs; rw [split_at h1, List.append_assoc, List.cons_append]
    exact pre_app not_in_pre
  unfold dec
  rw [hp, if_pos ⟨List.mem_append_left _ h1, h2, h3⟩]

theorem dec_left {k : Nat} {a b : List UInt8} {x : Rec × Nat} (h : dec k (a ++ b) = some x) (hn : x.2 ≤ a.length) : dec k a = some x := by
  obtain ⟨h1, h2, h3, rfl⟩ := dec_some h
  simp only at hn
  by_cases ha : (10 : UInt8) ∈ a
  · have hp : pre 10 (a ++ b) = pre 10 a := by
      conv => lhs; rw [split_at ha, List.append_assoc, List.cons_append]
      exact pre_app not_in_pre
    unfold dec
    rw [hp] at h3 ⊢
    rw [if_pos ⟨ha, h2, h3⟩]
  · exfalso
    have hb : (10 : UInt8) ∈ b := by
      rcases List.mem_append.1 h1 with h | h
      · exact absurd h ha
      · exact h
    have hp : pre 10 (a ++ b) = a ++ pre 10 b := by
      conv => lhs; rw [split_at hb, ← List.append_assoc]
      exact pre_app fun h => by
        rcases List.mem_append.1 h with h | h
        · exact ha h
        · exact not_in_pre h
    rw [hp, List.length_append] at hn
    omega

/-- All records from one place on. -/
def openF : Nat → Nat → List UInt8 → List (Rec × Nat)
  | 0, _, _ => []
  | f + 1, k, s => match dec k s with
    | none => []
    | some x => x :: openF f (k + 1) (s.drop x.2)
def opn (s : List UInt8) : List (Rec × Nat) := openF 61 0 s
def upTo (l : List (Rec × Nat)) (j : Nat) : Nat := ((l.take j).map (·.2)).sum
def endOf (l : List (Rec × Nat)) : Nat := upTo l l.length

theorem openF_succ (f k : Nat) (s : List UInt8) : openF (f + 1) k s = match dec k s with | none => [] | some x => x :: openF f (k + 1) (s.drop x.2) := rfl
theorem upTo_zero (l : List (Rec × Nat)) : upTo l 0 = 0 := by simp [upTo]
theorem upTo_cons (x : Rec × Nat) (l : List (Rec × Nat)) (j : Nat) : upTo (x :: l) (j + 1) = x.2 + upTo l j := by simp [upTo]
theorem endOf_cons (x : Rec × Nat) (l : List (Rec × Nat)) : endOf (x :: l) = x.2 + endOf l := by
  unfold endOf
  rw [List.length_cons, upTo_cons]
theorem endOf_nil : endOf [] = 0 := rfl
theorem upTo_next {l : List (Rec × Nat)} {j : Nat} {x : Rec × Nat} (h : l[j]? = some x) : upTo l (j + 1) = upTo l j + x.2 := by
  unfold upTo
  rw [List.take_add_one, h]
  simp

theorem opn_at : ∀ (f k : Nat) (s : List UInt8) (j : Nat), 61 ≤ k + f → j ≤ (openF f k s).length → dec (k + j) (s.drop (upTo (openF f k s) j)) = (openF f k s)[j]?
  | 0, k, s, j, hf, hj => by
    simp only [openF, List.length_nil] at hj
    have h0 : j = 0 := by omega
    subst h0
    simp only [openF, List.getElem?_nil]
    cases hd : dec (k + 0) (s.drop (upTo [] 0)) with
    | none => rfl
    | some x =>
      have := (dec_some hd).2.1
      omega
  | f + 1, k, s, j, hf, hj => by
    rw [openF_succ] at hj ⊢
    cases hd : dec k s with
    | none =>
      rw [hd] at hj
      simp only [List.length_nil] at hj
      have h0 : j = 0 := by omega
      subst h0
      simpa [upTo] using hd
    | some x =>
      rw [hd] at hj
      simp only [List.length_cons] at hj
      cases j with
      | zero => simpa [upTo] using hd
      | succ j =>
        have := opn_at f (k + 1) (s.drop x.2) j (by omega) (by omega)
        simp only [upTo_cons, List.getElem?_cons_succ]
        rw [List.drop_drop] at this
        rw [show k + (j + 1) = k + 1 + j by omega]
        exact this
theorem dec_at {s : List UInt8} {j : Nat} (h : j ≤ (opn s).length) : dec j (s.drop (upTo (opn s) j)) = (opn s)[j]? := by
  have := opn_at 61 0 s j (by omega) h
  rwa [Nat.zero_add] at this

theorem openF_len : ∀ (f k : Nat) (s : List UInt8), k ≤ 60 → (openF f k s).length ≤ 60 - k
  | 0, k, s, _ => by simp [openF]
  | f + 1, k, s, hk => by
    rw [openF_succ]
    cases hd : dec k s with
    | none => simp
    | some x =>
      have h1 := (dec_some hd).2.1
      have := openF_len f (k + 1) (s.drop x.2) (by omega)
      simp only [List.length_cons]
      omega
theorem opn_len (s : List UInt8) : (opn s).length ≤ 60 := openF_len 61 0 s (by omega)

theorem upTo_le : ∀ (f k : Nat) (s : List UInt8) (j : Nat), upTo (openF f k s) j ≤ s.length
  | 0, k, s, j => by simp [openF, upTo]
  | f + 1, k, s, j => by
    rw [openF_succ]
    cases hd : dec k s with
    | none => simp [upTo]
    | some x =>
      have h1 := (dec_len hd).2.1
      cases j with
      | zero => simp [upTo]
      | succ j =>
        have := upTo_le f (k + 1) (s.drop x.2) j
        rw [List.length_drop] at this
        simp only [upTo_cons]
        omega
theorem opn_upTo (s : List UInt8) (j : Nat) : upTo (opn s) j ≤ s.length := upTo_le 61 0 s j

theorem end_le : ∀ (f k : Nat) (s : List UInt8), endOf (openF f k s) ≤ 372 * (openF f k s).length
  | 0, k, s => by simp [openF, endOf_nil]
  | f + 1, k, s => by
    rw [openF_succ]
    cases hd : dec k s with
    | none => simp [endOf_nil]
    | some x =>
      have h1 := (dec_len hd).2.2
      have := end_le f (k + 1) (s.drop x.2)
      simp only [endOf_cons, List.length_cons]
      omega
theorem opn_end (s : List UInt8) : endOf (opn s) ≤ 22320 := by
  have h1 := end_le 61 0 s
  have h2 := opn_len s
  unfold opn at *
  omega

theorem cut_to : ∀ (f k : Nat) (d p : List UInt8) (j : Nat), j ≤ (openF f k (d ++ p)).length → upTo (openF f k (d ++ p)) j = d.length → endOf (openF f k d) = d.length
  | 0, k, d, p, j, hj, h => by
    simp only [openF, upTo, List.take_nil, List.map_nil, List.sum_nil] at h
    simp [openF, endOf_nil, h]
  | f + 1, k, d, p, j, hj, h => by
    cases j with
    | zero =>
      rw [upTo_zero] at h
      have hd0 : d = [] := List.eq_nil_of_length_eq_zero h.symm
      subst hd0
      rw [openF_succ]
      cases hd : dec k [] with
      | none => rfl
      | some x => have := dec_len hd; simp only [List.length_nil] at this; omega
    | succ j =>
      rw [openF_succ] at hj h
      cases hd : dec k (d ++ p) with
      | none => rw [hd] at hj; simp at hj
      | some x =>
        rw [hd] at hj h
        simp only [List.length_cons] at hj
        simp only [upTo_cons] at h
        have hd' := dec_left hd (by omega)
        have hxd := (dec_len hd').2.1
        rw [List.drop_append_of_le_length hxd] at hj h
        have := cut_to f (k + 1) (d.drop x.2) p j (by omega) (by rw [List.length_drop]; omega)
        rw [List.length_drop] at this
        rw [openF_succ, hd']
        simp only [endOf_cons]
        omega

theorem to_cut : ∀ (f k : Nat) (d p : List UInt8), endOf (openF f k d) = d.length → ∃ j, j ≤ (openF f k (d ++ p)).length ∧ upTo (openF f k (d ++ p)) j = d.length
  | 0, k, d, p, h => by
    refine ⟨0, Nat.zero_le _, ?_⟩
    simp only [openF, endOf_nil] at h
    rw [upTo_zero]
    exact h
  | f + 1, k, d, p, h => by
    rw [openF_succ] at h
    cases hd : dec k d with
    | none =>
      rw [hd] at h
      refine ⟨0, Nat.zero_le _, ?_⟩
      rw [upTo_zero]
      exact h
    | some x =>
      rw [hd] at h
      simp only [endOf_cons] at h
      have hxd := (dec_len hd).2.1
      obtain ⟨j, h1, h2⟩ := to_cut f (k + 1) (d.drop x.2) p (by rw [List.length_drop]; omega)
      refine ⟨j + 1, ?_, ?_⟩
      · rw [openF_succ, dec_app p hd]
        simp only [List.length_cons]
        rw [List.drop_append_of_le_length hxd]
        omega
      · rw [openF_succ, dec_app p hd]
        simp only [upTo_cons]
        rw [List.drop_append_of_le_length hxd, h2, List.length_drop]
        omega

/-- Whether a log is one: what the program asks. -/
def Valid (d p : List UInt8) (count : Int) : Prop :=
  endOf (opn (d ++ p)) = d.length + p.length ∧ count = (opn (d ++ p)).length ∧ ∃ j, j ≤ (opn (d ++ p)).length ∧ upTo (opn (d ++ p)) j = d.length
theorem valid_iff (d p : List UInt8) (count : Int) : Valid d p count ↔
    d.length + p.length ≤ 30000 ∧ endOf (opn (d ++ p)) = d.length + p.length ∧ endOf (opn d) = d.length ∧ ((opn (d ++ p)).length : Int) = count := by
  constructor
  · rintro ⟨h1, h2, j, h3, h4⟩
    have := opn_end (d ++ p)
    exact ⟨by omega, h1, cut_to 61 0 d p j h3 h4, h2.symm⟩
  · rintro ⟨_, h1, h2, h3⟩
    exact ⟨h1, h3.symm, to_cut 61 0 d p h2⟩

/-! ### A text split at a byte, from left to right -/
def spl1 (c : UInt8) (x : List (List UInt8) × List UInt8) (b : UInt8) : List (List UInt8) × List UInt8 := if b = c then (x.1 ++ [x.2], []) else (x.1, x.2 ++ [b])
def splAt (c : UInt8) (s : List UInt8) (i : Nat) : List (List UInt8) × List UInt8 := (s.take i).foldl (spl1 c) ([], [])
def split (c : UInt8) (s : List UInt8) : List (List UInt8) := (splAt c s s.length).1 ++ [(splAt c s s.length).2]

theorem spl_next {c : UInt8} {s : List UInt8} {i : Nat} {b : UInt8} (h : s[i]? = some b) : splAt c s (i + 1) = spl1 c (splAt c s i) b := by
  unfold splAt
  rw [List.take_add_one, h]
  simp [List.foldl_append]

theorem spl_fold (c : UInt8) : ∀ (l : List UInt8) (d : List (List UInt8)) (u : List UInt8), ∃ d', (l.foldl (spl1 c) (d, u)).1 ++ [(l.foldl (spl1 c) (d, u)).2] = d ++ (u ++ pre c l) :: d' ∧ (d' = [] ↔ c ∉ l)
  | [], d, u => ⟨[], by simp [pre], by simp⟩
  | b :: l, d, u => by
    rw [List.foldl_cons]
    by_cases hb : b = c
    · subst hb
      rw [show spl1 b (d, u) b = (d ++ [u], []) by simp [spl1]]
      obtain ⟨d', h1, _⟩ := spl_fold b l (d ++ [u]) []
      exact ⟨([] ++ pre b l) :: d', by rw [h1]; simp [pre], by simp⟩
    · rw [show spl1 c (d, u) b = (d, u ++ [b]) by simp [spl1, hb]]
      obtain ⟨d', h1, h2⟩ := spl_fold c l d (u ++ [b])
      refine ⟨d', by rw [h1, pre, if_neg hb]; simp, h2.trans ?_⟩
      simp [Ne.symm hb]

theorem split_eq (c : UInt8) (s : List UInt8) : ∃ d', split c s = pre c s :: d' ∧ (d' = [] ↔ c ∉ s) := by
  obtain ⟨d', h1, h2⟩ := spl_fold c s [] []
  refine ⟨d', ?_, h2⟩
  unfold split splAt
  rw [List.take_length]
  simpa using h1

/-- The part under way is the text's end. -/
theorem spl_len (c : UInt8) (s : List UInt8) : ∀ i, i ≤ s.length → (splAt c s i).2.length ≤ i ∧ (splAt c s i).2 = (s.take i).drop (i - (splAt c s i).2.length)
  | 0, _ => by simp [splAt]
  | i + 1, h => by
    have hx : s[i]? = some s[i] := List.getElem?_eq_getElem (by omega)
    obtain ⟨h1, h2⟩ := spl_len c s i (by omega)
    rw [spl_next hx]
    unfold spl1
    split
    · refine ⟨by simp, ?_⟩
      simp
    · simp only [List.length_append, List.length_cons, List.length_nil]
      refine ⟨by omega, ?_⟩
      rw [show i + 1 - ((splAt c s i).2.length + (0 + 1)) = i - (splAt c s i).2.length by omega, List.take_add_one, hx]
      simp only [Option.toList_some]
      rw [List.drop_append_of_le_length (by rw [List.length_take]; omega), ← h2]
end Go.Lg

