/- The reader of bytes: what is picked, as functions of where it stands. -/
import Derived.Test.YteoiohkdhdpkoaaC3
namespace Go.Proofs.Yteoiohkdhdpkoaa
open Go Go.Am
set_option maxRecDepth 100000
set_option maxHeartbeats 4000000

/-- Where a reader stands. -/
structure Cu where
  k : Nat
  s : Int
def cu (xs : List Int) (c : Cu) : List D := curD xs c.k c.s
def PickP (xs : List Int) (c : Cu) (n : Int) (x : Int × Cu) : Prop := (0 ≤ x.1 ∧ (1 ≤ n → x.1 < n)) ∧ (c.k ≤ x.2.k ∧ x.2.k ≤ c.k + 2) ∧
  CallOk Try.prog 22 [.box 48 (cu xs c), .imm (.int .i64 n)] { res := [.imm (.int .i64 x.1)], muts := [.box 48 ((cu xs x.2).map .imm)], sep := false }
def AmongP (xs : List Int) (c : Cu) (l : List Int) (x : Int × Cu) : Prop := x.1 ∈ l ∧ (c.k ≤ x.2.k ∧ x.2.k ≤ c.k + 2) ∧
  CallOk Try.prog 32 [.box 48 (cu xs c), .imm (.list (l.map intRow))] { res := [.imm (.int .i64 x.1)], muts := [.box 48 ((cu xs x.2).map .imm)], sep := false }
open Classical in
noncomputable def pk (xs : List Int) (c : Cu) (n : Int) : Int × Cu := if h : ∃ x, PickP xs c n x then Classical.choose h else (0, c)
open Classical in
noncomputable def am (xs : List Int) (c : Cu) (l : List Int) : Int × Cu := if h : ∃ x, AmongP xs c l x then Classical.choose h else (0, c)
theorem pk_ok {xs : List Int} (hx : areB xs) {c : Cu} (hk : c.k ≤ 999000) (n : Int) : PickP xs c n (pk xs c n) := by
  have h : ∃ x, PickP xs c n x := by
    obtain ⟨v, k', s', h1, h2, h3⟩ := pick_ok xs hx c.k hk c.s n
    exact ⟨(v, ⟨k', s'⟩), h1, h2, h3⟩
  unfold pk
  rw [dif_pos h]
  exact Classical.choose_spec h
theorem am_ok {xs : List Int} (hx : areB xs) {c : Cu} (hk : c.k ≤ 999000) {l : List Int} (hl : 1 ≤ l.length) (hl2 : l.length ≤ 1000) : AmongP xs c l (am xs c l) := by
  have h : ∃ x, AmongP xs c l x := by
    obtain ⟨v, k', s', h1, h2, h3⟩ := among_ok xs hx c.k hk c.s l hl hl2
    exact ⟨(v, ⟨k', s'⟩), h1, h2, h3⟩
  unfold am
  rw [dif_pos h]
  exact Classical.choose_spec h
end Go.Proofs.Yteoiohkdhdpkoaa

