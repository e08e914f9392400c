/- slices.Delete of elements of several cells, by the model's own run. -/
import Derived.Shelf.Slices.Delete
import Derived.Shelf.Spec.SlicesInsert
import Derived.Laws.AppendOwn
import Derived.Shelf.SlGeneric
namespace Go.Am
open Go Go.Proofs Go.Shelf Go.RowKit Go.Lib

/-- slices.Delete's text at an element type of S cells. -/
structure DelL (P : Program) (ρ : Ren) (S : Nat) (i0 : TypeInfo) (z0c : Value) : Prop where
  mixed : P.follows .mixedOrders = true
  f24 : Bears P (ρ.f 24) (Body2.n24 ρ)
  t0 : P.underlying (ρ.t 0) = some (TypeDesc.tuple #[])
  a0 : ∀ w, (isAgg (ρ.t 0)).run P w = .ok false w
  z0 : ∀ w, (Go.sizeOf (ρ.t 0)).run P w = .ok 1 w
  v0 : ∀ w, (zeroValue (ρ.t 0)).run P w = .ok (Value.tuple #[]) w
  t3 : P.underlying (ρ.t 3) = some (TypeDesc.int IntKind.i64)
  a3 : ∀ w, (isAgg (ρ.t 3)).run P w = .ok false w
  z3 : ∀ w, (Go.sizeOf (ρ.t 3)).run P w = .ok 1 w
  v3 : ∀ w, (zeroValue (ρ.t 3)).run P w = .ok (Value.int IntKind.i64 0) w
  t4 : P.underlying (ρ.t 4) = some (TypeDesc.bool)
  a4 : ∀ w, (isAgg (ρ.t 4)).run P w = .ok false w
  z4 : ∀ w, (Go.sizeOf (ρ.t 4)).run P w = .ok 1 w
  v4 : ∀ w, (zeroValue (ρ.t 4)).run P w = .ok (Value.bool false) w
  z9 : ∀ w, (Go.sizeOf (ρ.t 9)).run P w = .ok S w
  v9 : ∀ w, (zeroValue (ρ.t 9)).run P w = .ok z0c w
  t24 : P.underlying (ρ.t 24) = some (TypeDesc.slice (ρ.t 9))
  a24 : ∀ w, (isAgg (ρ.t 24)).run P w = .ok false w
  z24 : ∀ w, (Go.sizeOf (ρ.t 24)).run P w = .ok 1 w
  v24 : ∀ w, (zeroValue (ρ.t 24)).run P w = .ok (Value.slice none 0 0) w
  i9 : P.info? (ρ.t 9) = some i0
  i9s : i0.size = S
  pos : 0 < S

variable {P : Program} {ρ : Ren}

theorem run_clear_sliceN (w : World) (t e ty : TypeId) (z : Value) (S : Nat) (ht : P.underlying t = some (.slice e)) (hv : ∀ w, (zeroValue e).run P w = .ok z w) (hzs : z.cells.size = S) (h1 : ∀ v ∈ z.cells.toList, v.oneCell' = true) (b o n c : Nat) (hn : 0 < n)
    (hc : ∀ j, j < n * S → (w.cell? ⟨b, o + j, none⟩).isSome = true) (hf : ∀ j, j < n * S → w.frozen? ⟨b, o + j, none⟩ = false) :
    (Builtin.clear_ #[t] ty #[.slice (some ⟨b, o, none⟩) n c]).run P w = .ok (.tuple #[]) (w.setCells b o (Builtin.zeroCells z.cells n).toList) := by
  have hl : (Builtin.zeroCells z.cells n).toList.length = n * S := by
    rw [Array.length_toList, size_zeroCells, hzs]
  have h1' : ∀ v ∈ (Builtin.zeroCells z.cells n).toList, v.oneCell' = true := by
    intro v hv'
    simp only [Builtin.zeroCells, Array.mem_toList_iff, Array.mem_map, Array.mem_range] at hv'
    obtain ⟨i, hi, rfl⟩ := hv'
    have hp : 0 < z.cells.size := by
      rcases Nat.eq_zero_or_pos z.cells.size with h0 | h0
      · rw [h0] at hi; omega
      · exact h0
    have hlt := Nat.mod_lt i hp
    rw [getElem!_pos z.cells _ hlt]
    exact h1 _ (by simp)
  have hst := run_storeCells_cells (P := P) b o (Builtin.zeroCells z.cells n).toList 0 w (by rw [hl]; simpa using hc) (by rw [hl]; simpa using hf) h1'
  simp only [Nat.add_zero] at hst
  obtain ⟨m, rfl⟩ : ∃ m, n = m + 1 := ⟨n - 1, by omega⟩
  simp [Builtin.clear_, run_underlying ht, hv, hst]

set_option linter.unusedVariables false in
set_option linter.unusedSimpArgs false in
set_option maxHeartbeats 4000000 in
set_option maxRecDepth 1000000 in
theorem delete_run {S : Nat} {i0 : TypeInfo} {zc : Value} (L : DelL P ρ S i0 zc) (blk off n cap i j : Nat) (cs : List Value) (w : World) (hij : i < j) (hj : j ≤ n) (hcap : n ≤ cap) (hm : cap ≤ 9223372036854775807)
    (hcl : cs.length = n * S) (hzc : zc.cells.size = S) (hz1 : ∀ v ∈ zc.cells.toList, v.oneCell' = true) (hcs : ∀ j v, cs[j]? = some v → w.cell? ⟨blk, off + j, none⟩ = some v) (hfz : ∀ j, j < n * S → w.frozen? ⟨blk, off + j, none⟩ = false) (h1c : ∀ v ∈ cs, v.oneCell' = true) :
    Calls P (ρ.f 24) #[.slice (some ⟨blk, off, none⟩) n cap, .int .i64 i, .int .i64 j] w fun e w' => e = .returned (.slice (some ⟨blk, off, none⟩) (n - (j - i)) cap) ∧
      w' = (w.drew.setCells blk (off + i * S) (cs.drop (j * S))).setCells blk (off + (i + (n - j)) * S) (Builtin.zeroCells zc.cells (n - (i + (n - j)))).toList := by
  have mixed := L.mixed; have t0 := L.t0; have a0 := L.a0; have z0 := L.z0; have v0 := L.v0; have t3 := L.t3; have a3 := L.a3; have z3 := L.z3; have v3 := L.v3; have t4 := L.t4; have a4 := L.a4; have z4 := L.z4; have v4 := L.v4; have z9 := L.z9; have v9 := L.v9; have t24 := L.t24; have a24 := L.a24; have z24 := L.z24; have v24 := L.v24
  have hi0 := L.i9
  have his := L.i9s
  have hpos := L.pos
  have hjS : i * S ≤ j * S := Nat.mul_le_mul_right _ (by omega)
  have hjn : j * S ≤ n * S := Nat.mul_le_mul_right _ hj
  obtain ⟨news, hnews⟩ : ∃ news, news = cs.drop (j * S) := ⟨_, rfl⟩
  rw [← hnews]
  have hlen : news.length = (n - j) * S := by rw [hnews, List.length_drop, hcl, Nat.sub_mul]
  have hinj : i * S + (n - j) * S ≤ n * S := by rw [← Nat.add_mul]; exact Nat.mul_le_mul_right _ (by omega)
  obtain ⟨A, hA, hsrc⟩ : ∃ A : Addr, (if cap = j then some (⟨blk, off, none⟩ : Addr) else some ⟨blk, off + j * S, none⟩) = some A ∧ Hid (∀ t u, news[t]? = some u → w.drew.cell? (A.add t) = some u) := by
    by_cases h : cap = j
    · refine ⟨⟨blk, off, none⟩, by simp [h], fun t u hu => ?_⟩
      have h0 : news.length = 0 := by rw [hlen, show n - j = 0 by omega, Nat.zero_mul]
      rw [List.length_eq_zero_iff.1 h0] at hu
      simp at hu
    · refine ⟨⟨blk, off + j * S, none⟩, by simp [h], fun t u hu => ?_⟩
      rw [hnews, List.getElem?_drop] at hu
      rw [Addr.add_lit, Nat.add_assoc]
      exact hcs _ _ hu
  have s1 : Hid (news.length = (n - j) * S) := hlen
  have s2 : Hid (∀ u ∈ news, u.oneCell' = true) := by
    intro u hu
    rw [hnews] at hu
    exact h1c u (List.mem_of_mem_drop hu)
  have hcell : ∀ k, k < n * S → (w.cell? ⟨blk, off + k, none⟩).isSome = true := fun k hk => by
    rw [hcs k _ (List.getElem?_eq_getElem (by omega))]; rfl
  have s3 : Hid (∀ t, t < news.length → (w.drew.cell? ⟨blk, off + i * S + t, none⟩).isSome = true ∧ w.drew.frozen? ⟨blk, off + i * S + t, none⟩ = false) := by
    intro t ht
    rw [hlen] at ht
    rw [Nat.add_assoc]
    exact ⟨hcell _ (by omega), hfz _ (by omega)⟩
  obtain ⟨W1, hW1⟩ : ∃ W1, W1 = w.drew.setCells blk (off + i * S) news := ⟨_, rfl⟩
  have hcell1 : ∀ k, k < n * S → (W1.cell? ⟨blk, off + k, none⟩).isSome = true := fun k hk => by
    rw [hW1]
    exact isSome_setCells blk _ _ _ (fun t ht => by rw [Nat.add_assoc]; rw [hlen] at ht; exact hcell _ (by omega)) _ (hcell k hk)
  have hend : (i + (n - j)) * S + (n - (i + (n - j))) * S = n * S := by rw [← Nat.add_mul]; congr 1; omega
  have hcl : ∀ ty, (Builtin.clear_ #[ρ.t 24] ty #[.slice (some ⟨blk, off + (i + (n - j)) * S, none⟩) (n - (i + (n - j))) (cap - (i + (n - j)))]).run P W1 = .ok (.tuple #[]) (W1.setCells blk (off + (i + (n - j)) * S) (Builtin.zeroCells zc.cells (n - (i + (n - j)))).toList) :=
    fun ty => run_clear_sliceN W1 _ _ ty _ S t24 v9 hzc hz1 blk (off + (i + (n - j)) * S) _ _ (by omega) (fun t ht => by rw [Nat.add_assoc]; exact hcell1 _ (by omega)) (fun t ht => by rw [hW1, World.frozen?_setCells, Nat.add_assoc]; exact hfz _ (by omega))
  obtain ⟨Z, hZ⟩ : ∃ Z, Z = (Builtin.zeroCells zc.cells (n - (i + (n - j)))).toList := ⟨_, rfl⟩
  rw [← hZ] at hcl ⊢
  have hW : Hid (W1 = w.drew.setCells blk (off + i * S) news) := hW1
  have hic : i ≤ cap := by omega
  have hjc : j ≤ cap := by omega
  obtain ⟨_, _, hf24⟩ := L.f24
  clear hZ v9 hzc hz1 L
  clear hW1 hcell hcell1 hfz hcs hnews hlen hend hinj hjS hjn
  go_enter hf24, Body2.n24_ntmps ρ
  go_wp2_with fail
  go_region_law_o (refine step_append_room rfl (.tmp 22) (.tmp 25) (ρ.t 24) rfl (ρ.t 9) i0 S t24 hi0 his blk off i cap (by simp [Act.eval, Act.put]) A (n - j) (cap - j) news (by simp [Act.eval, Act.put]) s1.out hsrc.out s2.out (by omega) s3.out ?_; rw [← hW.out])
  go_wp2
  go_ret
  exact ⟨by rw [show n - (j - i) = i + (n - j) by omega]; rfl, by rw [hW.out]⟩
end Go.Am

