/- The abstract machine, part 32: slices.Sort of numbers as a contract. -/
import Derived.Test.YtnjojepeilgikaaAm31
import Derived.Test.YtnjojepeilgikaaAm30
import Derived.Shelf.Sort.Plain
import Derived.Shelf.Slices.In.SortNone
namespace Go.Am
open Go Go.Sort Go.Proofs Go.Shelf

theorem flat_one : ∀ (zs : List Int), (zs.map intRow).flatten = zs.map (D.int .i64)
  | [] => rfl
  | z :: zs => by simp only [List.map_cons, List.flatten_cons, flat_one zs, intRow]; rfl

theorem onCells_cells (f : Array Value → Array Value) (c : Array Value) (e : TypeId) (fr : Nat × Nat) : onCells f (.cells c e fr) = .cells (f c) e fr := rfl

theorem putRow_heap_other (enc : Int → Value) (w : World) (b o : Nat) (d : Array Int) (k : Nat) (h : k ≠ b) : (putRow enc w b o d).heap[k]? = w.heap[k]? := by
  show (w.heap.modify b _)[k]? = _
  rw [Array.getElem?_modify, if_neg (Ne.symm h)]
theorem putRow_heap_at (enc : Int → Value) (w : World) (b o : Nat) (d : Array Int) {c : Array Value} {e : TypeId} {fr : Nat × Nat} (h : w.heap[b]? = some (.cells c e fr)) : (putRow enc w b o d).heap[b]? = some (.cells (putCells enc o d c) e fr) := by
  show (w.heap.modify b _)[b]? = _
  rw [Array.getElem?_modify, if_pos rfl, h]
  rfl
theorem putRow_size (enc : Int → Value) (w : World) (b o : Nat) (d : Array Int) : (putRow enc w b o d).heap.size = w.heap.size := by
  show (w.heap.modify b _).size = _
  rw [Array.size_modify]

theorem callOk_sortInt {P : Program} {ρ : Ren} (L : Lays.n189 P ρ) (he : Enters P (ρ.f 189)) (ety : Nat) (zs : List Int) (hz : zs.length < 4611686018427387904) :
    CallOk P (ρ.f 189) [.arr ety 1 (zs.map intRow)] { res := [], muts := [.arr ety 1 ((zs.mergeSort fun x y => decide (x ≤ y)).map intRow)] } := by
  have hg : ∀ ys : List Int, ∀ r ∈ ys.map intRow, r.all D.gr = true := by
    intro ys r hr
    obtain ⟨x, _, rfl⟩ := List.mem_map.1 hr
    rfl
  refine callOk_put he (by simp) (fun r hr => by obtain ⟨x, _, rfl⟩ := List.mem_map.1 hr; rfl) (hg _) ?_ ?_ (hg zs)
  · intro _ w ad cap
    refine (Any.slices_Sort_int_none L ad cap w).mono ?_
    rintro e w' ⟨rfl, rfl⟩
    exact ⟨rfl, fun b => ⟨⟨rfl, rfl, rfl, Nat.le_refl _, fun _ _ _ => rfl⟩, fun _ _ => rfl⟩⟩
  · intro w b o cap cs hb hcap hfit hrep
    rw [flat_one] at hrep
    simp only [List.length_map] at hfit hcap
    have hbs : b < w.heap.size := (Array.getElem?_eq_some_iff.1 hb).1
    have hH : Holds (Value.int .i64) w b o zs.toArray := by
      intro j hj
      have hj' : j < zs.length := by simpa using hj
      have hr := hrep j (.int .i64 zs[j]) (by simp [hj'])
      have hv := rep_int hr
      refine ⟨?_, ?_⟩
      · rw [cell_at hb, getD_of (by omega), hv]
        simp [hj']
      · simp only [World.frozen?, hb]
        simp
    have hc := Any.slices_Sort_int L b o cap zs w hH hbs hz
    simp only [List.length_map]
    refine hc.mono ?_
    rintro e w' ⟨rfl, n, os, rfl⟩
    have hb' : (Sort.ahead w n).heap[b]? = some (.cells cs ety (0, 0)) := hb
    have hsz : (putRow (Value.int .i64) (Sort.ahead w n) b o (zs.mergeSort fun x y => decide (x ≤ y)).toArray).heap.size = w.heap.size := putRow_size _ _ _ _ _
    refine ⟨rfl, ⟨rfl, rfl, rfl, ?_, ?_⟩, putCells (Value.int .i64) o (zs.mergeSort fun x y => decide (x ≤ y)).toArray cs, ?_, ?_, ?_⟩
    · show w.heap.size ≤ (_ ++ os).size
      rw [Array.size_append]
      have := hsz
      omega
    · intro k hk hne
      rw [heap_grow_old _ _ (by rw [hsz]; exact hk), putRow_heap_other _ _ _ _ _ _ hne]
      rfl
    · rw [heap_grow_old _ _ (by rw [hsz]; exact hbs), putRow_heap_at _ _ _ _ _ hb']
    · simp [putCells]
    · intro j d hj
      rw [flat_one] at hj
      have hjl : j < (zs.mergeSort fun x y => decide (x ≤ y)).length := by
        have := (List.getElem?_eq_some_iff.1 hj).1
        simpa using this
      have hjz : j < zs.length := by rwa [List.length_mergeSort] at hjl
      have hd : d = .int .i64 (zs.mergeSort fun x y => decide (x ≤ y))[j] := by
        have := (List.getElem?_eq_some_iff.1 hj).2
        rw [← this]; simp
      have hcell : (putCells (Value.int .i64) o (zs.mergeSort fun x y => decide (x ≤ y)).toArray cs).getD (o + j) Go.undef = .int .i64 (zs.mergeSort fun x y => decide (x ≤ y))[j] := by
        have hlt : o + j < cs.size := by omega
        unfold putCells
        simp only [Array.getD_eq_getD_getElem?, Array.getElem?_mapIdx]
        rw [Array.getElem?_eq_getElem hlt]
        simp only [Option.map_some, Option.getD_some, List.size_toArray]
        rw [if_pos ⟨by omega, by omega⟩]
        simp
        rw [List.getElem?_eq_getElem hjl]
        rfl
      rw [hcell, hd]
      exact .int _ _

end Go.Am
