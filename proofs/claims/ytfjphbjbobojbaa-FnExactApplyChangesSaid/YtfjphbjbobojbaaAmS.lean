/- The abstract machine: sorts with a function that compares. -/
import Derived.Test.YtfjphbjbobojbaaAmC
import Derived.Shelf.SlSortCmp.InsertionK
/-! The abstract machine, part 50: a contract over an array that is lent and written in place beside plain data, from what a call does to one block. -/
namespace Go.Am
open Go

theorem rep_gr1 {w : World} {B : Nat → Prop} {d : D} {v : Value} (h : Rep w B v d) (hg : d.gr = true) {w' : World} {B' : Nat → Prop} : Rep w' B' v d := by
  cases h with
  | int k n => exact .int k n
  | bool b => exact .bool b
  | str s => exact .str s
  | other v => exact .other v
  | nil a c => exact .nil a c
  | list ad n c rows sz g hn hc hr hb hB hs hcell hrep =>
    cases rows with
    | nil => simp only [List.length_nil] at hn; subst hn; exact .nil _ _
    | cons r rs => simp [D.gr] at hg
  | agg vs ds hs hr => simp [D.gr] at hg
  | fn f vs ds hs hr => simp [D.gr] at hg
  | ptr ad ds g hb hB hs hc hr => simp [D.gr] at hg

theorem lent_ins {ety sz : Nat} {rows : List (List D)} {es : List D} (i : Nat) : (In.arr ety sz rows :: es.map In.imm)[i + 1]? = (es[i]?).map In.imm := by
  rw [List.getElem?_cons_succ, List.getElem?_map]
theorem lent_mutIdx {ety sz : Nat} {rows : List (List D)} {es : List D} : mutIdx (In.arr ety sz rows :: es.map In.imm) = [0] := by
  unfold mutIdx
  rw [List.length_cons, List.range_succ_eq_map, List.filter_cons_of_pos (by rfl)]
  congr 1
  refine List.filter_eq_nil_iff.2 fun i hi => ?_
  obtain ⟨j, _, rfl⟩ := List.mem_map.1 hi
  rw [lent_ins]
  cases es[j]? <;> simp [In.isMut]

end Go.Am

/-! The abstract machine, part 51: insertion sort with a function that compares, at structs. -/
namespace Go.Am
open Go Go.Sort Go.Proofs Go.Shelf

/-- Plain data: the value is known. -/
def D.pl : D → Bool
  | .int _ _ => true
  | .bool _ => true
  | .str _ => true
  | _ => false
end Go.Am

/-! The abstract machine, part 52: what insertion sort leaves, in plain lists. -/
namespace Go.Am
open Go Go.Sort

section
variable {α : Type} [Inhabited α] {lt : α → α → Bool}

end
end Go.Am

/-! The abstract machine, part 53: the end of a function that hands nothing back. -/
namespace Go.Am
open Go
end Go.Am

