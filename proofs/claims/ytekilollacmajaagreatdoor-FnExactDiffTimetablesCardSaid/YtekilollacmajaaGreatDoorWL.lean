/- The package variables that the rows list: a world that holds them, and where the machine finds them. MADE BY PROGRAM (door.py). -/
import Derived.Test.YtekilollacmajaaGreatDoorCards
import Derived.Test.YtekilollacmajaaGreatDoorTie
import Derived.ProofKit
import Derived.Deep.DeepHandedRow
import Derived.Test.YtekilollacmajaaGreatDoorAmC
namespace Go.Proofs.YtekilollacmajaaGreatDoor
open Go Go.Am Go.RowKit
set_option maxRecDepth 100000

def cells_laid_math_bits_deBruijn32tab : Array Value := #[.int .u8 0, .int .u8 1, .int .u8 28, .int .u8 2, .int .u8 29, .int .u8 14, .int .u8 24, .int .u8 3, .int .u8 30, .int .u8 22, .int .u8 20, .int .u8 15, .int .u8 25, .int .u8 17, .int .u8 4, .int .u8 8, .int .u8 31, .int .u8 27, .int .u8 13, .int .u8 23, .int .u8 21, .int .u8 19, .int .u8 16, .int .u8 7, .int .u8 26, .int .u8 12, .int .u8 18, .int .u8 6, .int .u8 11, .int .u8 5, .int .u8 10, .int .u8 9]
def cells_laid_math_bits_deBruijn64tab : Array Value := #[.int .u8 0, .int .u8 1, .int .u8 56, .int .u8 2, .int .u8 57, .int .u8 49, .int .u8 28, .int .u8 3, .int .u8 61, .int .u8 58, .int .u8 42, .int .u8 50, .int .u8 38, .int .u8 29, .int .u8 17, .int .u8 4, .int .u8 62, .int .u8 47, .int .u8 59, .int .u8 36, .int .u8 45, .int .u8 43, .int .u8 51, .int .u8 22, .int .u8 53, .int .u8 39, .int .u8 33, .int .u8 30, .int .u8 24, .int .u8 18, .int .u8 12, .int .u8 5, .int .u8 63, .int .u8 55, .int .u8 48, .int .u8 27, .int .u8 60, .int .u8 41, .int .u8 37, .int .u8 16, .int .u8 46, .int .u8 35, .int .u8 44, .int .u8 21, .int .u8 52, .int .u8 32, .int .u8 23, .int .u8 11, .int .u8 54, .int .u8 26, .int .u8 40, .int .u8 15, .int .u8 34, .int .u8 20, .int .u8 31, .int .u8 10, .int .u8 25, .int .u8 14, .int .u8 19, .int .u8 9, .int .u8 13, .int .u8 8, .int .u8 7, .int .u8 6]
def cells_laid_internal_strconv_uint64pow10 : Array Value := #[.int .u64 1, .int .u64 10, .int .u64 100, .int .u64 1000, .int .u64 10000, .int .u64 100000, .int .u64 1000000, .int .u64 10000000, .int .u64 100000000, .int .u64 1000000000, .int .u64 10000000000, .int .u64 100000000000, .int .u64 1000000000000, .int .u64 10000000000000, .int .u64 100000000000000, .int .u64 1000000000000000, .int .u64 10000000000000000, .int .u64 100000000000000000, .int .u64 1000000000000000000, .int .u64 10000000000000000000]

/-- A world for the witnesses: the settled one, the listed variables holding what their initialisers lay. -/
noncomputable def laidWorld (os : Os) : World := { World.holding Tryz.prog os ⟨#[], #[], []⟩ with heap := ((((World.holding Tryz.prog os ⟨#[], #[], []⟩).heap.modify 1 fun | .cells _ t frozen => .cells cells_laid_math_bits_deBruijn32tab t frozen | o => o).modify 2 fun | .cells _ t frozen => .cells cells_laid_math_bits_deBruijn64tab t frozen | o => o).modify 0 fun | .cells _ t frozen => .cells cells_laid_internal_strconv_uint64pow10 t frozen | o => o) }

theorem gTab : Tryz.prog.globalNamed "internal/strconv.uint64pow10" = some 0 := by kernel_rfl
theorem gTabType : (Tryz.prog.globals[0]?).map (·.type) = some 148 := by kernel_rfl
theorem cellsTab : Tryz.prog.cellsOf 148 = 20 := by kernel_rfl
theorem cellsTabE : Tryz.prog.cellsOf 121 = 1 := by kernel_rfl

/-- What the rows' list gives: the tables are where the machine reads them. -/
theorem tb_of {W : World} (h : laidMetH Tryz.prog Rows.fnExactDiffTimetablesRow.laid W) : Tb W [] := by
  have hm : laidMet Tryz.prog Rows.fnExactDiffTimetablesRow.laid W := h
  have t := Lib.tabIs_of_head (zs := Lib.pow10Tab) (k := .u64) gTab gTabType Tryz.underlying148 Tryz.underlying121 cellsTabE cellsTab (laid_tail (laid_tail hm))
  intro g cs hg
  cases List.mem_singleton.1 hg
  exact ⟨tab_block gTab t, fun l hl => by cases hl⟩
end Go.Proofs.YtekilollacmajaaGreatDoor

