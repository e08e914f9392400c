/- The types of this program as the abstract machine reads them, and that the kernel holds them against the program. MADE BY PROGRAM (types.py). -/
import Derived.Test.YteoiohkdhdpkoaaProg
import Derived.Test.YteoiohkdhdpkoaaAmB
import Derived.KernelRfl
namespace Go.Proofs.Yteoiohkdhdpkoaa
open Go Go.Am

def ty1 : TI := ⟨.func, 1, 8, [.other .nilFunc]⟩
def ty2 : TI := ⟨.int .i64, 1, 8, [.int .i64 0]⟩
def ty3 : TI := ⟨.int .i64, 1, 8, [.int .i64 0]⟩
def ty4 : TI := ⟨.bool, 1, 1, [.bool false]⟩
def ty5 : TI := ⟨.int .u8, 1, 1, [.int .u8 0]⟩
def ty6 : TI := ⟨.int .u8, 1, 1, [.int .u8 0]⟩
def ty7 : TI := ⟨.struct [(0, 1, false), (1, 1, false), (2, 1, false), (3, 1, false)], 4, 24, [.int .i64 0, .int .i64 0, .bool false, .int .u8 0]⟩
def ty8 : TI := ⟨.struct [(0, 1, false), (1, 1, false), (2, 1, false), (3, 1, false)], 4, 24, [.int .i64 0, .int .i64 0, .bool false, .int .u8 0]⟩
def ty9 : TI := ⟨.str, 1, 16, [.str ByteArray.empty]⟩
def ty10 : TI := ⟨.str, 1, 16, [.str ByteArray.empty]⟩
def ty11 : TI := ⟨.str, 1, 16, [.str ByteArray.empty]⟩
def ty12 : TI := ⟨.int .u64, 1, 8, [.int .u64 0]⟩
def ty13 : TI := ⟨.struct [(0, 1, false), (1, 1, false)], 2, 24, [.str ByteArray.empty, .int .u64 0]⟩
def ty14 : TI := ⟨.struct [(0, 1, false), (1, 1, false)], 2, 24, [.str ByteArray.empty, .int .u64 0]⟩
def ty15 : TI := ⟨.ptr 72, 1, 8, [.other (.pointer none)]⟩
def ty16 : TI := ⟨.ptr 75, 1, 8, [.other (.pointer none)]⟩
def ty17 : TI := ⟨.ptr 84, 1, 8, [.other (.pointer none)]⟩
def ty18 : TI := ⟨.struct [(0, 1, false)], 1, 8, [.other (.pointer none)]⟩
def ty19 : TI := ⟨.struct [(0, 1, false)], 1, 8, [.other (.pointer none)]⟩
def ty20 : TI := ⟨.other, 1, 16, [.other .nilIface]⟩
def ty21 : TI := ⟨.int .i32, 1, 4, [.int .i32 0]⟩
def ty22 : TI := ⟨.slice 5, 1, 24, [.list []]⟩
def ty23 : TI := ⟨.func, 1, 8, [.other .nilFunc]⟩
def ty24 : TI := ⟨.slice 9, 1, 24, [.list []]⟩
def ty25 : TI := ⟨.slice 44, 1, 24, [.list []]⟩
def ty26 : TI := ⟨.struct [(0, 1, false), (1, 1, false)], 2, 48, [.list [], .list []]⟩
def ty27 : TI := ⟨.struct [(0, 1, false), (1, 1, false)], 2, 48, [.list [], .list []]⟩
def ty29 : TI := ⟨.func, 1, 8, [.other .nilFunc]⟩
def ty30 : TI := ⟨.slice 3, 1, 24, [.list []]⟩
def ty32 : TI := ⟨.func, 1, 8, [.other .nilFunc]⟩
def ty33 : TI := ⟨.func, 1, 8, [.other .nilFunc]⟩
def ty35 : TI := ⟨.func, 1, 8, [.other .nilFunc]⟩
def ty36 : TI := ⟨.func, 1, 8, [.other .nilFunc]⟩
def ty37 : TI := ⟨.func, 1, 8, [.other .nilFunc]⟩
def ty38 : TI := ⟨.func, 1, 8, [.other .nilFunc]⟩
def ty39 : TI := ⟨.func, 1, 8, [.other .nilFunc]⟩
def ty40 : TI := ⟨.func, 1, 8, [.other .nilFunc]⟩
def ty41 : TI := ⟨.func, 1, 8, [.other .nilFunc]⟩
def ty42 : TI := ⟨.func, 1, 8, [.other .nilFunc]⟩
def ty43 : TI := ⟨.struct [(0, 1, false), (1, 1, false), (2, 1, false)], 3, 64, [.str ByteArray.empty, .list [], .list []]⟩
def ty44 : TI := ⟨.struct [(0, 1, false), (1, 1, false), (2, 1, false)], 3, 64, [.str ByteArray.empty, .list [], .list []]⟩
def ty45 : TI := ⟨.ptr 48, 1, 8, [.other (.pointer none)]⟩
def ty46 : TI := ⟨.int .u64, 1, 8, [.int .u64 0]⟩
def ty47 : TI := ⟨.struct [(0, 1, false), (1, 1, false), (2, 1, false)], 3, 40, [.list [], .int .i64 0, .int .u64 0]⟩
def ty48 : TI := ⟨.struct [(0, 1, false), (1, 1, false), (2, 1, false)], 3, 40, [.list [], .int .i64 0, .int .u64 0]⟩
def ty49 : TI := ⟨.func, 1, 8, [.other .nilFunc]⟩
def ty50 : TI := ⟨.func, 1, 8, [.other .nilFunc]⟩
def ty51 : TI := ⟨.func, 1, 8, [.other .nilFunc]⟩
def ty52 : TI := ⟨.func, 1, 8, [.other .nilFunc]⟩
def ty53 : TI := ⟨.func, 1, 8, [.other .nilFunc]⟩
def ty54 : TI := ⟨.func, 1, 8, [.other .nilFunc]⟩
def ty55 : TI := ⟨.func, 1, 8, [.other .nilFunc]⟩
def ty56 : TI := ⟨.func, 1, 8, [.other .nilFunc]⟩
def ty57 : TI := ⟨.func, 1, 8, [.other .nilFunc]⟩
def ty58 : TI := ⟨.func, 1, 8, [.other .nilFunc]⟩
def ty59 : TI := ⟨.func, 1, 8, [.other .nilFunc]⟩
def ty60 : TI := ⟨.func, 1, 8, [.other .nilFunc]⟩
def ty61 : TI := ⟨.func, 1, 8, [.other .nilFunc]⟩
def ty62 : TI := ⟨.func, 1, 8, [.other .nilFunc]⟩
def ty63 : TI := ⟨.func, 1, 8, [.other .nilFunc]⟩
def ty64 : TI := ⟨.func, 1, 8, [.other .nilFunc]⟩
def ty65 : TI := ⟨.func, 1, 8, [.other .nilFunc]⟩
def ty66 : TI := ⟨.func, 1, 8, [.other .nilFunc]⟩
def ty67 : TI := ⟨.func, 1, 8, [.other .nilFunc]⟩
def ty68 : TI := ⟨.func, 1, 8, [.other .nilFunc]⟩
def ty69 : TI := ⟨.int .u64, 1, 8, [.int .u64 0]⟩
def ty70 : TI := ⟨.func, 1, 8, [.other .nilFunc]⟩
def ty71 : TI := ⟨.struct [(0, 1, false), (1, 1, false), (2, 1, false), (3, 1, false)], 4, 40, [.other (.pointer none), .other (.pointer none), .other (.pointer none), .str ByteArray.empty]⟩
def ty72 : TI := ⟨.struct [(0, 1, false), (1, 1, false), (2, 1, false), (3, 1, false)], 4, 40, [.other (.pointer none), .other (.pointer none), .other (.pointer none), .str ByteArray.empty]⟩
def ty73 : TI := ⟨.array 0 16, 0, 0, []⟩
def ty76 : TI := ⟨.int .u32, 1, 4, [.int .u32 0]⟩
def ty77 : TI := ⟨.int .u8, 1, 1, [.int .u8 0]⟩
def ty78 : TI := ⟨.int .u8, 1, 1, [.int .u8 0]⟩
def ty79 : TI := ⟨.func, 1, 8, [.other .nilFunc]⟩
def ty80 : TI := ⟨.ptr 5, 1, 8, [.other (.pointer none)]⟩
def ty81 : TI := ⟨.int .i32, 1, 4, [.int .i32 0]⟩
def ty82 : TI := ⟨.int .i32, 1, 4, [.int .i32 0]⟩
def ty83 : TI := ⟨.struct [(0, 1, false), (1, 1, false), (2, 1, false), (3, 1, false), (4, 1, false), (5, 1, false), (6, 1, false), (7, 1, false), (8, 1, false), (9, 1, false), (10, 1, false)], 11, 48, [.int .u64 0, .int .u64 0, .int .u32 0, .int .u8 0, .int .u8 0, .int .u8 0, .int .u8 0, .other .nilFunc, .other (.pointer none), .int .i32 0, .int .i32 0]⟩
def ty84 : TI := ⟨.struct [(0, 1, false), (1, 1, false), (2, 1, false), (3, 1, false), (4, 1, false), (5, 1, false), (6, 1, false), (7, 1, false), (8, 1, false), (9, 1, false), (10, 1, false)], 11, 48, [.int .u64 0, .int .u64 0, .int .u32 0, .int .u8 0, .int .u8 0, .int .u8 0, .int .u8 0, .other .nilFunc, .other (.pointer none), .int .i32 0, .int .i32 0]⟩
def ty85 : TI := ⟨.other, 1, 8, [.other (.pointer none)]⟩
inductive TT where
  | leaf
  | node (k : Nat) (x : TI) (l r : TT)
def TT.find : TT → Nat → Option TI
  | .leaf, _ => none
  | .node k x l r, t => match Nat.blt t k with
    | true => l.find t
    | false => match Nat.beq t k with
      | true => some x
      | false => r.find t
def TT.all (p : Nat → TI → Bool) : TT → Bool
  | .leaf => true
  | .node k x l r => p k x && l.all p && r.all p
theorem TT.find_all {p : Nat → TI → Bool} : ∀ {T : TT} {t : Nat} {ti : TI}, T.all p = true → T.find t = some ti → p t ti = true
  | .leaf, _, _, _, h => by cases h
  | .node k x l r, t, ti, ha, h => by
    simp only [TT.all, Bool.and_eq_true] at ha
    unfold TT.find at h
    split at h
    · exact TT.find_all ha.1.2 h
    · split at h
      · rename_i e
        injection h with h
        subst h
        rw [Nat.eq_of_beq_eq_true e]
        exact ha.1.1
      · exact TT.find_all ha.2 h
def tyTree : TT := (.node 44 ty44 (.node 21 ty21 (.node 11 ty11 (.node 6 ty6 (.node 3 ty3 (.node 2 ty2 (.node 1 ty1 .leaf .leaf) .leaf) (.node 5 ty5 (.node 4 ty4 .leaf .leaf) .leaf)) (.node 9 ty9 (.node 8 ty8 (.node 7 ty7 .leaf .leaf) .leaf) (.node 10 ty10 .leaf .leaf))) (.node 16 ty16 (.node 14 ty14 (.node 13 ty13 (.node 12 ty12 .leaf .leaf) .leaf) (.node 15 ty15 .leaf .leaf)) (.node 19 ty19 (.node 18 ty18 (.node 17 ty17 .leaf .leaf) .leaf) (.node 20 ty20 .leaf .leaf)))) (.node 33 ty33 (.node 26 ty26 (.node 24 ty24 (.node 23 ty23 (.node 22 ty22 .leaf .leaf) .leaf) (.node 25 ty25 .leaf .leaf)) (.node 30 ty30 (.node 29 ty29 (.node 27 ty27 .leaf .leaf) .leaf) (.node 32 ty32 .leaf .leaf))) (.node 39 ty39 (.node 37 ty37 (.node 36 ty36 (.node 35 ty35 .leaf .leaf) .leaf) (.node 38 ty38 .leaf .leaf)) (.node 42 ty42 (.node 41 ty41 (.node 40 ty40 .leaf .leaf) .leaf) (.node 43 ty43 .leaf .leaf))))) (.node 64 ty64 (.node 54 ty54 (.node 49 ty49 (.node 47 ty47 (.node 46 ty46 (.node 45 ty45 .leaf .leaf) .leaf) (.node 48 ty48 .leaf .leaf)) (.node 52 ty52 (.node 51 ty51 (.node 50 ty50 .leaf .leaf) .leaf) (.node 53 ty53 .leaf .leaf))) (.node 59 ty59 (.node 57 ty57 (.node 56 ty56 (.node 55 ty55 .leaf .leaf) .leaf) (.node 58 ty58 .leaf .leaf)) (.node 62 ty62 (.node 61 ty61 (.node 60 ty60 .leaf .leaf) .leaf) (.node 63 ty63 .leaf .leaf)))) (.node 76 ty76 (.node 69 ty69 (.node 67 ty67 (.node 66 ty66 (.node 65 ty65 .leaf .leaf) .leaf) (.node 68 ty68 .leaf .leaf)) (.node 72 ty72 (.node 71 ty71 (.node 70 ty70 .leaf .leaf) .leaf) (.node 73 ty73 .leaf .leaf))) (.node 81 ty81 (.node 79 ty79 (.node 78 ty78 (.node 77 ty77 .leaf .leaf) .leaf) (.node 80 ty80 .leaf .leaf)) (.node 84 ty84 (.node 83 ty83 (.node 82 ty82 .leaf .leaf) .leaf) (.node 85 ty85 .leaf .leaf))))))
def Ty (t : TypeId) : Option TI := tyTree.find t
set_option maxRecDepth 100000
theorem tyChecked : tyTree.all (chk Try.prog) = true := by kernel_rfl
theorem drawsOk : Try.prog.follows .mixedOrders = true := by kernel_rfl
theorem tyOk : TOk Try.prog Ty := fun _ _ h => TT.find_all tyChecked h
theorem tyAt1 : Ty 1 = some ⟨.func, 1, 8, [.other .nilFunc]⟩ := rfl
theorem tyAt2 : Ty 2 = some ⟨.int .i64, 1, 8, [.int .i64 0]⟩ := rfl
theorem tyAt3 : Ty 3 = some ⟨.int .i64, 1, 8, [.int .i64 0]⟩ := rfl
theorem tyAt4 : Ty 4 = some ⟨.bool, 1, 1, [.bool false]⟩ := rfl
theorem tyAt5 : Ty 5 = some ⟨.int .u8, 1, 1, [.int .u8 0]⟩ := rfl
theorem tyAt6 : Ty 6 = some ⟨.int .u8, 1, 1, [.int .u8 0]⟩ := rfl
theorem tyAt7 : Ty 7 = some ⟨.struct [(0, 1, false), (1, 1, false), (2, 1, false), (3, 1, false)], 4, 24, [.int .i64 0, .int .i64 0, .bool false, .int .u8 0]⟩ := rfl
theorem tyAt8 : Ty 8 = some ⟨.struct [(0, 1, false), (1, 1, false), (2, 1, false), (3, 1, false)], 4, 24, [.int .i64 0, .int .i64 0, .bool false, .int .u8 0]⟩ := rfl
theorem tyAt9 : Ty 9 = some ⟨.str, 1, 16, [.str ByteArray.empty]⟩ := rfl
theorem tyAt10 : Ty 10 = some ⟨.str, 1, 16, [.str ByteArray.empty]⟩ := rfl
theorem tyAt11 : Ty 11 = some ⟨.str, 1, 16, [.str ByteArray.empty]⟩ := rfl
theorem tyAt12 : Ty 12 = some ⟨.int .u64, 1, 8, [.int .u64 0]⟩ := rfl
theorem tyAt13 : Ty 13 = some ⟨.struct [(0, 1, false), (1, 1, false)], 2, 24, [.str ByteArray.empty, .int .u64 0]⟩ := rfl
theorem tyAt14 : Ty 14 = some ⟨.struct [(0, 1, false), (1, 1, false)], 2, 24, [.str ByteArray.empty, .int .u64 0]⟩ := rfl
theorem tyAt15 : Ty 15 = some ⟨.ptr 72, 1, 8, [.other (.pointer none)]⟩ := rfl
theorem tyAt16 : Ty 16 = some ⟨.ptr 75, 1, 8, [.other (.pointer none)]⟩ := rfl
theorem tyAt17 : Ty 17 = some ⟨.ptr 84, 1, 8, [.other (.pointer none)]⟩ := rfl
theorem tyAt18 : Ty 18 = some ⟨.struct [(0, 1, false)], 1, 8, [.other (.pointer none)]⟩ := rfl
theorem tyAt19 : Ty 19 = some ⟨.struct [(0, 1, false)], 1, 8, [.other (.pointer none)]⟩ := rfl
theorem tyAt20 : Ty 20 = some ⟨.other, 1, 16, [.other .nilIface]⟩ := rfl
theorem tyAt21 : Ty 21 = some ⟨.int .i32, 1, 4, [.int .i32 0]⟩ := rfl
theorem tyAt22 : Ty 22 = some ⟨.slice 5, 1, 24, [.list []]⟩ := rfl
theorem tyAt23 : Ty 23 = some ⟨.func, 1, 8, [.other .nilFunc]⟩ := rfl
theorem tyAt24 : Ty 24 = some ⟨.slice 9, 1, 24, [.list []]⟩ := rfl
theorem tyAt25 : Ty 25 = some ⟨.slice 44, 1, 24, [.list []]⟩ := rfl
theorem tyAt26 : Ty 26 = some ⟨.struct [(0, 1, false), (1, 1, false)], 2, 48, [.list [], .list []]⟩ := rfl
theorem tyAt27 : Ty 27 = some ⟨.struct [(0, 1, false), (1, 1, false)], 2, 48, [.list [], .list []]⟩ := rfl
theorem tyAt29 : Ty 29 = some ⟨.func, 1, 8, [.other .nilFunc]⟩ := rfl
theorem tyAt30 : Ty 30 = some ⟨.slice 3, 1, 24, [.list []]⟩ := rfl
theorem tyAt32 : Ty 32 = some ⟨.func, 1, 8, [.other .nilFunc]⟩ := rfl
theorem tyAt33 : Ty 33 = some ⟨.func, 1, 8, [.other .nilFunc]⟩ := rfl
theorem tyAt35 : Ty 35 = some ⟨.func, 1, 8, [.other .nilFunc]⟩ := rfl
theorem tyAt36 : Ty 36 = some ⟨.func, 1, 8, [.other .nilFunc]⟩ := rfl
theorem tyAt37 : Ty 37 = some ⟨.func, 1, 8, [.other .nilFunc]⟩ := rfl
theorem tyAt38 : Ty 38 = some ⟨.func, 1, 8, [.other .nilFunc]⟩ := rfl
theorem tyAt39 : Ty 39 = some ⟨.func, 1, 8, [.other .nilFunc]⟩ := rfl
theorem tyAt40 : Ty 40 = some ⟨.func, 1, 8, [.other .nilFunc]⟩ := rfl
theorem tyAt41 : Ty 41 = some ⟨.func, 1, 8, [.other .nilFunc]⟩ := rfl
theorem tyAt42 : Ty 42 = some ⟨.func, 1, 8, [.other .nilFunc]⟩ := rfl
theorem tyAt43 : Ty 43 = some ⟨.struct [(0, 1, false), (1, 1, false), (2, 1, false)], 3, 64, [.str ByteArray.empty, .list [], .list []]⟩ := rfl
theorem tyAt44 : Ty 44 = some ⟨.struct [(0, 1, false), (1, 1, false), (2, 1, false)], 3, 64, [.str ByteArray.empty, .list [], .list []]⟩ := rfl
theorem tyAt45 : Ty 45 = some ⟨.ptr 48, 1, 8, [.other (.pointer none)]⟩ := rfl
theorem tyAt46 : Ty 46 = some ⟨.int .u64, 1, 8, [.int .u64 0]⟩ := rfl
theorem tyAt47 : Ty 47 = some ⟨.struct [(0, 1, false), (1, 1, false), (2, 1, false)], 3, 40, [.list [], .int .i64 0, .int .u64 0]⟩ := rfl
theorem tyAt48 : Ty 48 = some ⟨.struct [(0, 1, false), (1, 1, false), (2, 1, false)], 3, 40, [.list [], .int .i64 0, .int .u64 0]⟩ := rfl
theorem tyAt49 : Ty 49 = some ⟨.func, 1, 8, [.other .nilFunc]⟩ := rfl
theorem tyAt50 : Ty 50 = some ⟨.func, 1, 8, [.other .nilFunc]⟩ := rfl
theorem tyAt51 : Ty 51 = some ⟨.func, 1, 8, [.other .nilFunc]⟩ := rfl
theorem tyAt52 : Ty 52 = some ⟨.func, 1, 8, [.other .nilFunc]⟩ := rfl
theorem tyAt53 : Ty 53 = some ⟨.func, 1, 8, [.other .nilFunc]⟩ := rfl
theorem tyAt54 : Ty 54 = some ⟨.func, 1, 8, [.other .nilFunc]⟩ := rfl
theorem tyAt55 : Ty 55 = some ⟨.func, 1, 8, [.other .nilFunc]⟩ := rfl
theorem tyAt56 : Ty 56 = some ⟨.func, 1, 8, [.other .nilFunc]⟩ := rfl
theorem tyAt57 : Ty 57 = some ⟨.func, 1, 8, [.other .nilFunc]⟩ := rfl
theorem tyAt58 : Ty 58 = some ⟨.func, 1, 8, [.other .nilFunc]⟩ := rfl
theorem tyAt59 : Ty 59 = some ⟨.func, 1, 8, [.other .nilFunc]⟩ := rfl
theorem tyAt60 : Ty 60 = some ⟨.func, 1, 8, [.other .nilFunc]⟩ := rfl
theorem tyAt61 : Ty 61 = some ⟨.func, 1, 8, [.other .nilFunc]⟩ := rfl
theorem tyAt62 : Ty 62 = some ⟨.func, 1, 8, [.other .nilFunc]⟩ := rfl
theorem tyAt63 : Ty 63 = some ⟨.func, 1, 8, [.other .nilFunc]⟩ := rfl
theorem tyAt64 : Ty 64 = some ⟨.func, 1, 8, [.other .nilFunc]⟩ := rfl
theorem tyAt65 : Ty 65 = some ⟨.func, 1, 8, [.other .nilFunc]⟩ := rfl
theorem tyAt66 : Ty 66 = some ⟨.func, 1, 8, [.other .nilFunc]⟩ := rfl
theorem tyAt67 : Ty 67 = some ⟨.func, 1, 8, [.other .nilFunc]⟩ := rfl
theorem tyAt68 : Ty 68 = some ⟨.func, 1, 8, [.other .nilFunc]⟩ := rfl
theorem tyAt69 : Ty 69 = some ⟨.int .u64, 1, 8, [.int .u64 0]⟩ := rfl
theorem tyAt70 : Ty 70 = some ⟨.func, 1, 8, [.other .nilFunc]⟩ := rfl
theorem tyAt71 : Ty 71 = some ⟨.struct [(0, 1, false), (1, 1, false), (2, 1, false), (3, 1, false)], 4, 40, [.other (.pointer none), .other (.pointer none), .other (.pointer none), .str ByteArray.empty]⟩ := rfl
theorem tyAt72 : Ty 72 = some ⟨.struct [(0, 1, false), (1, 1, false), (2, 1, false), (3, 1, false)], 4, 40, [.other (.pointer none), .other (.pointer none), .other (.pointer none), .str ByteArray.empty]⟩ := rfl
theorem tyAt73 : Ty 73 = some ⟨.array 0 16, 0, 0, []⟩ := rfl
theorem tyAt76 : Ty 76 = some ⟨.int .u32, 1, 4, [.int .u32 0]⟩ := rfl
theorem tyAt77 : Ty 77 = some ⟨.int .u8, 1, 1, [.int .u8 0]⟩ := rfl
theorem tyAt78 : Ty 78 = some ⟨.int .u8, 1, 1, [.int .u8 0]⟩ := rfl
theorem tyAt79 : Ty 79 = some ⟨.func, 1, 8, [.other .nilFunc]⟩ := rfl
theorem tyAt80 : Ty 80 = some ⟨.ptr 5, 1, 8, [.other (.pointer none)]⟩ := rfl
theorem tyAt81 : Ty 81 = some ⟨.int .i32, 1, 4, [.int .i32 0]⟩ := rfl
theorem tyAt82 : Ty 82 = some ⟨.int .i32, 1, 4, [.int .i32 0]⟩ := rfl
theorem tyAt83 : Ty 83 = some ⟨.struct [(0, 1, false), (1, 1, false), (2, 1, false), (3, 1, false), (4, 1, false), (5, 1, false), (6, 1, false), (7, 1, false), (8, 1, false), (9, 1, false), (10, 1, false)], 11, 48, [.int .u64 0, .int .u64 0, .int .u32 0, .int .u8 0, .int .u8 0, .int .u8 0, .int .u8 0, .other .nilFunc, .other (.pointer none), .int .i32 0, .int .i32 0]⟩ := rfl
theorem tyAt84 : Ty 84 = some ⟨.struct [(0, 1, false), (1, 1, false), (2, 1, false), (3, 1, false), (4, 1, false), (5, 1, false), (6, 1, false), (7, 1, false), (8, 1, false), (9, 1, false), (10, 1, false)], 11, 48, [.int .u64 0, .int .u64 0, .int .u32 0, .int .u8 0, .int .u8 0, .int .u8 0, .int .u8 0, .other .nilFunc, .other (.pointer none), .int .i32 0, .int .i32 0]⟩ := rfl
theorem tyAt85 : Ty 85 = some ⟨.other, 1, 8, [.other (.pointer none)]⟩ := rfl
end Go.Proofs.Yteoiohkdhdpkoaa
