/- The types of this program as the abstract machine reads them, and that the kernel holds them against the program. MADE BY PROGRAM (types.py). -/
import Derived.Test.YtingoclokmcmhaaProg
import Derived.Test.YtingoclokmcmhaaAmB
import Derived.KernelRfl
namespace Go.Proofs.Ytingoclokmcmhaa
open Go Go.Am

def ty1 : TI := ⟨.func, 1, 8, [.other .nilFunc]⟩
def ty2 : TI := ⟨.int .i64, 1, 8, [.int .i64 0]⟩
def ty3 : TI := ⟨.int .i64, 1, 8, [.int .i64 0]⟩
def ty4 : TI := ⟨.bool, 1, 1, [.bool false]⟩
def ty5 : TI := ⟨.int .u8, 1, 1, [.int .u8 0]⟩
def ty6 : TI := ⟨.int .u8, 1, 1, [.int .u8 0]⟩
def ty7 : TI := ⟨.struct [(0, 1, false), (1, 1, false), (2, 1, false), (3, 1, false)], 4, 24, [.int .i64 0, .int .i64 0, .bool false, .int .u8 0]⟩
def ty8 : TI := ⟨.struct [(0, 1, false), (1, 1, false), (2, 1, false), (3, 1, false)], 4, 24, [.int .i64 0, .int .i64 0, .bool false, .int .u8 0]⟩
def ty9 : TI := ⟨.str, 1, 16, [.str ByteArray.empty]⟩
def ty10 : TI := ⟨.str, 1, 16, [.str ByteArray.empty]⟩
def ty11 : TI := ⟨.str, 1, 16, [.str ByteArray.empty]⟩
def ty12 : TI := ⟨.int .u64, 1, 8, [.int .u64 0]⟩
def ty13 : TI := ⟨.struct [(0, 1, false), (1, 1, false)], 2, 24, [.str ByteArray.empty, .int .u64 0]⟩
def ty14 : TI := ⟨.struct [(0, 1, false), (1, 1, false)], 2, 24, [.str ByteArray.empty, .int .u64 0]⟩
def ty15 : TI := ⟨.ptr 120, 1, 8, [.other (.pointer none)]⟩
def ty16 : TI := ⟨.ptr 123, 1, 8, [.other (.pointer none)]⟩
def ty17 : TI := ⟨.ptr 133, 1, 8, [.other (.pointer none)]⟩
def ty18 : TI := ⟨.struct [(0, 1, false)], 1, 8, [.other (.pointer none)]⟩
def ty19 : TI := ⟨.struct [(0, 1, false)], 1, 8, [.other (.pointer none)]⟩
def ty20 : TI := ⟨.other, 1, 16, [.other .nilIface]⟩
def ty21 : TI := ⟨.int .i32, 1, 4, [.int .i32 0]⟩
def ty22 : TI := ⟨.slice 9, 1, 24, [.list []]⟩
def ty23 : TI := ⟨.slice 98, 1, 24, [.list []]⟩
def ty24 : TI := ⟨.struct [(0, 1, false), (1, 1, false)], 2, 48, [.list [], .list []]⟩
def ty25 : TI := ⟨.struct [(0, 1, false), (1, 1, false)], 2, 48, [.list [], .list []]⟩
def ty26 : TI := ⟨.slice 88, 1, 24, [.list []]⟩
def ty27 : TI := ⟨.struct [(0, 2, true), (2, 1, false)], 3, 72, [.list [], .list [], .list []]⟩
def ty28 : TI := ⟨.struct [(0, 2, true), (2, 1, false)], 3, 72, [.list [], .list [], .list []]⟩
def ty29 : TI := ⟨.slice 63, 1, 24, [.list []]⟩
def ty30 : TI := ⟨.func, 1, 8, [.other .nilFunc]⟩
def ty31 : TI := ⟨.func, 1, 8, [.other .nilFunc]⟩
def ty32 : TI := ⟨.slice 57, 1, 24, [.list []]⟩
def ty34 : TI := ⟨.func, 1, 8, [.other .nilFunc]⟩
def ty35 : TI := ⟨.slice 82, 1, 24, [.list []]⟩
def ty36 : TI := ⟨.struct [(0, 1, false), (1, 1, false)], 2, 48, [.list [], .list []]⟩
def ty37 : TI := ⟨.struct [(0, 1, false), (1, 1, false)], 2, 48, [.list [], .list []]⟩
def ty38 : TI := ⟨.slice 56, 1, 24, [.list []]⟩
def ty39 : TI := ⟨.struct [(0, 2, true), (2, 1, false)], 3, 72, [.list [], .list [], .list []]⟩
def ty40 : TI := ⟨.struct [(0, 2, true), (2, 1, false)], 3, 72, [.list [], .list [], .list []]⟩
def ty41 : TI := ⟨.func, 1, 8, [.other .nilFunc]⟩
def ty42 : TI := ⟨.slice 61, 1, 24, [.list []]⟩
def ty43 : TI := ⟨.func, 1, 8, [.other .nilFunc]⟩
def ty44 : TI := ⟨.func, 1, 8, [.other .nilFunc]⟩
def ty45 : TI := ⟨.func, 1, 8, [.other .nilFunc]⟩
def ty46 : TI := ⟨.func, 1, 8, [.other .nilFunc]⟩
def ty47 : TI := ⟨.func, 1, 8, [.other .nilFunc]⟩
def ty48 : TI := ⟨.func, 1, 8, [.other .nilFunc]⟩
def ty49 : TI := ⟨.func, 1, 8, [.other .nilFunc]⟩
def ty50 : TI := ⟨.func, 1, 8, [.other .nilFunc]⟩
def ty51 : TI := ⟨.func, 1, 8, [.other .nilFunc]⟩
def ty52 : TI := ⟨.func, 1, 8, [.other .nilFunc]⟩
def ty53 : TI := ⟨.func, 1, 8, [.other .nilFunc]⟩
def ty54 : TI := ⟨.func, 1, 8, [.other .nilFunc]⟩
def ty55 : TI := ⟨.struct [(0, 1, false), (1, 1, false), (2, 1, false)], 3, 24, [.int .i64 0, .int .i64 0, .int .i64 0]⟩
def ty56 : TI := ⟨.struct [(0, 1, false), (1, 1, false), (2, 1, false)], 3, 24, [.int .i64 0, .int .i64 0, .int .i64 0]⟩
def ty57 : TI := ⟨.slice 3, 1, 24, [.list []]⟩
def ty58 : TI := ⟨.func, 1, 8, [.other .nilFunc]⟩
def ty59 : TI := ⟨.func, 1, 8, [.other .nilFunc]⟩
def ty60 : TI := ⟨.struct [(0, 1, false), (1, 1, false)], 2, 16, [.int .i64 0, .int .i64 0]⟩
def ty61 : TI := ⟨.struct [(0, 1, false), (1, 1, false)], 2, 16, [.int .i64 0, .int .i64 0]⟩
def ty62 : TI := ⟨.func, 1, 8, [.other .nilFunc]⟩
def ty63 : TI := ⟨.struct [(0, 1, false), (1, 1, false)], 2, 16, [.int .i64 0, .int .i64 0]⟩
def ty64 : TI := ⟨.func, 1, 8, [.other .nilFunc]⟩
def ty65 : TI := ⟨.slice 68, 1, 24, [.list []]⟩
def ty66 : TI := ⟨.func, 1, 8, [.other .nilFunc]⟩
def ty67 : TI := ⟨.struct [(0, 3, true), (3, 1, false), (4, 1, false)], 5, 40, [.int .i64 0, .int .i64 0, .int .i64 0, .int .i64 0, .int .i64 0]⟩
def ty68 : TI := ⟨.struct [(0, 3, true), (3, 1, false), (4, 1, false)], 5, 40, [.int .i64 0, .int .i64 0, .int .i64 0, .int .i64 0, .int .i64 0]⟩
def ty69 : TI := ⟨.func, 1, 8, [.other .nilFunc]⟩
def ty70 : TI := ⟨.func, 1, 8, [.other .nilFunc]⟩
def ty71 : TI := ⟨.func, 1, 8, [.other .nilFunc]⟩
def ty72 : TI := ⟨.func, 1, 8, [.other .nilFunc]⟩
def ty73 : TI := ⟨.func, 1, 8, [.other .nilFunc]⟩
def ty74 : TI := ⟨.func, 1, 8, [.other .nilFunc]⟩
def ty75 : TI := ⟨.func, 1, 8, [.other .nilFunc]⟩
def ty76 : TI := ⟨.func, 1, 8, [.other .nilFunc]⟩
def ty77 : TI := ⟨.func, 1, 8, [.other .nilFunc]⟩
def ty78 : TI := ⟨.func, 1, 8, [.other .nilFunc]⟩
def ty79 : TI := ⟨.func, 1, 8, [.other .nilFunc]⟩
def ty80 : TI := ⟨.func, 1, 8, [.other .nilFunc]⟩
def ty81 : TI := ⟨.struct [(0, 1, false), (1, 1, false), (2, 1, false)], 3, 64, [.str ByteArray.empty, .list [], .list []]⟩
def ty82 : TI := ⟨.struct [(0, 1, false), (1, 1, false), (2, 1, false)], 3, 64, [.str ByteArray.empty, .list [], .list []]⟩
def ty83 : TI := ⟨.func, 1, 8, [.other .nilFunc]⟩
def ty84 : TI := ⟨.func, 1, 8, [.other .nilFunc]⟩
def ty85 : TI := ⟨.func, 1, 8, [.other .nilFunc]⟩
def ty86 : TI := ⟨.func, 1, 8, [.other .nilFunc]⟩
def ty87 : TI := ⟨.func, 1, 8, [.other .nilFunc]⟩
def ty88 : TI := ⟨.struct [(0, 1, false), (1, 1, false), (2, 1, false)], 3, 24, [.int .i64 0, .int .i64 0, .int .i64 0]⟩
def ty89 : TI := ⟨.func, 1, 8, [.other .nilFunc]⟩
def ty90 : TI := ⟨.func, 1, 8, [.other .nilFunc]⟩
def ty91 : TI := ⟨.func, 1, 8, [.other .nilFunc]⟩
def ty92 : TI := ⟨.func, 1, 8, [.other .nilFunc]⟩
def ty93 : TI := ⟨.func, 1, 8, [.other .nilFunc]⟩
def ty94 : TI := ⟨.func, 1, 8, [.other .nilFunc]⟩
def ty95 : TI := ⟨.func, 1, 8, [.other .nilFunc]⟩
def ty96 : TI := ⟨.func, 1, 8, [.other .nilFunc]⟩
def ty97 : TI := ⟨.func, 1, 8, [.other .nilFunc]⟩
def ty98 : TI := ⟨.struct [(0, 1, false), (1, 1, false), (2, 1, false)], 3, 64, [.str ByteArray.empty, .list [], .list []]⟩
def ty99 : TI := ⟨.func, 1, 8, [.other .nilFunc]⟩
def ty100 : TI := ⟨.func, 1, 8, [.other .nilFunc]⟩
def ty101 : TI := ⟨.func, 1, 8, [.other .nilFunc]⟩
def ty102 : TI := ⟨.func, 1, 8, [.other .nilFunc]⟩
def ty103 : TI := ⟨.func, 1, 8, [.other .nilFunc]⟩
def ty104 : TI := ⟨.func, 1, 8, [.other .nilFunc]⟩
def ty105 : TI := ⟨.func, 1, 8, [.other .nilFunc]⟩
def ty106 : TI := ⟨.slice 5, 1, 24, [.list []]⟩
def ty107 : TI := ⟨.func, 1, 8, [.other .nilFunc]⟩
def ty108 : TI := ⟨.func, 1, 8, [.other .nilFunc]⟩
def ty109 : TI := ⟨.func, 1, 8, [.other .nilFunc]⟩
def ty110 : TI := ⟨.func, 1, 8, [.other .nilFunc]⟩
def ty111 : TI := ⟨.func, 1, 8, [.other .nilFunc]⟩
def ty112 : TI := ⟨.func, 1, 8, [.other .nilFunc]⟩
def ty113 : TI := ⟨.func, 1, 8, [.other .nilFunc]⟩
def ty114 : TI := ⟨.func, 1, 8, [.other .nilFunc]⟩
def ty115 : TI := ⟨.func, 1, 8, [.other .nilFunc]⟩
def ty116 : TI := ⟨.func, 1, 8, [.other .nilFunc]⟩
def ty117 : TI := ⟨.func, 1, 8, [.other .nilFunc]⟩
def ty118 : TI := ⟨.func, 1, 8, [.other .nilFunc]⟩
def ty119 : TI := ⟨.struct [(0, 1, false), (1, 1, false), (2, 1, false), (3, 1, false)], 4, 40, [.other (.pointer none), .other (.pointer none), .other (.pointer none), .str ByteArray.empty]⟩
def ty120 : TI := ⟨.struct [(0, 1, false), (1, 1, false), (2, 1, false), (3, 1, false)], 4, 40, [.other (.pointer none), .other (.pointer none), .other (.pointer none), .str ByteArray.empty]⟩
def ty121 : TI := ⟨.array 0 16, 0, 0, []⟩
def ty124 : TI := ⟨.func, 1, 8, [.other .nilFunc]⟩
def ty125 : TI := ⟨.int .u32, 1, 4, [.int .u32 0]⟩
def ty126 : TI := ⟨.int .u8, 1, 1, [.int .u8 0]⟩
def ty127 : TI := ⟨.int .u8, 1, 1, [.int .u8 0]⟩
def ty128 : TI := ⟨.func, 1, 8, [.other .nilFunc]⟩
def ty129 : TI := ⟨.ptr 5, 1, 8, [.other (.pointer none)]⟩
def ty130 : TI := ⟨.int .i32, 1, 4, [.int .i32 0]⟩
def ty131 : TI := ⟨.int .i32, 1, 4, [.int .i32 0]⟩
def ty132 : TI := ⟨.struct [(0, 1, false), (1, 1, false), (2, 1, false), (3, 1, false), (4, 1, false), (5, 1, false), (6, 1, false), (7, 1, false), (8, 1, false), (9, 1, false), (10, 1, false)], 11, 48, [.int .u64 0, .int .u64 0, .int .u32 0, .int .u8 0, .int .u8 0, .int .u8 0, .int .u8 0, .other .nilFunc, .other (.pointer none), .int .i32 0, .int .i32 0]⟩
def ty133 : TI := ⟨.struct [(0, 1, false), (1, 1, false), (2, 1, false), (3, 1, false), (4, 1, false), (5, 1, false), (6, 1, false), (7, 1, false), (8, 1, false), (9, 1, false), (10, 1, false)], 11, 48, [.int .u64 0, .int .u64 0, .int .u32 0, .int .u8 0, .int .u8 0, .int .u8 0, .int .u8 0, .other .nilFunc, .other (.pointer none), .int .i32 0, .int .i32 0]⟩
def ty134 : TI := ⟨.other, 1, 8, [.other (.pointer none)]⟩
inductive TT where
  | leaf
  | node (k : Nat) (x : TI) (l r : TT)
def TT.find : TT → Nat → Option TI
  | .leaf, _ => none
  | .node k x l r, t => match Nat.blt t k with
    | true => l.find t
    | false => match Nat.beq t k with
      | true => some x
      | false => r.find t
def TT.all (p : Nat → TI → Bool) : TT → Bool
  | .leaf => true
  | .node k x l r => p k x && l.all p && r.all p
theorem TT.find_all {p : Nat → TI → Bool} : ∀ {T : TT} {t : Nat} {ti : TI}, T.all p = true → T.find t = some ti → p t ti = true
  | .leaf, _, _, _, h => by cases h
  | .node k x l r, t, ti, ha, h => by
    simp only [TT.all, Bool.and_eq_true] at ha
    unfold TT.find at h
    split at h
    · exact TT.find_all ha.1.2 h
    · split at h
      · rename_i e
        injection h with h
        subst h
        rw [Nat.eq_of_beq_eq_true e]
        exact ha.1.1
      · exact TT.find_all ha.2 h
def tyTree : TT := (.node 67 ty67 (.node 34 ty34 (.node 17 ty17 (.node 9 ty9 (.node 5 ty5 (.node 3 ty3 (.node 2 ty2 (.node 1 ty1 .leaf .leaf) .leaf) (.node 4 ty4 .leaf .leaf)) (.node 7 ty7 (.node 6 ty6 .leaf .leaf) (.node 8 ty8 .leaf .leaf))) (.node 13 ty13 (.node 11 ty11 (.node 10 ty10 .leaf .leaf) (.node 12 ty12 .leaf .leaf)) (.node 15 ty15 (.node 14 ty14 .leaf .leaf) (.node 16 ty16 .leaf .leaf)))) (.node 25 ty25 (.node 21 ty21 (.node 19 ty19 (.node 18 ty18 .leaf .leaf) (.node 20 ty20 .leaf .leaf)) (.node 23 ty23 (.node 22 ty22 .leaf .leaf) (.node 24 ty24 .leaf .leaf))) (.node 29 ty29 (.node 27 ty27 (.node 26 ty26 .leaf .leaf) (.node 28 ty28 .leaf .leaf)) (.node 31 ty31 (.node 30 ty30 .leaf .leaf) (.node 32 ty32 .leaf .leaf))))) (.node 51 ty51 (.node 43 ty43 (.node 39 ty39 (.node 37 ty37 (.node 36 ty36 (.node 35 ty35 .leaf .leaf) .leaf) (.node 38 ty38 .leaf .leaf)) (.node 41 ty41 (.node 40 ty40 .leaf .leaf) (.node 42 ty42 .leaf .leaf))) (.node 47 ty47 (.node 45 ty45 (.node 44 ty44 .leaf .leaf) (.node 46 ty46 .leaf .leaf)) (.node 49 ty49 (.node 48 ty48 .leaf .leaf) (.node 50 ty50 .leaf .leaf)))) (.node 59 ty59 (.node 55 ty55 (.node 53 ty53 (.node 52 ty52 .leaf .leaf) (.node 54 ty54 .leaf .leaf)) (.node 57 ty57 (.node 56 ty56 .leaf .leaf) (.node 58 ty58 .leaf .leaf))) (.node 63 ty63 (.node 61 ty61 (.node 60 ty60 .leaf .leaf) (.node 62 ty62 .leaf .leaf)) (.node 65 ty65 (.node 64 ty64 .leaf .leaf) (.node 66 ty66 .leaf .leaf)))))) (.node 100 ty100 (.node 84 ty84 (.node 76 ty76 (.node 72 ty72 (.node 70 ty70 (.node 69 ty69 (.node 68 ty68 .leaf .leaf) .leaf) (.node 71 ty71 .leaf .leaf)) (.node 74 ty74 (.node 73 ty73 .leaf .leaf) (.node 75 ty75 .leaf .leaf))) (.node 80 ty80 (.node 78 ty78 (.node 77 ty77 .leaf .leaf) (.node 79 ty79 .leaf .leaf)) (.node 82 ty82 (.node 81 ty81 .leaf .leaf) (.node 83 ty83 .leaf .leaf)))) (.node 92 ty92 (.node 88 ty88 (.node 86 ty86 (.node 85 ty85 .leaf .leaf) (.node 87 ty87 .leaf .leaf)) (.node 90 ty90 (.node 89 ty89 .leaf .leaf) (.node 91 ty91 .leaf .leaf))) (.node 96 ty96 (.node 94 ty94 (.node 93 ty93 .leaf .leaf) (.node 95 ty95 .leaf .leaf)) (.node 98 ty98 (.node 97 ty97 .leaf .leaf) (.node 99 ty99 .leaf .leaf))))) (.node 117 ty117 (.node 109 ty109 (.node 105 ty105 (.node 103 ty103 (.node 102 ty102 (.node 101 ty101 .leaf .leaf) .leaf) (.node 104 ty104 .leaf .leaf)) (.node 107 ty107 (.node 106 ty106 .leaf .leaf) (.node 108 ty108 .leaf .leaf))) (.node 113 ty113 (.node 111 ty111 (.node 110 ty110 .leaf .leaf) (.node 112 ty112 .leaf .leaf)) (.node 115 ty115 (.node 114 ty114 .leaf .leaf) (.node 116 ty116 .leaf .leaf)))) (.node 127 ty127 (.node 121 ty121 (.node 119 ty119 (.node 118 ty118 .leaf .leaf) (.node 120 ty120 .leaf .leaf)) (.node 125 ty125 (.node 124 ty124 .leaf .leaf) (.node 126 ty126 .leaf .leaf))) (.node 131 ty131 (.node 129 ty129 (.node 128 ty128 .leaf .leaf) (.node 130 ty130 .leaf .leaf)) (.node 133 ty133 (.node 132 ty132 .leaf .leaf) (.node 134 ty134 .leaf .leaf)))))))
def Ty (t : TypeId) : Option TI := tyTree.find t
set_option maxRecDepth 100000
theorem tyChecked : tyTree.all (chk Try.prog) = true := by kernel_rfl
theorem drawsOk : Try.prog.follows .mixedOrders = true := by kernel_rfl
theorem tyOk : TOk Try.prog Ty := fun _ _ h => TT.find_all tyChecked h
theorem tyAt1 : Ty 1 = some ⟨.func, 1, 8, [.other .nilFunc]⟩ := rfl
theorem tyAt2 : Ty 2 = some ⟨.int .i64, 1, 8, [.int .i64 0]⟩ := rfl
theorem tyAt3 : Ty 3 = some ⟨.int .i64, 1, 8, [.int .i64 0]⟩ := rfl
theorem tyAt4 : Ty 4 = some ⟨.bool, 1, 1, [.bool false]⟩ := rfl
theorem tyAt5 : Ty 5 = some ⟨.int .u8, 1, 1, [.int .u8 0]⟩ := rfl
theorem tyAt6 : Ty 6 = some ⟨.int .u8, 1, 1, [.int .u8 0]⟩ := rfl
theorem tyAt7 : Ty 7 = some ⟨.struct [(0, 1, false), (1, 1, false), (2, 1, false), (3, 1, false)], 4, 24, [.int .i64 0, .int .i64 0, .bool false, .int .u8 0]⟩ := rfl
theorem tyAt8 : Ty 8 = some ⟨.struct [(0, 1, false), (1, 1, false), (2, 1, false), (3, 1, false)], 4, 24, [.int .i64 0, .int .i64 0, .bool false, .int .u8 0]⟩ := rfl
theorem tyAt9 : Ty 9 = some ⟨.str, 1, 16, [.str ByteArray.empty]⟩ := rfl
theorem tyAt10 : Ty 10 = some ⟨.str, 1, 16, [.str ByteArray.empty]⟩ := rfl
theorem tyAt11 : Ty 11 = some ⟨.str, 1, 16, [.str ByteArray.empty]⟩ := rfl
theorem tyAt12 : Ty 12 = some ⟨.int .u64, 1, 8, [.int .u64 0]⟩ := rfl
theorem tyAt13 : Ty 13 = some ⟨.struct [(0, 1, false), (1, 1, false)], 2, 24, [.str ByteArray.empty, .int .u64 0]⟩ := rfl
theorem tyAt14 : Ty 14 = some ⟨.struct [(0, 1, false), (1, 1, false)], 2, 24, [.str ByteArray.empty, .int .u64 0]⟩ := rfl
theorem tyAt15 : Ty 15 = some ⟨.ptr 120, 1, 8, [.other (.pointer none)]⟩ := rfl
theorem tyAt16 : Ty 16 = some ⟨.ptr 123, 1, 8, [.other (.pointer none)]⟩ := rfl
theorem tyAt17 : Ty 17 = some ⟨.ptr 133, 1, 8, [.other (.pointer none)]⟩ := rfl
theorem tyAt18 : Ty 18 = some ⟨.struct [(0, 1, false)], 1, 8, [.other (.pointer none)]⟩ := rfl
theorem tyAt19 : Ty 19 = some ⟨.struct [(0, 1, false)], 1, 8, [.other (.pointer none)]⟩ := rfl
theorem tyAt20 : Ty 20 = some ⟨.other, 1, 16, [.other .nilIface]⟩ := rfl
theorem tyAt21 : Ty 21 = some ⟨.int .i32, 1, 4, [.int .i32 0]⟩ := rfl
theorem tyAt22 : Ty 22 = some ⟨.slice 9, 1, 24, [.list []]⟩ := rfl
theorem tyAt23 : Ty 23 = some ⟨.slice 98, 1, 24, [.list []]⟩ := rfl
theorem tyAt24 : Ty 24 = some ⟨.struct [(0, 1, false), (1, 1, false)], 2, 48, [.list [], .list []]⟩ := rfl
theorem tyAt25 : Ty 25 = some ⟨.struct [(0, 1, false), (1, 1, false)], 2, 48, [.list [], .list []]⟩ := rfl
theorem tyAt26 : Ty 26 = some ⟨.slice 88, 1, 24, [.list []]⟩ := rfl
theorem tyAt27 : Ty 27 = some ⟨.struct [(0, 2, true), (2, 1, false)], 3, 72, [.list [], .list [], .list []]⟩ := rfl
theorem tyAt28 : Ty 28 = some ⟨.struct [(0, 2, true), (2, 1, false)], 3, 72, [.list [], .list [], .list []]⟩ := rfl
theorem tyAt29 : Ty 29 = some ⟨.slice 63, 1, 24, [.list []]⟩ := rfl
theorem tyAt30 : Ty 30 = some ⟨.func, 1, 8, [.other .nilFunc]⟩ := rfl
theorem tyAt31 : Ty 31 = some ⟨.func, 1, 8, [.other .nilFunc]⟩ := rfl
theorem tyAt32 : Ty 32 = some ⟨.slice 57, 1, 24, [.list []]⟩ := rfl
theorem tyAt34 : Ty 34 = some ⟨.func, 1, 8, [.other .nilFunc]⟩ := rfl
theorem tyAt35 : Ty 35 = some ⟨.slice 82, 1, 24, [.list []]⟩ := rfl
theorem tyAt36 : Ty 36 = some ⟨.struct [(0, 1, false), (1, 1, false)], 2, 48, [.list [], .list []]⟩ := rfl
theorem tyAt37 : Ty 37 = some ⟨.struct [(0, 1, false), (1, 1, false)], 2, 48, [.list [], .list []]⟩ := rfl
theorem tyAt38 : Ty 38 = some ⟨.slice 56, 1, 24, [.list []]⟩ := rfl
theorem tyAt39 : Ty 39 = some ⟨.struct [(0, 2, true), (2, 1, false)], 3, 72, [.list [], .list [], .list []]⟩ := rfl
theorem tyAt40 : Ty 40 = some ⟨.struct [(0, 2, true), (2, 1, false)], 3, 72, [.list [], .list [], .list []]⟩ := rfl
theorem tyAt41 : Ty 41 = some ⟨.func, 1, 8, [.other .nilFunc]⟩ := rfl
theorem tyAt42 : Ty 42 = some ⟨.slice 61, 1, 24, [.list []]⟩ := rfl
theorem tyAt43 : Ty 43 = some ⟨.func, 1, 8, [.other .nilFunc]⟩ := rfl
theorem tyAt44 : Ty 44 = some ⟨.func, 1, 8, [.other .nilFunc]⟩ := rfl
theorem tyAt45 : Ty 45 = some ⟨.func, 1, 8, [.other .nilFunc]⟩ := rfl
theorem tyAt46 : Ty 46 = some ⟨.func, 1, 8, [.other .nilFunc]⟩ := rfl
theorem tyAt47 : Ty 47 = some ⟨.func, 1, 8, [.other .nilFunc]⟩ := rfl
theorem tyAt48 : Ty 48 = some ⟨.func, 1, 8, [.other .nilFunc]⟩ := rfl
theorem tyAt49 : Ty 49 = some ⟨.func, 1, 8, [.other .nilFunc]⟩ := rfl
theorem tyAt50 : Ty 50 = some ⟨.func, 1, 8, [.other .nilFunc]⟩ := rfl
theorem tyAt51 : Ty 51 = some ⟨.func, 1, 8, [.other .nilFunc]⟩ := rfl
theorem tyAt52 : Ty 52 = some ⟨.func, 1, 8, [.other .nilFunc]⟩ := rfl
theorem tyAt53 : Ty 53 = some ⟨.func, 1, 8, [.other .nilFunc]⟩ := rfl
theorem tyAt54 : Ty 54 = some ⟨.func, 1, 8, [.other .nilFunc]⟩ := rfl
theorem tyAt55 : Ty 55 = some ⟨.struct [(0, 1, false), (1, 1, false), (2, 1, false)], 3, 24, [.int .i64 0, .int .i64 0, .int .i64 0]⟩ := rfl
theorem tyAt56 : Ty 56 = some ⟨.struct [(0, 1, false), (1, 1, false), (2, 1, false)], 3, 24, [.int .i64 0, .int .i64 0, .int .i64 0]⟩ := rfl
theorem tyAt57 : Ty 57 = some ⟨.slice 3, 1, 24, [.list []]⟩ := rfl
theorem tyAt58 : Ty 58 = some ⟨.func, 1, 8, [.other .nilFunc]⟩ := rfl
theorem tyAt59 : Ty 59 = some ⟨.func, 1, 8, [.other .nilFunc]⟩ := rfl
theorem tyAt60 : Ty 60 = some ⟨.struct [(0, 1, false), (1, 1, false)], 2, 16, [.int .i64 0, .int .i64 0]⟩ := rfl
theorem tyAt61 : Ty 61 = some ⟨.struct [(0, 1, false), (1, 1, false)], 2, 16, [.int .i64 0, .int .i64 0]⟩ := rfl
theorem tyAt62 : Ty 62 = some ⟨.func, 1, 8, [.other .nilFunc]⟩ := rfl
theorem tyAt63 : Ty 63 = some ⟨.struct [(0, 1, false), (1, 1, false)], 2, 16, [.int .i64 0, .int .i64 0]⟩ := rfl
theorem tyAt64 : Ty 64 = some ⟨.func, 1, 8, [.other .nilFunc]⟩ := rfl
theorem tyAt65 : Ty 65 = some ⟨.slice 68, 1, 24, [.list []]⟩ := rfl
theorem tyAt66 : Ty 66 = some ⟨.func, 1, 8, [.other .nilFunc]⟩ := rfl
theorem tyAt67 : Ty 67 = some ⟨.struct [(0, 3, true), (3, 1, false), (4, 1, false)], 5, 40, [.int .i64 0, .int .i64 0, .int .i64 0, .int .i64 0, .int .i64 0]⟩ := rfl
theorem tyAt68 : Ty 68 = some ⟨.struct [(0, 3, true), (3, 1, false), (4, 1, false)], 5, 40, [.int .i64 0, .int .i64 0, .int .i64 0, .int .i64 0, .int .i64 0]⟩ := rfl
theorem tyAt69 : Ty 69 = some ⟨.func, 1, 8, [.other .nilFunc]⟩ := rfl
theorem tyAt70 : Ty 70 = some ⟨.func, 1, 8, [.other .nilFunc]⟩ := rfl
theorem tyAt71 : Ty 71 = some ⟨.func, 1, 8, [.other .nilFunc]⟩ := rfl
theorem tyAt72 : Ty 72 = some ⟨.func, 1, 8, [.other .nilFunc]⟩ := rfl
theorem tyAt73 : Ty 73 = some ⟨.func, 1, 8, [.other .nilFunc]⟩ := rfl
theorem tyAt74 : Ty 74 = some ⟨.func, 1, 8, [.other .nilFunc]⟩ := rfl
theorem tyAt75 : Ty 75 = some ⟨.func, 1, 8, [.other .nilFunc]⟩ := rfl
theorem tyAt76 : Ty 76 = some ⟨.func, 1, 8, [.other .nilFunc]⟩ := rfl
theorem tyAt77 : Ty 77 = some ⟨.func, 1, 8, [.other .nilFunc]⟩ := rfl
theorem tyAt78 : Ty 78 = some ⟨.func, 1, 8, [.other .nilFunc]⟩ := rfl
theorem tyAt79 : Ty 79 = some ⟨.func, 1, 8, [.other .nilFunc]⟩ := rfl
theorem tyAt80 : Ty 80 = some ⟨.func, 1, 8, [.other .nilFunc]⟩ := rfl
theorem tyAt81 : Ty 81 = some ⟨.struct [(0, 1, false), (1, 1, false), (2, 1, false)], 3, 64, [.str ByteArray.empty, .list [], .list []]⟩ := rfl
theorem tyAt82 : Ty 82 = some ⟨.struct [(0, 1, false), (1, 1, false), (2, 1, false)], 3, 64, [.str ByteArray.empty, .list [], .list []]⟩ := rfl
theorem tyAt83 : Ty 83 = some ⟨.func, 1, 8, [.other .nilFunc]⟩ := rfl
theorem tyAt84 : Ty 84 = some ⟨.func, 1, 8, [.other .nilFunc]⟩ := rfl
theorem tyAt85 : Ty 85 = some ⟨.func, 1, 8, [.other .nilFunc]⟩ := rfl
theorem tyAt86 : Ty 86 = some ⟨.func, 1, 8, [.other .nilFunc]⟩ := rfl
theorem tyAt87 : Ty 87 = some ⟨.func, 1, 8, [.other .nilFunc]⟩ := rfl
theorem tyAt88 : Ty 88 = some ⟨.struct [(0, 1, false), (1, 1, false), (2, 1, false)], 3, 24, [.int .i64 0, .int .i64 0, .int .i64 0]⟩ := rfl
theorem tyAt89 : Ty 89 = some ⟨.func, 1, 8, [.other .nilFunc]⟩ := rfl
theorem tyAt90 : Ty 90 = some ⟨.func, 1, 8, [.other .nilFunc]⟩ := rfl
theorem tyAt91 : Ty 91 = some ⟨.func, 1, 8, [.other .nilFunc]⟩ := rfl
theorem tyAt92 : Ty 92 = some ⟨.func, 1, 8, [.other .nilFunc]⟩ := rfl
theorem tyAt93 : Ty 93 = some ⟨.func, 1, 8, [.other .nilFunc]⟩ := rfl
theorem tyAt94 : Ty 94 = some ⟨.func, 1, 8, [.other .nilFunc]⟩ := rfl
theorem tyAt95 : Ty 95 = some ⟨.func, 1, 8, [.other .nilFunc]⟩ := rfl
theorem tyAt96 : Ty 96 = some ⟨.func, 1, 8, [.other .nilFunc]⟩ := rfl
theorem tyAt97 : Ty 97 = some ⟨.func, 1, 8, [.other .nilFunc]⟩ := rfl
theorem tyAt98 : Ty 98 = some ⟨.struct [(0, 1, false), (1, 1, false), (2, 1, false)], 3, 64, [.str ByteArray.empty, .list [], .list []]⟩ := rfl
theorem tyAt99 : Ty 99 = some ⟨.func, 1, 8, [.other .nilFunc]⟩ := rfl
theorem tyAt100 : Ty 100 = some ⟨.func, 1, 8, [.other .nilFunc]⟩ := rfl
theorem tyAt101 : Ty 101 = some ⟨.func, 1, 8, [.other .nilFunc]⟩ := rfl
theorem tyAt102 : Ty 102 = some ⟨.func, 1, 8, [.other .nilFunc]⟩ := rfl
theorem tyAt103 : Ty 103 = some ⟨.func, 1, 8, [.other .nilFunc]⟩ := rfl
theorem tyAt104 : Ty 104 = some ⟨.func, 1, 8, [.other .nilFunc]⟩ := rfl
theorem tyAt105 : Ty 105 = some ⟨.func, 1, 8, [.other .nilFunc]⟩ := rfl
theorem tyAt106 : Ty 106 = some ⟨.slice 5, 1, 24, [.list []]⟩ := rfl
theorem tyAt107 : Ty 107 = some ⟨.func, 1, 8, [.other .nilFunc]⟩ := rfl
theorem tyAt108 : Ty 108 = some ⟨.func, 1, 8, [.other .nilFunc]⟩ := rfl
theorem tyAt109 : Ty 109 = some ⟨.func, 1, 8, [.other .nilFunc]⟩ := rfl
theorem tyAt110 : Ty 110 = some ⟨.func, 1, 8, [.other .nilFunc]⟩ := rfl
theorem tyAt111 : Ty 111 = some ⟨.func, 1, 8, [.other .nilFunc]⟩ := rfl
theorem tyAt112 : Ty 112 = some ⟨.func, 1, 8, [.other .nilFunc]⟩ := rfl
theorem tyAt113 : Ty 113 = some ⟨.func, 1, 8, [.other .nilFunc]⟩ := rfl
theorem tyAt114 : Ty 114 = some ⟨.func, 1, 8, [.other .nilFunc]⟩ := rfl
theorem tyAt115 : Ty 115 = some ⟨.func, 1, 8, [.other .nilFunc]⟩ := rfl
theorem tyAt116 : Ty 116 = some ⟨.func, 1, 8, [.other .nilFunc]⟩ := rfl
theorem tyAt117 : Ty 117 = some ⟨.func, 1, 8, [.other .nilFunc]⟩ := rfl
theorem tyAt118 : Ty 118 = some ⟨.func, 1, 8, [.other .nilFunc]⟩ := rfl
theorem tyAt119 : Ty 119 = some ⟨.struct [(0, 1, false), (1, 1, false), (2, 1, false), (3, 1, false)], 4, 40, [.other (.pointer none), .other (.pointer none), .other (.pointer none), .str ByteArray.empty]⟩ := rfl
theorem tyAt120 : Ty 120 = some ⟨.struct [(0, 1, false), (1, 1, false), (2, 1, false), (3, 1, false)], 4, 40, [.other (.pointer none), .other (.pointer none), .other (.pointer none), .str ByteArray.empty]⟩ := rfl
theorem tyAt121 : Ty 121 = some ⟨.array 0 16, 0, 0, []⟩ := rfl
theorem tyAt124 : Ty 124 = some ⟨.func, 1, 8, [.other .nilFunc]⟩ := rfl
theorem tyAt125 : Ty 125 = some ⟨.int .u32, 1, 4, [.int .u32 0]⟩ := rfl
theorem tyAt126 : Ty 126 = some ⟨.int .u8, 1, 1, [.int .u8 0]⟩ := rfl
theorem tyAt127 : Ty 127 = some ⟨.int .u8, 1, 1, [.int .u8 0]⟩ := rfl
theorem tyAt128 : Ty 128 = some ⟨.func, 1, 8, [.other .nilFunc]⟩ := rfl
theorem tyAt129 : Ty 129 = some ⟨.ptr 5, 1, 8, [.other (.pointer none)]⟩ := rfl
theorem tyAt130 : Ty 130 = some ⟨.int .i32, 1, 4, [.int .i32 0]⟩ := rfl
theorem tyAt131 : Ty 131 = some ⟨.int .i32, 1, 4, [.int .i32 0]⟩ := rfl
theorem tyAt132 : Ty 132 = some ⟨.struct [(0, 1, false), (1, 1, false), (2, 1, false), (3, 1, false), (4, 1, false), (5, 1, false), (6, 1, false), (7, 1, false), (8, 1, false), (9, 1, false), (10, 1, false)], 11, 48, [.int .u64 0, .int .u64 0, .int .u32 0, .int .u8 0, .int .u8 0, .int .u8 0, .int .u8 0, .other .nilFunc, .other (.pointer none), .int .i32 0, .int .i32 0]⟩ := rfl
theorem tyAt133 : Ty 133 = some ⟨.struct [(0, 1, false), (1, 1, false), (2, 1, false), (3, 1, false), (4, 1, false), (5, 1, false), (6, 1, false), (7, 1, false), (8, 1, false), (9, 1, false), (10, 1, false)], 11, 48, [.int .u64 0, .int .u64 0, .int .u32 0, .int .u8 0, .int .u8 0, .int .u8 0, .int .u8 0, .other .nilFunc, .other (.pointer none), .int .i32 0, .int .i32 0]⟩ := rfl
theorem tyAt134 : Ty 134 = some ⟨.other, 1, 8, [.other (.pointer none)]⟩ := rfl
end Go.Proofs.Ytingoclokmcmhaa
