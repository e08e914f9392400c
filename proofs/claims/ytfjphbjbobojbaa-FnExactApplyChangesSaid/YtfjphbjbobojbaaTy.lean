/- The types of this program as the abstract machine reads them, and that the kernel holds them against the program. MADE BY PROGRAM (types.py). -/
import Derived.Test.YtfjphbjbobojbaaProg
import Derived.Test.YtfjphbjbobojbaaAmB
import Derived.KernelRfl
namespace Go.Proofs.Ytfjphbjbobojbaa
open Go Go.Am

def ty1 : TI := ⟨.func, 1, 8, [.other .nilFunc]⟩
def ty2 : TI := ⟨.int .i64, 1, 8, [.int .i64 0]⟩
def ty3 : TI := ⟨.int .i64, 1, 8, [.int .i64 0]⟩
def ty4 : TI := ⟨.bool, 1, 1, [.bool false]⟩
def ty5 : TI := ⟨.int .u8, 1, 1, [.int .u8 0]⟩
def ty6 : TI := ⟨.int .u8, 1, 1, [.int .u8 0]⟩
def ty7 : TI := ⟨.struct [(0, 1, false), (1, 1, false), (2, 1, false), (3, 1, false)], 4, 24, [.int .i64 0, .int .i64 0, .bool false, .int .u8 0]⟩
def ty8 : TI := ⟨.struct [(0, 1, false), (1, 1, false), (2, 1, false), (3, 1, false)], 4, 24, [.int .i64 0, .int .i64 0, .bool false, .int .u8 0]⟩
def ty9 : TI := ⟨.str, 1, 16, [.str ByteArray.empty]⟩
def ty10 : TI := ⟨.str, 1, 16, [.str ByteArray.empty]⟩
def ty11 : TI := ⟨.str, 1, 16, [.str ByteArray.empty]⟩
def ty12 : TI := ⟨.int .u64, 1, 8, [.int .u64 0]⟩
def ty13 : TI := ⟨.struct [(0, 1, false), (1, 1, false)], 2, 24, [.str ByteArray.empty, .int .u64 0]⟩
def ty14 : TI := ⟨.struct [(0, 1, false), (1, 1, false)], 2, 24, [.str ByteArray.empty, .int .u64 0]⟩
def ty15 : TI := ⟨.ptr 121, 1, 8, [.other (.pointer none)]⟩
def ty16 : TI := ⟨.ptr 124, 1, 8, [.other (.pointer none)]⟩
def ty17 : TI := ⟨.ptr 134, 1, 8, [.other (.pointer none)]⟩
def ty18 : TI := ⟨.struct [(0, 1, false)], 1, 8, [.other (.pointer none)]⟩
def ty19 : TI := ⟨.struct [(0, 1, false)], 1, 8, [.other (.pointer none)]⟩
def ty20 : TI := ⟨.other, 1, 16, [.other .nilIface]⟩
def ty21 : TI := ⟨.int .i32, 1, 4, [.int .i32 0]⟩
def ty22 : TI := ⟨.slice 9, 1, 24, [.list []]⟩
def ty23 : TI := ⟨.slice 86, 1, 24, [.list []]⟩
def ty24 : TI := ⟨.struct [(0, 1, false), (1, 1, false)], 2, 48, [.list [], .list []]⟩
def ty25 : TI := ⟨.struct [(0, 1, false), (1, 1, false)], 2, 48, [.list [], .list []]⟩
def ty26 : TI := ⟨.slice 58, 1, 24, [.list []]⟩
def ty27 : TI := ⟨.struct [(0, 2, true), (2, 1, false)], 3, 72, [.list [], .list [], .list []]⟩
def ty28 : TI := ⟨.struct [(0, 2, true), (2, 1, false)], 3, 72, [.list [], .list [], .list []]⟩
def ty29 : TI := ⟨.slice 60, 1, 24, [.list []]⟩
def ty30 : TI := ⟨.func, 1, 8, [.other .nilFunc]⟩
def ty31 : TI := ⟨.func, 1, 8, [.other .nilFunc]⟩
def ty32 : TI := ⟨.slice 90, 1, 24, [.list []]⟩
def ty33 : TI := ⟨.struct [(0, 1, false), (1, 1, false)], 2, 48, [.list [], .list []]⟩
def ty34 : TI := ⟨.struct [(0, 1, false), (1, 1, false)], 2, 48, [.list [], .list []]⟩
def ty35 : TI := ⟨.slice 54, 1, 24, [.list []]⟩
def ty36 : TI := ⟨.struct [(0, 2, true), (2, 1, false)], 3, 72, [.list [], .list [], .list []]⟩
def ty37 : TI := ⟨.struct [(0, 2, true), (2, 1, false)], 3, 72, [.list [], .list [], .list []]⟩
def ty39 : TI := ⟨.func, 1, 8, [.other .nilFunc]⟩
def ty40 : TI := ⟨.func, 1, 8, [.other .nilFunc]⟩
def ty41 : TI := ⟨.slice 56, 1, 24, [.list []]⟩
def ty42 : TI := ⟨.func, 1, 8, [.other .nilFunc]⟩
def ty43 : TI := ⟨.func, 1, 8, [.other .nilFunc]⟩
def ty44 : TI := ⟨.func, 1, 8, [.other .nilFunc]⟩
def ty45 : TI := ⟨.func, 1, 8, [.other .nilFunc]⟩
def ty46 : TI := ⟨.func, 1, 8, [.other .nilFunc]⟩
def ty47 : TI := ⟨.func, 1, 8, [.other .nilFunc]⟩
def ty48 : TI := ⟨.func, 1, 8, [.other .nilFunc]⟩
def ty49 : TI := ⟨.func, 1, 8, [.other .nilFunc]⟩
def ty50 : TI := ⟨.func, 1, 8, [.other .nilFunc]⟩
def ty51 : TI := ⟨.func, 1, 8, [.other .nilFunc]⟩
def ty52 : TI := ⟨.func, 1, 8, [.other .nilFunc]⟩
def ty53 : TI := ⟨.struct [(0, 1, false), (1, 1, false), (2, 1, false)], 3, 24, [.int .i64 0, .int .i64 0, .int .i64 0]⟩
def ty54 : TI := ⟨.struct [(0, 1, false), (1, 1, false), (2, 1, false)], 3, 24, [.int .i64 0, .int .i64 0, .int .i64 0]⟩
def ty55 : TI := ⟨.struct [(0, 1, false), (1, 3, true), (4, 1, false)], 5, 40, [.int .i64 0, .int .i64 0, .int .i64 0, .int .i64 0, .int .i64 0]⟩
def ty56 : TI := ⟨.struct [(0, 1, false), (1, 3, true), (4, 1, false)], 5, 40, [.int .i64 0, .int .i64 0, .int .i64 0, .int .i64 0, .int .i64 0]⟩
def ty57 : TI := ⟨.func, 1, 8, [.other .nilFunc]⟩
def ty58 : TI := ⟨.struct [(0, 1, false), (1, 1, false), (2, 1, false)], 3, 24, [.int .i64 0, .int .i64 0, .int .i64 0]⟩
def ty59 : TI := ⟨.struct [(0, 1, false), (1, 3, true), (4, 1, false)], 5, 40, [.int .i64 0, .int .i64 0, .int .i64 0, .int .i64 0, .int .i64 0]⟩
def ty60 : TI := ⟨.struct [(0, 1, false), (1, 3, true), (4, 1, false)], 5, 40, [.int .i64 0, .int .i64 0, .int .i64 0, .int .i64 0, .int .i64 0]⟩
def ty61 : TI := ⟨.func, 1, 8, [.other .nilFunc]⟩
def ty62 : TI := ⟨.func, 1, 8, [.other .nilFunc]⟩
def ty63 : TI := ⟨.func, 1, 8, [.other .nilFunc]⟩
def ty64 : TI := ⟨.func, 1, 8, [.other .nilFunc]⟩
def ty65 : TI := ⟨.func, 1, 8, [.other .nilFunc]⟩
def ty66 : TI := ⟨.func, 1, 8, [.other .nilFunc]⟩
def ty67 : TI := ⟨.func, 1, 8, [.other .nilFunc]⟩
def ty68 : TI := ⟨.func, 1, 8, [.other .nilFunc]⟩
def ty69 : TI := ⟨.func, 1, 8, [.other .nilFunc]⟩
def ty70 : TI := ⟨.func, 1, 8, [.other .nilFunc]⟩
def ty71 : TI := ⟨.func, 1, 8, [.other .nilFunc]⟩
def ty72 : TI := ⟨.func, 1, 8, [.other .nilFunc]⟩
def ty73 : TI := ⟨.func, 1, 8, [.other .nilFunc]⟩
def ty74 : TI := ⟨.func, 1, 8, [.other .nilFunc]⟩
def ty75 : TI := ⟨.func, 1, 8, [.other .nilFunc]⟩
def ty76 : TI := ⟨.func, 1, 8, [.other .nilFunc]⟩
def ty77 : TI := ⟨.func, 1, 8, [.other .nilFunc]⟩
def ty78 : TI := ⟨.func, 1, 8, [.other .nilFunc]⟩
def ty79 : TI := ⟨.func, 1, 8, [.other .nilFunc]⟩
def ty80 : TI := ⟨.func, 1, 8, [.other .nilFunc]⟩
def ty81 : TI := ⟨.func, 1, 8, [.other .nilFunc]⟩
def ty82 : TI := ⟨.func, 1, 8, [.other .nilFunc]⟩
def ty83 : TI := ⟨.func, 1, 8, [.other .nilFunc]⟩
def ty84 : TI := ⟨.slice 3, 1, 24, [.list []]⟩
def ty85 : TI := ⟨.struct [(0, 1, false), (1, 1, false), (2, 1, false)], 3, 64, [.str ByteArray.empty, .list [], .list []]⟩
def ty86 : TI := ⟨.struct [(0, 1, false), (1, 1, false), (2, 1, false)], 3, 64, [.str ByteArray.empty, .list [], .list []]⟩
def ty87 : TI := ⟨.func, 1, 8, [.other .nilFunc]⟩
def ty88 : TI := ⟨.func, 1, 8, [.other .nilFunc]⟩
def ty89 : TI := ⟨.func, 1, 8, [.other .nilFunc]⟩
def ty90 : TI := ⟨.struct [(0, 1, false), (1, 1, false), (2, 1, false)], 3, 64, [.str ByteArray.empty, .list [], .list []]⟩
def ty91 : TI := ⟨.func, 1, 8, [.other .nilFunc]⟩
def ty92 : TI := ⟨.func, 1, 8, [.other .nilFunc]⟩
def ty93 : TI := ⟨.func, 1, 8, [.other .nilFunc]⟩
def ty94 : TI := ⟨.func, 1, 8, [.other .nilFunc]⟩
def ty95 : TI := ⟨.func, 1, 8, [.other .nilFunc]⟩
def ty96 : TI := ⟨.func, 1, 8, [.other .nilFunc]⟩
def ty97 : TI := ⟨.func, 1, 8, [.other .nilFunc]⟩
def ty98 : TI := ⟨.func, 1, 8, [.other .nilFunc]⟩
def ty99 : TI := ⟨.func, 1, 8, [.other .nilFunc]⟩
def ty100 : TI := ⟨.func, 1, 8, [.other .nilFunc]⟩
def ty101 : TI := ⟨.func, 1, 8, [.other .nilFunc]⟩
def ty102 : TI := ⟨.func, 1, 8, [.other .nilFunc]⟩
def ty103 : TI := ⟨.func, 1, 8, [.other .nilFunc]⟩
def ty104 : TI := ⟨.func, 1, 8, [.other .nilFunc]⟩
def ty105 : TI := ⟨.func, 1, 8, [.other .nilFunc]⟩
def ty106 : TI := ⟨.func, 1, 8, [.other .nilFunc]⟩
def ty107 : TI := ⟨.func, 1, 8, [.other .nilFunc]⟩
def ty108 : TI := ⟨.func, 1, 8, [.other .nilFunc]⟩
def ty109 : TI := ⟨.func, 1, 8, [.other .nilFunc]⟩
def ty110 : TI := ⟨.func, 1, 8, [.other .nilFunc]⟩
def ty111 : TI := ⟨.func, 1, 8, [.other .nilFunc]⟩
def ty112 : TI := ⟨.func, 1, 8, [.other .nilFunc]⟩
def ty113 : TI := ⟨.func, 1, 8, [.other .nilFunc]⟩
def ty114 : TI := ⟨.func, 1, 8, [.other .nilFunc]⟩
def ty115 : TI := ⟨.func, 1, 8, [.other .nilFunc]⟩
def ty116 : TI := ⟨.func, 1, 8, [.other .nilFunc]⟩
def ty117 : TI := ⟨.slice 5, 1, 24, [.list []]⟩
def ty118 : TI := ⟨.func, 1, 8, [.other .nilFunc]⟩
def ty119 : TI := ⟨.func, 1, 8, [.other .nilFunc]⟩
def ty120 : TI := ⟨.struct [(0, 1, false), (1, 1, false), (2, 1, false), (3, 1, false)], 4, 40, [.other (.pointer none), .other (.pointer none), .other (.pointer none), .str ByteArray.empty]⟩
def ty121 : TI := ⟨.struct [(0, 1, false), (1, 1, false), (2, 1, false), (3, 1, false)], 4, 40, [.other (.pointer none), .other (.pointer none), .other (.pointer none), .str ByteArray.empty]⟩
def ty122 : TI := ⟨.array 0 16, 0, 0, []⟩
def ty125 : TI := ⟨.func, 1, 8, [.other .nilFunc]⟩
def ty126 : TI := ⟨.int .u32, 1, 4, [.int .u32 0]⟩
def ty127 : TI := ⟨.int .u8, 1, 1, [.int .u8 0]⟩
def ty128 : TI := ⟨.int .u8, 1, 1, [.int .u8 0]⟩
def ty129 : TI := ⟨.func, 1, 8, [.other .nilFunc]⟩
def ty130 : TI := ⟨.ptr 5, 1, 8, [.other (.pointer none)]⟩
def ty131 : TI := ⟨.int .i32, 1, 4, [.int .i32 0]⟩
def ty132 : TI := ⟨.int .i32, 1, 4, [.int .i32 0]⟩
def ty133 : TI := ⟨.struct [(0, 1, false), (1, 1, false), (2, 1, false), (3, 1, false), (4, 1, false), (5, 1, false), (6, 1, false), (7, 1, false), (8, 1, false), (9, 1, false), (10, 1, false)], 11, 48, [.int .u64 0, .int .u64 0, .int .u32 0, .int .u8 0, .int .u8 0, .int .u8 0, .int .u8 0, .other .nilFunc, .other (.pointer none), .int .i32 0, .int .i32 0]⟩
def ty134 : TI := ⟨.struct [(0, 1, false), (1, 1, false), (2, 1, false), (3, 1, false), (4, 1, false), (5, 1, false), (6, 1, false), (7, 1, false), (8, 1, false), (9, 1, false), (10, 1, false)], 11, 48, [.int .u64 0, .int .u64 0, .int .u32 0, .int .u8 0, .int .u8 0, .int .u8 0, .int .u8 0, .other .nilFunc, .other (.pointer none), .int .i32 0, .int .i32 0]⟩
def ty135 : TI := ⟨.other, 1, 8, [.other (.pointer none)]⟩
inductive TT where
  | leaf
  | node (k : Nat) (x : TI) (l r : TT)
def TT.find : TT → Nat → Option TI
  | .leaf, _ => none
  | .node k x l r, t => match Nat.blt t k with
    | true => l.find t
    | false => match Nat.beq t k with
      | true => some x
      | false => r.find t
def TT.all (p : Nat → TI → Bool) : TT → Bool
  | .leaf => true
  | .node k x l r => p k x && l.all p && r.all p
theorem TT.find_all {p : Nat → TI → Bool} : ∀ {T : TT} {t : Nat} {ti : TI}, T.all p = true → T.find t = some ti → p t ti = true
  | .leaf, _, _, _, h => by cases h
  | .node k x l r, t, ti, ha, h => by
    simp only [TT.all, Bool.and_eq_true] at ha
    unfold TT.find at h
    split at h
    · exact TT.find_all ha.1.2 h
    · split at h
      · rename_i e
        injection h with h
        subst h
        rw [Nat.eq_of_beq_eq_true e]
        exact ha.1.1
      · exact TT.find_all ha.2 h
def tyTree : TT := (.node 68 ty68 (.node 34 ty34 (.node 17 ty17 (.node 9 ty9 (.node 5 ty5 (.node 3 ty3 (.node 2 ty2 (.node 1 ty1 .leaf .leaf) .leaf) (.node 4 ty4 .leaf .leaf)) (.node 7 ty7 (.node 6 ty6 .leaf .leaf) (.node 8 ty8 .leaf .leaf))) (.node 13 ty13 (.node 11 ty11 (.node 10 ty10 .leaf .leaf) (.node 12 ty12 .leaf .leaf)) (.node 15 ty15 (.node 14 ty14 .leaf .leaf) (.node 16 ty16 .leaf .leaf)))) (.node 26 ty26 (.node 22 ty22 (.node 20 ty20 (.node 19 ty19 (.node 18 ty18 .leaf .leaf) .leaf) (.node 21 ty21 .leaf .leaf)) (.node 24 ty24 (.node 23 ty23 .leaf .leaf) (.node 25 ty25 .leaf .leaf))) (.node 30 ty30 (.node 28 ty28 (.node 27 ty27 .leaf .leaf) (.node 29 ty29 .leaf .leaf)) (.node 32 ty32 (.node 31 ty31 .leaf .leaf) (.node 33 ty33 .leaf .leaf))))) (.node 52 ty52 (.node 44 ty44 (.node 40 ty40 (.node 37 ty37 (.node 36 ty36 (.node 35 ty35 .leaf .leaf) .leaf) (.node 39 ty39 .leaf .leaf)) (.node 42 ty42 (.node 41 ty41 .leaf .leaf) (.node 43 ty43 .leaf .leaf))) (.node 48 ty48 (.node 46 ty46 (.node 45 ty45 .leaf .leaf) (.node 47 ty47 .leaf .leaf)) (.node 50 ty50 (.node 49 ty49 .leaf .leaf) (.node 51 ty51 .leaf .leaf)))) (.node 60 ty60 (.node 56 ty56 (.node 54 ty54 (.node 53 ty53 .leaf .leaf) (.node 55 ty55 .leaf .leaf)) (.node 58 ty58 (.node 57 ty57 .leaf .leaf) (.node 59 ty59 .leaf .leaf))) (.node 64 ty64 (.node 62 ty62 (.node 61 ty61 .leaf .leaf) (.node 63 ty63 .leaf .leaf)) (.node 66 ty66 (.node 65 ty65 .leaf .leaf) (.node 67 ty67 .leaf .leaf)))))) (.node 101 ty101 (.node 85 ty85 (.node 77 ty77 (.node 73 ty73 (.node 71 ty71 (.node 70 ty70 (.node 69 ty69 .leaf .leaf) .leaf) (.node 72 ty72 .leaf .leaf)) (.node 75 ty75 (.node 74 ty74 .leaf .leaf) (.node 76 ty76 .leaf .leaf))) (.node 81 ty81 (.node 79 ty79 (.node 78 ty78 .leaf .leaf) (.node 80 ty80 .leaf .leaf)) (.node 83 ty83 (.node 82 ty82 .leaf .leaf) (.node 84 ty84 .leaf .leaf)))) (.node 93 ty93 (.node 89 ty89 (.node 87 ty87 (.node 86 ty86 .leaf .leaf) (.node 88 ty88 .leaf .leaf)) (.node 91 ty91 (.node 90 ty90 .leaf .leaf) (.node 92 ty92 .leaf .leaf))) (.node 97 ty97 (.node 95 ty95 (.node 94 ty94 .leaf .leaf) (.node 96 ty96 .leaf .leaf)) (.node 99 ty99 (.node 98 ty98 .leaf .leaf) (.node 100 ty100 .leaf .leaf))))) (.node 118 ty118 (.node 110 ty110 (.node 106 ty106 (.node 104 ty104 (.node 103 ty103 (.node 102 ty102 .leaf .leaf) .leaf) (.node 105 ty105 .leaf .leaf)) (.node 108 ty108 (.node 107 ty107 .leaf .leaf) (.node 109 ty109 .leaf .leaf))) (.node 114 ty114 (.node 112 ty112 (.node 111 ty111 .leaf .leaf) (.node 113 ty113 .leaf .leaf)) (.node 116 ty116 (.node 115 ty115 .leaf .leaf) (.node 117 ty117 .leaf .leaf)))) (.node 128 ty128 (.node 122 ty122 (.node 120 ty120 (.node 119 ty119 .leaf .leaf) (.node 121 ty121 .leaf .leaf)) (.node 126 ty126 (.node 125 ty125 .leaf .leaf) (.node 127 ty127 .leaf .leaf))) (.node 132 ty132 (.node 130 ty130 (.node 129 ty129 .leaf .leaf) (.node 131 ty131 .leaf .leaf)) (.node 134 ty134 (.node 133 ty133 .leaf .leaf) (.node 135 ty135 .leaf .leaf)))))))
def Ty (t : TypeId) : Option TI := tyTree.find t
set_option maxRecDepth 100000
theorem tyChecked : tyTree.all (chk Try.prog) = true := by kernel_rfl
theorem drawsOk : Try.prog.follows .mixedOrders = true := by kernel_rfl
theorem tyOk : TOk Try.prog Ty := fun _ _ h => TT.find_all tyChecked h
end Go.Proofs.Ytfjphbjbobojbaa
