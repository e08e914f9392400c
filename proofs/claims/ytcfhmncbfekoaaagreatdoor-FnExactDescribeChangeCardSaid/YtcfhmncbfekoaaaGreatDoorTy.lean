/- The types of this program as the abstract machine reads them, and that the kernel holds them against the program. MADE BY PROGRAM (types.py). -/
import Derived.Test.YtcfhmncbfekoaaaGreatDoorProg
import Derived.Test.YtcfhmncbfekoaaaGreatDoorAmB
import Derived.KernelRfl
namespace Go.Proofs.YtcfhmncbfekoaaaGreatDoor
open Go Go.Am

def ty1 : TI := ⟨.func, 1, 8, [.other .nilFunc]⟩
def ty2 : TI := ⟨.int .i64, 1, 8, [.int .i64 0]⟩
def ty3 : TI := ⟨.int .i64, 1, 8, [.int .i64 0]⟩
def ty4 : TI := ⟨.bool, 1, 1, [.bool false]⟩
def ty5 : TI := ⟨.int .u8, 1, 1, [.int .u8 0]⟩
def ty6 : TI := ⟨.int .u8, 1, 1, [.int .u8 0]⟩
def ty7 : TI := ⟨.struct [(0, 1, false), (1, 1, false), (2, 1, false), (3, 1, false)], 4, 24, [.int .i64 0, .int .i64 0, .bool false, .int .u8 0]⟩
def ty8 : TI := ⟨.struct [(0, 1, false), (1, 1, false), (2, 1, false), (3, 1, false)], 4, 24, [.int .i64 0, .int .i64 0, .bool false, .int .u8 0]⟩
def ty9 : TI := ⟨.str, 1, 16, [.str ByteArray.empty]⟩
def ty10 : TI := ⟨.str, 1, 16, [.str ByteArray.empty]⟩
def ty11 : TI := ⟨.str, 1, 16, [.str ByteArray.empty]⟩
def ty12 : TI := ⟨.int .u64, 1, 8, [.int .u64 0]⟩
def ty13 : TI := ⟨.struct [(0, 1, false), (1, 1, false)], 2, 24, [.str ByteArray.empty, .int .u64 0]⟩
def ty14 : TI := ⟨.struct [(0, 1, false), (1, 1, false)], 2, 24, [.str ByteArray.empty, .int .u64 0]⟩
def ty15 : TI := ⟨.ptr 223, 1, 8, [.other (.pointer none)]⟩
def ty16 : TI := ⟨.ptr 226, 1, 8, [.other (.pointer none)]⟩
def ty17 : TI := ⟨.ptr 233, 1, 8, [.other (.pointer none)]⟩
def ty18 : TI := ⟨.struct [(0, 1, false)], 1, 8, [.other (.pointer none)]⟩
def ty19 : TI := ⟨.struct [(0, 1, false)], 1, 8, [.other (.pointer none)]⟩
def ty20 : TI := ⟨.other, 1, 16, [.other .nilIface]⟩
def ty21 : TI := ⟨.int .i32, 1, 4, [.int .i32 0]⟩
def ty22 : TI := ⟨.slice 9, 1, 24, [.list []]⟩
def ty23 : TI := ⟨.slice 133, 1, 24, [.list []]⟩
def ty24 : TI := ⟨.struct [(0, 1, false), (1, 1, false)], 2, 48, [.list [], .list []]⟩
def ty25 : TI := ⟨.struct [(0, 1, false), (1, 1, false)], 2, 48, [.list [], .list []]⟩
def ty26 : TI := ⟨.slice 30, 1, 24, [.list []]⟩
def ty27 : TI := ⟨.struct [(0, 2, true), (2, 1, false)], 3, 72, [.list [], .list [], .list []]⟩
def ty28 : TI := ⟨.struct [(0, 2, true), (2, 1, false)], 3, 72, [.list [], .list [], .list []]⟩
def ty29 : TI := ⟨.struct [(0, 1, false), (1, 1, false), (2, 1, false)], 3, 24, [.int .i64 0, .int .i64 0, .int .i64 0]⟩
def ty30 : TI := ⟨.struct [(0, 1, false), (1, 1, false), (2, 1, false)], 3, 24, [.int .i64 0, .int .i64 0, .int .i64 0]⟩
def ty31 : TI := ⟨.struct [(0, 1, false), (1, 3, true), (4, 1, false)], 5, 40, [.int .i64 0, .int .i64 0, .int .i64 0, .int .i64 0, .int .i64 0]⟩
def ty32 : TI := ⟨.struct [(0, 1, false), (1, 3, true), (4, 1, false)], 5, 40, [.int .i64 0, .int .i64 0, .int .i64 0, .int .i64 0, .int .i64 0]⟩
def ty33 : TI := ⟨.func, 1, 8, [.other .nilFunc]⟩
def ty35 : TI := ⟨.func, 1, 8, [.other .nilFunc]⟩
def ty36 : TI := ⟨.slice 69, 1, 24, [.list []]⟩
def ty37 : TI := ⟨.struct [(0, 1, false), (1, 1, false)], 2, 48, [.list [], .list []]⟩
def ty38 : TI := ⟨.struct [(0, 1, false), (1, 1, false)], 2, 48, [.list [], .list []]⟩
def ty39 : TI := ⟨.slice 43, 1, 24, [.list []]⟩
def ty40 : TI := ⟨.struct [(0, 2, true), (2, 1, false)], 3, 72, [.list [], .list [], .list []]⟩
def ty41 : TI := ⟨.struct [(0, 2, true), (2, 1, false)], 3, 72, [.list [], .list [], .list []]⟩
def ty42 : TI := ⟨.func, 1, 8, [.other .nilFunc]⟩
def ty43 : TI := ⟨.struct [(0, 1, false), (1, 1, false), (2, 1, false)], 3, 24, [.int .i64 0, .int .i64 0, .int .i64 0]⟩
def ty44 : TI := ⟨.struct [(0, 1, false), (1, 3, true), (4, 1, false)], 5, 40, [.int .i64 0, .int .i64 0, .int .i64 0, .int .i64 0, .int .i64 0]⟩
def ty45 : TI := ⟨.struct [(0, 1, false), (1, 3, true), (4, 1, false)], 5, 40, [.int .i64 0, .int .i64 0, .int .i64 0, .int .i64 0, .int .i64 0]⟩
def ty46 : TI := ⟨.func, 1, 8, [.other .nilFunc]⟩
def ty47 : TI := ⟨.func, 1, 8, [.other .nilFunc]⟩
def ty48 : TI := ⟨.func, 1, 8, [.other .nilFunc]⟩
def ty49 : TI := ⟨.slice 45, 1, 24, [.list []]⟩
def ty51 : TI := ⟨.func, 1, 8, [.other .nilFunc]⟩
def ty52 : TI := ⟨.func, 1, 8, [.other .nilFunc]⟩
def ty53 : TI := ⟨.func, 1, 8, [.other .nilFunc]⟩
def ty54 : TI := ⟨.func, 1, 8, [.other .nilFunc]⟩
def ty55 : TI := ⟨.func, 1, 8, [.other .nilFunc]⟩
def ty56 : TI := ⟨.slice 93, 1, 24, [.list []]⟩
def ty57 : TI := ⟨.func, 1, 8, [.other .nilFunc]⟩
def ty58 : TI := ⟨.func, 1, 8, [.other .nilFunc]⟩
def ty59 : TI := ⟨.slice 91, 1, 24, [.list []]⟩
def ty60 : TI := ⟨.func, 1, 8, [.other .nilFunc]⟩
def ty61 : TI := ⟨.func, 1, 8, [.other .nilFunc]⟩
def ty62 : TI := ⟨.func, 1, 8, [.other .nilFunc]⟩
def ty63 : TI := ⟨.func, 1, 8, [.other .nilFunc]⟩
def ty64 : TI := ⟨.func, 1, 8, [.other .nilFunc]⟩
def ty65 : TI := ⟨.func, 1, 8, [.other .nilFunc]⟩
def ty66 : TI := ⟨.func, 1, 8, [.other .nilFunc]⟩
def ty67 : TI := ⟨.slice 3, 1, 24, [.list []]⟩
def ty68 : TI := ⟨.struct [(0, 1, false), (1, 1, false), (2, 1, false)], 3, 64, [.str ByteArray.empty, .list [], .list []]⟩
def ty69 : TI := ⟨.struct [(0, 1, false), (1, 1, false), (2, 1, false)], 3, 64, [.str ByteArray.empty, .list [], .list []]⟩
def ty70 : TI := ⟨.func, 1, 8, [.other .nilFunc]⟩
def ty71 : TI := ⟨.func, 1, 8, [.other .nilFunc]⟩
def ty72 : TI := ⟨.func, 1, 8, [.other .nilFunc]⟩
def ty73 : TI := ⟨.array 4 9, 4, 64, [.str ByteArray.empty, .str ByteArray.empty, .str ByteArray.empty, .str ByteArray.empty]⟩
def ty74 : TI := ⟨.func, 1, 8, [.other .nilFunc]⟩
def ty75 : TI := ⟨.func, 1, 8, [.other .nilFunc]⟩
def ty76 : TI := ⟨.func, 1, 8, [.other .nilFunc]⟩
def ty77 : TI := ⟨.func, 1, 8, [.other .nilFunc]⟩
def ty78 : TI := ⟨.func, 1, 8, [.other .nilFunc]⟩
def ty79 : TI := ⟨.func, 1, 8, [.other .nilFunc]⟩
def ty80 : TI := ⟨.func, 1, 8, [.other .nilFunc]⟩
def ty81 : TI := ⟨.func, 1, 8, [.other .nilFunc]⟩
def ty82 : TI := ⟨.func, 1, 8, [.other .nilFunc]⟩
def ty83 : TI := ⟨.func, 1, 8, [.other .nilFunc]⟩
def ty84 : TI := ⟨.slice 89, 1, 24, [.list []]⟩
def ty86 : TI := ⟨.func, 1, 8, [.other .nilFunc]⟩
def ty87 : TI := ⟨.func, 1, 8, [.other .nilFunc]⟩
def ty88 : TI := ⟨.struct [(0, 1, false), (1, 1, false), (2, 1, false), (3, 1, false)], 4, 48, [.int .i64 0, .int .i64 0, .str ByteArray.empty, .str ByteArray.empty]⟩
def ty89 : TI := ⟨.struct [(0, 1, false), (1, 1, false), (2, 1, false), (3, 1, false)], 4, 48, [.int .i64 0, .int .i64 0, .str ByteArray.empty, .str ByteArray.empty]⟩
def ty90 : TI := ⟨.struct [(0, 1, false), (1, 1, false)], 2, 16, [.int .i64 0, .int .i64 0]⟩
def ty91 : TI := ⟨.struct [(0, 1, false), (1, 1, false)], 2, 16, [.int .i64 0, .int .i64 0]⟩
def ty92 : TI := ⟨.func, 1, 8, [.other .nilFunc]⟩
def ty93 : TI := ⟨.struct [(0, 1, false), (1, 1, false)], 2, 16, [.int .i64 0, .int .i64 0]⟩
def ty94 : TI := ⟨.func, 1, 8, [.other .nilFunc]⟩
def ty95 : TI := ⟨.func, 1, 8, [.other .nilFunc]⟩
def ty96 : TI := ⟨.func, 1, 8, [.other .nilFunc]⟩
def ty97 : TI := ⟨.func, 1, 8, [.other .nilFunc]⟩
def ty98 : TI := ⟨.func, 1, 8, [.other .nilFunc]⟩
def ty99 : TI := ⟨.func, 1, 8, [.other .nilFunc]⟩
def ty101 : TI := ⟨.func, 1, 8, [.other .nilFunc]⟩
def ty102 : TI := ⟨.func, 1, 8, [.other .nilFunc]⟩
def ty103 : TI := ⟨.func, 1, 8, [.other .nilFunc]⟩
def ty104 : TI := ⟨.slice 5, 1, 24, [.list []]⟩
def ty105 : TI := ⟨.func, 1, 8, [.other .nilFunc]⟩
def ty106 : TI := ⟨.func, 1, 8, [.other .nilFunc]⟩
def ty107 : TI := ⟨.func, 1, 8, [.other .nilFunc]⟩
def ty108 : TI := ⟨.func, 1, 8, [.other .nilFunc]⟩
def ty109 : TI := ⟨.func, 1, 8, [.other .nilFunc]⟩
def ty110 : TI := ⟨.ptr 112, 1, 8, [.other (.pointer none)]⟩
def ty111 : TI := ⟨.struct [(0, 1, false), (1, 1, false)], 2, 32, [.other (.pointer none), .list []]⟩
def ty112 : TI := ⟨.struct [(0, 1, false), (1, 1, false)], 2, 32, [.other (.pointer none), .list []]⟩
def ty113 : TI := ⟨.other, 1, 16, [.other .nilIface]⟩
def ty114 : TI := ⟨.other, 1, 16, [.other .nilIface]⟩
def ty116 : TI := ⟨.func, 1, 8, [.other .nilFunc]⟩
def ty117 : TI := ⟨.func, 1, 8, [.other .nilFunc]⟩
def ty118 : TI := ⟨.func, 1, 8, [.other .nilFunc]⟩
def ty119 : TI := ⟨.func, 1, 8, [.other .nilFunc]⟩
def ty120 : TI := ⟨.func, 1, 8, [.other .nilFunc]⟩
def ty121 : TI := ⟨.func, 1, 8, [.other .nilFunc]⟩
def ty122 : TI := ⟨.func, 1, 8, [.other .nilFunc]⟩
def ty123 : TI := ⟨.int .u64, 1, 8, [.int .u64 0]⟩
def ty124 : TI := ⟨.func, 1, 8, [.other .nilFunc]⟩
def ty125 : TI := ⟨.func, 1, 8, [.other .nilFunc]⟩
def ty126 : TI := ⟨.func, 1, 8, [.other .nilFunc]⟩
def ty127 : TI := ⟨.func, 1, 8, [.other .nilFunc]⟩
def ty128 : TI := ⟨.func, 1, 8, [.other .nilFunc]⟩
def ty129 : TI := ⟨.func, 1, 8, [.other .nilFunc]⟩
def ty130 : TI := ⟨.func, 1, 8, [.other .nilFunc]⟩
def ty131 : TI := ⟨.func, 1, 8, [.other .nilFunc]⟩
def ty132 : TI := ⟨.func, 1, 8, [.other .nilFunc]⟩
def ty133 : TI := ⟨.struct [(0, 1, false), (1, 1, false), (2, 1, false)], 3, 64, [.str ByteArray.empty, .list [], .list []]⟩
def ty134 : TI := ⟨.func, 1, 8, [.other .nilFunc]⟩
def ty135 : TI := ⟨.func, 1, 8, [.other .nilFunc]⟩
def ty136 : TI := ⟨.func, 1, 8, [.other .nilFunc]⟩
def ty137 : TI := ⟨.func, 1, 8, [.other .nilFunc]⟩
def ty138 : TI := ⟨.func, 1, 8, [.other .nilFunc]⟩
def ty139 : TI := ⟨.func, 1, 8, [.other .nilFunc]⟩
def ty140 : TI := ⟨.func, 1, 8, [.other .nilFunc]⟩
def ty141 : TI := ⟨.func, 1, 8, [.other .nilFunc]⟩
def ty142 : TI := ⟨.func, 1, 8, [.other .nilFunc]⟩
def ty143 : TI := ⟨.func, 1, 8, [.other .nilFunc]⟩
def ty144 : TI := ⟨.func, 1, 8, [.other .nilFunc]⟩
def ty145 : TI := ⟨.func, 1, 8, [.other .nilFunc]⟩
def ty146 : TI := ⟨.func, 1, 8, [.other .nilFunc]⟩
def ty147 : TI := ⟨.func, 1, 8, [.other .nilFunc]⟩
def ty148 : TI := ⟨.func, 1, 8, [.other .nilFunc]⟩
def ty149 : TI := ⟨.func, 1, 8, [.other .nilFunc]⟩
def ty150 : TI := ⟨.func, 1, 8, [.other .nilFunc]⟩
def ty151 : TI := ⟨.func, 1, 8, [.other .nilFunc]⟩
def ty152 : TI := ⟨.ptr 5, 1, 8, [.other (.pointer none)]⟩
def ty153 : TI := ⟨.func, 1, 8, [.other .nilFunc]⟩
def ty154 : TI := ⟨.int .i64, 1, 8, [.int .i64 0]⟩
def ty156 : TI := ⟨.func, 1, 8, [.other .nilFunc]⟩
def ty157 : TI := ⟨.func, 1, 8, [.other .nilFunc]⟩
def ty158 : TI := ⟨.func, 1, 8, [.other .nilFunc]⟩
def ty160 : TI := ⟨.func, 1, 8, [.other .nilFunc]⟩
def ty161 : TI := ⟨.func, 1, 8, [.other .nilFunc]⟩
def ty162 : TI := ⟨.int .u32, 1, 4, [.int .u32 0]⟩
def ty163 : TI := ⟨.func, 1, 8, [.other .nilFunc]⟩
def ty164 : TI := ⟨.int .u64, 1, 8, [.int .u64 0]⟩
def ty165 : TI := ⟨.func, 1, 8, [.other .nilFunc]⟩
def ty166 : TI := ⟨.func, 1, 8, [.other .nilFunc]⟩
def ty167 : TI := ⟨.func, 1, 8, [.other .nilFunc]⟩
def ty168 : TI := ⟨.slice 172, 1, 24, [.list []]⟩
def ty169 : TI := ⟨.func, 1, 8, [.other .nilFunc]⟩
def ty170 : TI := ⟨.func, 1, 8, [.other .nilFunc]⟩
def ty171 : TI := ⟨.struct [(0, 3, true), (3, 1, false), (4, 1, false)], 5, 40, [.int .i64 0, .int .i64 0, .int .i64 0, .int .i64 0, .int .i64 0]⟩
def ty172 : TI := ⟨.struct [(0, 3, true), (3, 1, false), (4, 1, false)], 5, 40, [.int .i64 0, .int .i64 0, .int .i64 0, .int .i64 0, .int .i64 0]⟩
def ty173 : TI := ⟨.func, 1, 8, [.other .nilFunc]⟩
def ty174 : TI := ⟨.func, 1, 8, [.other .nilFunc]⟩
def ty175 : TI := ⟨.func, 1, 8, [.other .nilFunc]⟩
def ty176 : TI := ⟨.func, 1, 8, [.other .nilFunc]⟩
def ty177 : TI := ⟨.func, 1, 8, [.other .nilFunc]⟩
def ty178 : TI := ⟨.func, 1, 8, [.other .nilFunc]⟩
def ty179 : TI := ⟨.func, 1, 8, [.other .nilFunc]⟩
def ty180 : TI := ⟨.array 24 5, 24, 24, [.int .u8 0, .int .u8 0, .int .u8 0, .int .u8 0, .int .u8 0, .int .u8 0, .int .u8 0, .int .u8 0, .int .u8 0, .int .u8 0, .int .u8 0, .int .u8 0, .int .u8 0, .int .u8 0, .int .u8 0, .int .u8 0, .int .u8 0, .int .u8 0, .int .u8 0, .int .u8 0, .int .u8 0, .int .u8 0, .int .u8 0, .int .u8 0]⟩
def ty181 : TI := ⟨.func, 1, 8, [.other .nilFunc]⟩
def ty183 : TI := ⟨.func, 1, 8, [.other .nilFunc]⟩
def ty184 : TI := ⟨.func, 1, 8, [.other .nilFunc]⟩
def ty185 : TI := ⟨.func, 1, 8, [.other .nilFunc]⟩
def ty186 : TI := ⟨.func, 1, 8, [.other .nilFunc]⟩
def ty187 : TI := ⟨.func, 1, 8, [.other .nilFunc]⟩
def ty188 : TI := ⟨.other, 1, 8, [.other (.pointer none)]⟩
def ty189 : TI := ⟨.func, 1, 8, [.other .nilFunc]⟩
def ty190 : TI := ⟨.int .u64, 1, 8, [.int .u64 0]⟩
def ty191 : TI := ⟨.func, 1, 8, [.other .nilFunc]⟩
def ty192 : TI := ⟨.func, 1, 8, [.other .nilFunc]⟩
def ty193 : TI := ⟨.func, 1, 8, [.other .nilFunc]⟩
def ty194 : TI := ⟨.ptr 3, 1, 8, [.other (.pointer none)]⟩
def ty195 : TI := ⟨.func, 1, 8, [.other .nilFunc]⟩
def ty196 : TI := ⟨.func, 1, 8, [.other .nilFunc]⟩
def ty197 : TI := ⟨.func, 1, 8, [.other .nilFunc]⟩
def ty198 : TI := ⟨.func, 1, 8, [.other .nilFunc]⟩
def ty199 : TI := ⟨.func, 1, 8, [.other .nilFunc]⟩
def ty200 : TI := ⟨.func, 1, 8, [.other .nilFunc]⟩
def ty201 : TI := ⟨.func, 1, 8, [.other .nilFunc]⟩
def ty202 : TI := ⟨.array 20 164, 20, 160, [.int .u64 0, .int .u64 0, .int .u64 0, .int .u64 0, .int .u64 0, .int .u64 0, .int .u64 0, .int .u64 0, .int .u64 0, .int .u64 0, .int .u64 0, .int .u64 0, .int .u64 0, .int .u64 0, .int .u64 0, .int .u64 0, .int .u64 0, .int .u64 0, .int .u64 0, .int .u64 0]⟩
def ty203 : TI := ⟨.array 65 5, 65, 65, [.int .u8 0, .int .u8 0, .int .u8 0, .int .u8 0, .int .u8 0, .int .u8 0, .int .u8 0, .int .u8 0, .int .u8 0, .int .u8 0, .int .u8 0, .int .u8 0, .int .u8 0, .int .u8 0, .int .u8 0, .int .u8 0, .int .u8 0, .int .u8 0, .int .u8 0, .int .u8 0, .int .u8 0, .int .u8 0, .int .u8 0, .int .u8 0, .int .u8 0, .int .u8 0, .int .u8 0, .int .u8 0, .int .u8 0, .int .u8 0, .int .u8 0, .int .u8 0, .int .u8 0, .int .u8 0, .int .u8 0, .int .u8 0, .int .u8 0, .int .u8 0, .int .u8 0, .int .u8 0, .int .u8 0, .int .u8 0, .int .u8 0, .int .u8 0, .int .u8 0, .int .u8 0, .int .u8 0, .int .u8 0, .int .u8 0, .int .u8 0, .int .u8 0, .int .u8 0, .int .u8 0, .int .u8 0, .int .u8 0, .int .u8 0, .int .u8 0, .int .u8 0, .int .u8 0, .int .u8 0, .int .u8 0, .int .u8 0, .int .u8 0, .int .u8 0, .int .u8 0]⟩
def ty204 : TI := ⟨.ptr 190, 1, 8, [.other (.pointer none)]⟩
def ty206 : TI := ⟨.func, 1, 8, [.other .nilFunc]⟩
def ty207 : TI := ⟨.func, 1, 8, [.other .nilFunc]⟩
def ty208 : TI := ⟨.func, 1, 8, [.other .nilFunc]⟩
def ty210 : TI := ⟨.func, 1, 8, [.other .nilFunc]⟩
def ty211 : TI := ⟨.func, 1, 8, [.other .nilFunc]⟩
def ty212 : TI := ⟨.func, 1, 8, [.other .nilFunc]⟩
def ty213 : TI := ⟨.func, 1, 8, [.other .nilFunc]⟩
def ty215 : TI := ⟨.func, 1, 8, [.other .nilFunc]⟩
def ty217 : TI := ⟨.func, 1, 8, [.other .nilFunc]⟩
def ty218 : TI := ⟨.func, 1, 8, [.other .nilFunc]⟩
def ty219 : TI := ⟨.array 32 5, 32, 32, [.int .u8 0, .int .u8 0, .int .u8 0, .int .u8 0, .int .u8 0, .int .u8 0, .int .u8 0, .int .u8 0, .int .u8 0, .int .u8 0, .int .u8 0, .int .u8 0, .int .u8 0, .int .u8 0, .int .u8 0, .int .u8 0, .int .u8 0, .int .u8 0, .int .u8 0, .int .u8 0, .int .u8 0, .int .u8 0, .int .u8 0, .int .u8 0, .int .u8 0, .int .u8 0, .int .u8 0, .int .u8 0, .int .u8 0, .int .u8 0, .int .u8 0, .int .u8 0]⟩
def ty220 : TI := ⟨.array 64 5, 64, 64, [.int .u8 0, .int .u8 0, .int .u8 0, .int .u8 0, .int .u8 0, .int .u8 0, .int .u8 0, .int .u8 0, .int .u8 0, .int .u8 0, .int .u8 0, .int .u8 0, .int .u8 0, .int .u8 0, .int .u8 0, .int .u8 0, .int .u8 0, .int .u8 0, .int .u8 0, .int .u8 0, .int .u8 0, .int .u8 0, .int .u8 0, .int .u8 0, .int .u8 0, .int .u8 0, .int .u8 0, .int .u8 0, .int .u8 0, .int .u8 0, .int .u8 0, .int .u8 0, .int .u8 0, .int .u8 0, .int .u8 0, .int .u8 0, .int .u8 0, .int .u8 0, .int .u8 0, .int .u8 0, .int .u8 0, .int .u8 0, .int .u8 0, .int .u8 0, .int .u8 0, .int .u8 0, .int .u8 0, .int .u8 0, .int .u8 0, .int .u8 0, .int .u8 0, .int .u8 0, .int .u8 0, .int .u8 0, .int .u8 0, .int .u8 0, .int .u8 0, .int .u8 0, .int .u8 0, .int .u8 0, .int .u8 0, .int .u8 0, .int .u8 0, .int .u8 0]⟩
def ty221 : TI := ⟨.func, 1, 8, [.other .nilFunc]⟩
def ty222 : TI := ⟨.struct [(0, 1, false), (1, 1, false), (2, 1, false), (3, 1, false)], 4, 40, [.other (.pointer none), .other (.pointer none), .other (.pointer none), .str ByteArray.empty]⟩
def ty223 : TI := ⟨.struct [(0, 1, false), (1, 1, false), (2, 1, false), (3, 1, false)], 4, 40, [.other (.pointer none), .other (.pointer none), .other (.pointer none), .str ByteArray.empty]⟩
def ty224 : TI := ⟨.array 0 16, 0, 0, []⟩
def ty227 : TI := ⟨.int .u8, 1, 1, [.int .u8 0]⟩
def ty228 : TI := ⟨.int .u8, 1, 1, [.int .u8 0]⟩
def ty229 : TI := ⟨.func, 1, 8, [.other .nilFunc]⟩
def ty230 : TI := ⟨.int .i32, 1, 4, [.int .i32 0]⟩
def ty231 : TI := ⟨.int .i32, 1, 4, [.int .i32 0]⟩
def ty232 : TI := ⟨.struct [(0, 1, false), (1, 1, false), (2, 1, false), (3, 1, false), (4, 1, false), (5, 1, false), (6, 1, false), (7, 1, false), (8, 1, false), (9, 1, false), (10, 1, false)], 11, 48, [.int .u64 0, .int .u64 0, .int .u32 0, .int .u8 0, .int .u8 0, .int .u8 0, .int .u8 0, .other .nilFunc, .other (.pointer none), .int .i32 0, .int .i32 0]⟩
def ty233 : TI := ⟨.struct [(0, 1, false), (1, 1, false), (2, 1, false), (3, 1, false), (4, 1, false), (5, 1, false), (6, 1, false), (7, 1, false), (8, 1, false), (9, 1, false), (10, 1, false)], 11, 48, [.int .u64 0, .int .u64 0, .int .u32 0, .int .u8 0, .int .u8 0, .int .u8 0, .int .u8 0, .other .nilFunc, .other (.pointer none), .int .i32 0, .int .i32 0]⟩
inductive TT where
  | leaf
  | node (k : Nat) (x : TI) (l r : TT)
def TT.find : TT → Nat → Option TI
  | .leaf, _ => none
  | .node k x l r, t => match Nat.blt t k with
    | true => l.find t
    | false => match Nat.beq t k with
      | true => some x
      | false => r.find t
def TT.all (p : Nat → TI → Bool) : TT → Bool
  | .leaf => true
  | .node k x l r => p k x && l.all p && r.all p
theorem TT.find_all {p : Nat → TI → Bool} : ∀ {T : TT} {t : Nat} {ti : TI}, T.all p = true → T.find t = some ti → p t ti = true
  | .leaf, _, _, _, h => by cases h
  | .node k x l r, t, ti, ha, h => by
    simp only [TT.all, Bool.and_eq_true] at ha
    unfold TT.find at h
    split at h
    · exact TT.find_all ha.1.2 h
    · split at h
      · rename_i e
        injection h with h
        subst h
        rw [Nat.eq_of_beq_eq_true e]
        exact ha.1.1
      · exact TT.find_all ha.2 h
def tyTree : TT := (.node 114 ty114 (.node 57 ty57 (.node 28 ty28 (.node 14 ty14 (.node 7 ty7 (.node 4 ty4 (.node 2 ty2 (.node 1 ty1 .leaf .leaf) (.node 3 ty3 .leaf .leaf)) (.node 6 ty6 (.node 5 ty5 .leaf .leaf) .leaf)) (.node 11 ty11 (.node 9 ty9 (.node 8 ty8 .leaf .leaf) (.node 10 ty10 .leaf .leaf)) (.node 13 ty13 (.node 12 ty12 .leaf .leaf) .leaf))) (.node 21 ty21 (.node 18 ty18 (.node 16 ty16 (.node 15 ty15 .leaf .leaf) (.node 17 ty17 .leaf .leaf)) (.node 20 ty20 (.node 19 ty19 .leaf .leaf) .leaf)) (.node 25 ty25 (.node 23 ty23 (.node 22 ty22 .leaf .leaf) (.node 24 ty24 .leaf .leaf)) (.node 27 ty27 (.node 26 ty26 .leaf .leaf) .leaf)))) (.node 43 ty43 (.node 36 ty36 (.node 32 ty32 (.node 30 ty30 (.node 29 ty29 .leaf .leaf) (.node 31 ty31 .leaf .leaf)) (.node 35 ty35 (.node 33 ty33 .leaf .leaf) .leaf)) (.node 40 ty40 (.node 38 ty38 (.node 37 ty37 .leaf .leaf) (.node 39 ty39 .leaf .leaf)) (.node 42 ty42 (.node 41 ty41 .leaf .leaf) .leaf))) (.node 51 ty51 (.node 47 ty47 (.node 45 ty45 (.node 44 ty44 .leaf .leaf) (.node 46 ty46 .leaf .leaf)) (.node 49 ty49 (.node 48 ty48 .leaf .leaf) .leaf)) (.node 54 ty54 (.node 53 ty53 (.node 52 ty52 .leaf .leaf) .leaf) (.node 56 ty56 (.node 55 ty55 .leaf .leaf) .leaf))))) (.node 86 ty86 (.node 71 ty71 (.node 64 ty64 (.node 61 ty61 (.node 59 ty59 (.node 58 ty58 .leaf .leaf) (.node 60 ty60 .leaf .leaf)) (.node 63 ty63 (.node 62 ty62 .leaf .leaf) .leaf)) (.node 68 ty68 (.node 66 ty66 (.node 65 ty65 .leaf .leaf) (.node 67 ty67 .leaf .leaf)) (.node 70 ty70 (.node 69 ty69 .leaf .leaf) .leaf))) (.node 78 ty78 (.node 75 ty75 (.node 73 ty73 (.node 72 ty72 .leaf .leaf) (.node 74 ty74 .leaf .leaf)) (.node 77 ty77 (.node 76 ty76 .leaf .leaf) .leaf)) (.node 82 ty82 (.node 80 ty80 (.node 79 ty79 .leaf .leaf) (.node 81 ty81 .leaf .leaf)) (.node 84 ty84 (.node 83 ty83 .leaf .leaf) .leaf)))) (.node 101 ty101 (.node 93 ty93 (.node 90 ty90 (.node 88 ty88 (.node 87 ty87 .leaf .leaf) (.node 89 ty89 .leaf .leaf)) (.node 92 ty92 (.node 91 ty91 .leaf .leaf) .leaf)) (.node 97 ty97 (.node 95 ty95 (.node 94 ty94 .leaf .leaf) (.node 96 ty96 .leaf .leaf)) (.node 99 ty99 (.node 98 ty98 .leaf .leaf) .leaf))) (.node 108 ty108 (.node 105 ty105 (.node 103 ty103 (.node 102 ty102 .leaf .leaf) (.node 104 ty104 .leaf .leaf)) (.node 107 ty107 (.node 106 ty106 .leaf .leaf) .leaf)) (.node 111 ty111 (.node 110 ty110 (.node 109 ty109 .leaf .leaf) .leaf) (.node 113 ty113 (.node 112 ty112 .leaf .leaf) .leaf)))))) (.node 172 ty172 (.node 143 ty143 (.node 129 ty129 (.node 122 ty122 (.node 119 ty119 (.node 117 ty117 (.node 116 ty116 .leaf .leaf) (.node 118 ty118 .leaf .leaf)) (.node 121 ty121 (.node 120 ty120 .leaf .leaf) .leaf)) (.node 126 ty126 (.node 124 ty124 (.node 123 ty123 .leaf .leaf) (.node 125 ty125 .leaf .leaf)) (.node 128 ty128 (.node 127 ty127 .leaf .leaf) .leaf))) (.node 136 ty136 (.node 133 ty133 (.node 131 ty131 (.node 130 ty130 .leaf .leaf) (.node 132 ty132 .leaf .leaf)) (.node 135 ty135 (.node 134 ty134 .leaf .leaf) .leaf)) (.node 140 ty140 (.node 138 ty138 (.node 137 ty137 .leaf .leaf) (.node 139 ty139 .leaf .leaf)) (.node 142 ty142 (.node 141 ty141 .leaf .leaf) .leaf)))) (.node 158 ty158 (.node 150 ty150 (.node 147 ty147 (.node 145 ty145 (.node 144 ty144 .leaf .leaf) (.node 146 ty146 .leaf .leaf)) (.node 149 ty149 (.node 148 ty148 .leaf .leaf) .leaf)) (.node 154 ty154 (.node 152 ty152 (.node 151 ty151 .leaf .leaf) (.node 153 ty153 .leaf .leaf)) (.node 157 ty157 (.node 156 ty156 .leaf .leaf) .leaf))) (.node 166 ty166 (.node 163 ty163 (.node 161 ty161 (.node 160 ty160 .leaf .leaf) (.node 162 ty162 .leaf .leaf)) (.node 165 ty165 (.node 164 ty164 .leaf .leaf) .leaf)) (.node 169 ty169 (.node 168 ty168 (.node 167 ty167 .leaf .leaf) .leaf) (.node 171 ty171 (.node 170 ty170 .leaf .leaf) .leaf))))) (.node 201 ty201 (.node 187 ty187 (.node 179 ty179 (.node 176 ty176 (.node 174 ty174 (.node 173 ty173 .leaf .leaf) (.node 175 ty175 .leaf .leaf)) (.node 178 ty178 (.node 177 ty177 .leaf .leaf) .leaf)) (.node 184 ty184 (.node 181 ty181 (.node 180 ty180 .leaf .leaf) (.node 183 ty183 .leaf .leaf)) (.node 186 ty186 (.node 185 ty185 .leaf .leaf) .leaf))) (.node 194 ty194 (.node 191 ty191 (.node 189 ty189 (.node 188 ty188 .leaf .leaf) (.node 190 ty190 .leaf .leaf)) (.node 193 ty193 (.node 192 ty192 .leaf .leaf) .leaf)) (.node 198 ty198 (.node 196 ty196 (.node 195 ty195 .leaf .leaf) (.node 197 ty197 .leaf .leaf)) (.node 200 ty200 (.node 199 ty199 .leaf .leaf) .leaf)))) (.node 219 ty219 (.node 210 ty210 (.node 206 ty206 (.node 203 ty203 (.node 202 ty202 .leaf .leaf) (.node 204 ty204 .leaf .leaf)) (.node 208 ty208 (.node 207 ty207 .leaf .leaf) .leaf)) (.node 215 ty215 (.node 212 ty212 (.node 211 ty211 .leaf .leaf) (.node 213 ty213 .leaf .leaf)) (.node 218 ty218 (.node 217 ty217 .leaf .leaf) .leaf))) (.node 228 ty228 (.node 223 ty223 (.node 221 ty221 (.node 220 ty220 .leaf .leaf) (.node 222 ty222 .leaf .leaf)) (.node 227 ty227 (.node 224 ty224 .leaf .leaf) .leaf)) (.node 231 ty231 (.node 230 ty230 (.node 229 ty229 .leaf .leaf) .leaf) (.node 233 ty233 (.node 232 ty232 .leaf .leaf) .leaf)))))))
def Ty (t : TypeId) : Option TI := tyTree.find t
set_option maxRecDepth 100000
theorem tyChecked : tyTree.all (chk Tryz.prog) = true := by kernel_rfl
theorem drawsOk : Tryz.prog.follows .mixedOrders = true := by kernel_rfl
theorem tyOk : TOk Tryz.prog Ty := fun _ _ h => TT.find_all tyChecked h
theorem tyAt1 : Ty 1 = some ⟨.func, 1, 8, [.other .nilFunc]⟩ := rfl
theorem tyAt2 : Ty 2 = some ⟨.int .i64, 1, 8, [.int .i64 0]⟩ := rfl
theorem tyAt3 : Ty 3 = some ⟨.int .i64, 1, 8, [.int .i64 0]⟩ := rfl
theorem tyAt4 : Ty 4 = some ⟨.bool, 1, 1, [.bool false]⟩ := rfl
theorem tyAt5 : Ty 5 = some ⟨.int .u8, 1, 1, [.int .u8 0]⟩ := rfl
theorem tyAt6 : Ty 6 = some ⟨.int .u8, 1, 1, [.int .u8 0]⟩ := rfl
theorem tyAt7 : Ty 7 = some ⟨.struct [(0, 1, false), (1, 1, false), (2, 1, false), (3, 1, false)], 4, 24, [.int .i64 0, .int .i64 0, .bool false, .int .u8 0]⟩ := rfl
theorem tyAt8 : Ty 8 = some ⟨.struct [(0, 1, false), (1, 1, false), (2, 1, false), (3, 1, false)], 4, 24, [.int .i64 0, .int .i64 0, .bool false, .int .u8 0]⟩ := rfl
theorem tyAt9 : Ty 9 = some ⟨.str, 1, 16, [.str ByteArray.empty]⟩ := rfl
theorem tyAt10 : Ty 10 = some ⟨.str, 1, 16, [.str ByteArray.empty]⟩ := rfl
theorem tyAt11 : Ty 11 = some ⟨.str, 1, 16, [.str ByteArray.empty]⟩ := rfl
theorem tyAt12 : Ty 12 = some ⟨.int .u64, 1, 8, [.int .u64 0]⟩ := rfl
theorem tyAt13 : Ty 13 = some ⟨.struct [(0, 1, false), (1, 1, false)], 2, 24, [.str ByteArray.empty, .int .u64 0]⟩ := rfl
theorem tyAt14 : Ty 14 = some ⟨.struct [(0, 1, false), (1, 1, false)], 2, 24, [.str ByteArray.empty, .int .u64 0]⟩ := rfl
theorem tyAt15 : Ty 15 = some ⟨.ptr 223, 1, 8, [.other (.pointer none)]⟩ := rfl
theorem tyAt16 : Ty 16 = some ⟨.ptr 226, 1, 8, [.other (.pointer none)]⟩ := rfl
theorem tyAt17 : Ty 17 = some ⟨.ptr 233, 1, 8, [.other (.pointer none)]⟩ := rfl
theorem tyAt18 : Ty 18 = some ⟨.struct [(0, 1, false)], 1, 8, [.other (.pointer none)]⟩ := rfl
theorem tyAt19 : Ty 19 = some ⟨.struct [(0, 1, false)], 1, 8, [.other (.pointer none)]⟩ := rfl
theorem tyAt20 : Ty 20 = some ⟨.other, 1, 16, [.other .nilIface]⟩ := rfl
theorem tyAt21 : Ty 21 = some ⟨.int .i32, 1, 4, [.int .i32 0]⟩ := rfl
theorem tyAt22 : Ty 22 = some ⟨.slice 9, 1, 24, [.list []]⟩ := rfl
theorem tyAt23 : Ty 23 = some ⟨.slice 133, 1, 24, [.list []]⟩ := rfl
theorem tyAt24 : Ty 24 = some ⟨.struct [(0, 1, false), (1, 1, false)], 2, 48, [.list [], .list []]⟩ := rfl
theorem tyAt25 : Ty 25 = some ⟨.struct [(0, 1, false), (1, 1, false)], 2, 48, [.list [], .list []]⟩ := rfl
theorem tyAt26 : Ty 26 = some ⟨.slice 30, 1, 24, [.list []]⟩ := rfl
theorem tyAt27 : Ty 27 = some ⟨.struct [(0, 2, true), (2, 1, false)], 3, 72, [.list [], .list [], .list []]⟩ := rfl
theorem tyAt28 : Ty 28 = some ⟨.struct [(0, 2, true), (2, 1, false)], 3, 72, [.list [], .list [], .list []]⟩ := rfl
theorem tyAt29 : Ty 29 = some ⟨.struct [(0, 1, false), (1, 1, false), (2, 1, false)], 3, 24, [.int .i64 0, .int .i64 0, .int .i64 0]⟩ := rfl
theorem tyAt30 : Ty 30 = some ⟨.struct [(0, 1, false), (1, 1, false), (2, 1, false)], 3, 24, [.int .i64 0, .int .i64 0, .int .i64 0]⟩ := rfl
theorem tyAt31 : Ty 31 = some ⟨.struct [(0, 1, false), (1, 3, true), (4, 1, false)], 5, 40, [.int .i64 0, .int .i64 0, .int .i64 0, .int .i64 0, .int .i64 0]⟩ := rfl
theorem tyAt32 : Ty 32 = some ⟨.struct [(0, 1, false), (1, 3, true), (4, 1, false)], 5, 40, [.int .i64 0, .int .i64 0, .int .i64 0, .int .i64 0, .int .i64 0]⟩ := rfl
theorem tyAt33 : Ty 33 = some ⟨.func, 1, 8, [.other .nilFunc]⟩ := rfl
theorem tyAt35 : Ty 35 = some ⟨.func, 1, 8, [.other .nilFunc]⟩ := rfl
theorem tyAt36 : Ty 36 = some ⟨.slice 69, 1, 24, [.list []]⟩ := rfl
theorem tyAt37 : Ty 37 = some ⟨.struct [(0, 1, false), (1, 1, false)], 2, 48, [.list [], .list []]⟩ := rfl
theorem tyAt38 : Ty 38 = some ⟨.struct [(0, 1, false), (1, 1, false)], 2, 48, [.list [], .list []]⟩ := rfl
theorem tyAt39 : Ty 39 = some ⟨.slice 43, 1, 24, [.list []]⟩ := rfl
theorem tyAt40 : Ty 40 = some ⟨.struct [(0, 2, true), (2, 1, false)], 3, 72, [.list [], .list [], .list []]⟩ := rfl
theorem tyAt41 : Ty 41 = some ⟨.struct [(0, 2, true), (2, 1, false)], 3, 72, [.list [], .list [], .list []]⟩ := rfl
theorem tyAt42 : Ty 42 = some ⟨.func, 1, 8, [.other .nilFunc]⟩ := rfl
theorem tyAt43 : Ty 43 = some ⟨.struct [(0, 1, false), (1, 1, false), (2, 1, false)], 3, 24, [.int .i64 0, .int .i64 0, .int .i64 0]⟩ := rfl
theorem tyAt44 : Ty 44 = some ⟨.struct [(0, 1, false), (1, 3, true), (4, 1, false)], 5, 40, [.int .i64 0, .int .i64 0, .int .i64 0, .int .i64 0, .int .i64 0]⟩ := rfl
theorem tyAt45 : Ty 45 = some ⟨.struct [(0, 1, false), (1, 3, true), (4, 1, false)], 5, 40, [.int .i64 0, .int .i64 0, .int .i64 0, .int .i64 0, .int .i64 0]⟩ := rfl
theorem tyAt46 : Ty 46 = some ⟨.func, 1, 8, [.other .nilFunc]⟩ := rfl
theorem tyAt47 : Ty 47 = some ⟨.func, 1, 8, [.other .nilFunc]⟩ := rfl
theorem tyAt48 : Ty 48 = some ⟨.func, 1, 8, [.other .nilFunc]⟩ := rfl
theorem tyAt49 : Ty 49 = some ⟨.slice 45, 1, 24, [.list []]⟩ := rfl
theorem tyAt51 : Ty 51 = some ⟨.func, 1, 8, [.other .nilFunc]⟩ := rfl
theorem tyAt52 : Ty 52 = some ⟨.func, 1, 8, [.other .nilFunc]⟩ := rfl
theorem tyAt53 : Ty 53 = some ⟨.func, 1, 8, [.other .nilFunc]⟩ := rfl
theorem tyAt54 : Ty 54 = some ⟨.func, 1, 8, [.other .nilFunc]⟩ := rfl
theorem tyAt55 : Ty 55 = some ⟨.func, 1, 8, [.other .nilFunc]⟩ := rfl
theorem tyAt56 : Ty 56 = some ⟨.slice 93, 1, 24, [.list []]⟩ := rfl
theorem tyAt57 : Ty 57 = some ⟨.func, 1, 8, [.other .nilFunc]⟩ := rfl
theorem tyAt58 : Ty 58 = some ⟨.func, 1, 8, [.other .nilFunc]⟩ := rfl
theorem tyAt59 : Ty 59 = some ⟨.slice 91, 1, 24, [.list []]⟩ := rfl
theorem tyAt60 : Ty 60 = some ⟨.func, 1, 8, [.other .nilFunc]⟩ := rfl
theorem tyAt61 : Ty 61 = some ⟨.func, 1, 8, [.other .nilFunc]⟩ := rfl
theorem tyAt62 : Ty 62 = some ⟨.func, 1, 8, [.other .nilFunc]⟩ := rfl
theorem tyAt63 : Ty 63 = some ⟨.func, 1, 8, [.other .nilFunc]⟩ := rfl
theorem tyAt64 : Ty 64 = some ⟨.func, 1, 8, [.other .nilFunc]⟩ := rfl
theorem tyAt65 : Ty 65 = some ⟨.func, 1, 8, [.other .nilFunc]⟩ := rfl
theorem tyAt66 : Ty 66 = some ⟨.func, 1, 8, [.other .nilFunc]⟩ := rfl
theorem tyAt67 : Ty 67 = some ⟨.slice 3, 1, 24, [.list []]⟩ := rfl
theorem tyAt68 : Ty 68 = some ⟨.struct [(0, 1, false), (1, 1, false), (2, 1, false)], 3, 64, [.str ByteArray.empty, .list [], .list []]⟩ := rfl
theorem tyAt69 : Ty 69 = some ⟨.struct [(0, 1, false), (1, 1, false), (2, 1, false)], 3, 64, [.str ByteArray.empty, .list [], .list []]⟩ := rfl
theorem tyAt70 : Ty 70 = some ⟨.func, 1, 8, [.other .nilFunc]⟩ := rfl
theorem tyAt71 : Ty 71 = some ⟨.func, 1, 8, [.other .nilFunc]⟩ := rfl
theorem tyAt72 : Ty 72 = some ⟨.func, 1, 8, [.other .nilFunc]⟩ := rfl
theorem tyAt73 : Ty 73 = some ⟨.array 4 9, 4, 64, [.str ByteArray.empty, .str ByteArray.empty, .str ByteArray.empty, .str ByteArray.empty]⟩ := rfl
theorem tyAt74 : Ty 74 = some ⟨.func, 1, 8, [.other .nilFunc]⟩ := rfl
theorem tyAt75 : Ty 75 = some ⟨.func, 1, 8, [.other .nilFunc]⟩ := rfl
theorem tyAt76 : Ty 76 = some ⟨.func, 1, 8, [.other .nilFunc]⟩ := rfl
theorem tyAt77 : Ty 77 = some ⟨.func, 1, 8, [.other .nilFunc]⟩ := rfl
theorem tyAt78 : Ty 78 = some ⟨.func, 1, 8, [.other .nilFunc]⟩ := rfl
theorem tyAt79 : Ty 79 = some ⟨.func, 1, 8, [.other .nilFunc]⟩ := rfl
theorem tyAt80 : Ty 80 = some ⟨.func, 1, 8, [.other .nilFunc]⟩ := rfl
theorem tyAt81 : Ty 81 = some ⟨.func, 1, 8, [.other .nilFunc]⟩ := rfl
theorem tyAt82 : Ty 82 = some ⟨.func, 1, 8, [.other .nilFunc]⟩ := rfl
theorem tyAt83 : Ty 83 = some ⟨.func, 1, 8, [.other .nilFunc]⟩ := rfl
theorem tyAt84 : Ty 84 = some ⟨.slice 89, 1, 24, [.list []]⟩ := rfl
theorem tyAt86 : Ty 86 = some ⟨.func, 1, 8, [.other .nilFunc]⟩ := rfl
theorem tyAt87 : Ty 87 = some ⟨.func, 1, 8, [.other .nilFunc]⟩ := rfl
theorem tyAt88 : Ty 88 = some ⟨.struct [(0, 1, false), (1, 1, false), (2, 1, false), (3, 1, false)], 4, 48, [.int .i64 0, .int .i64 0, .str ByteArray.empty, .str ByteArray.empty]⟩ := rfl
theorem tyAt89 : Ty 89 = some ⟨.struct [(0, 1, false), (1, 1, false), (2, 1, false), (3, 1, false)], 4, 48, [.int .i64 0, .int .i64 0, .str ByteArray.empty, .str ByteArray.empty]⟩ := rfl
theorem tyAt90 : Ty 90 = some ⟨.struct [(0, 1, false), (1, 1, false)], 2, 16, [.int .i64 0, .int .i64 0]⟩ := rfl
theorem tyAt91 : Ty 91 = some ⟨.struct [(0, 1, false), (1, 1, false)], 2, 16, [.int .i64 0, .int .i64 0]⟩ := rfl
theorem tyAt92 : Ty 92 = some ⟨.func, 1, 8, [.other .nilFunc]⟩ := rfl
theorem tyAt93 : Ty 93 = some ⟨.struct [(0, 1, false), (1, 1, false)], 2, 16, [.int .i64 0, .int .i64 0]⟩ := rfl
theorem tyAt94 : Ty 94 = some ⟨.func, 1, 8, [.other .nilFunc]⟩ := rfl
theorem tyAt95 : Ty 95 = some ⟨.func, 1, 8, [.other .nilFunc]⟩ := rfl
theorem tyAt96 : Ty 96 = some ⟨.func, 1, 8, [.other .nilFunc]⟩ := rfl
theorem tyAt97 : Ty 97 = some ⟨.func, 1, 8, [.other .nilFunc]⟩ := rfl
theorem tyAt98 : Ty 98 = some ⟨.func, 1, 8, [.other .nilFunc]⟩ := rfl
theorem tyAt99 : Ty 99 = some ⟨.func, 1, 8, [.other .nilFunc]⟩ := rfl
theorem tyAt101 : Ty 101 = some ⟨.func, 1, 8, [.other .nilFunc]⟩ := rfl
theorem tyAt102 : Ty 102 = some ⟨.func, 1, 8, [.other .nilFunc]⟩ := rfl
theorem tyAt103 : Ty 103 = some ⟨.func, 1, 8, [.other .nilFunc]⟩ := rfl
theorem tyAt104 : Ty 104 = some ⟨.slice 5, 1, 24, [.list []]⟩ := rfl
theorem tyAt105 : Ty 105 = some ⟨.func, 1, 8, [.other .nilFunc]⟩ := rfl
theorem tyAt106 : Ty 106 = some ⟨.func, 1, 8, [.other .nilFunc]⟩ := rfl
theorem tyAt107 : Ty 107 = some ⟨.func, 1, 8, [.other .nilFunc]⟩ := rfl
theorem tyAt108 : Ty 108 = some ⟨.func, 1, 8, [.other .nilFunc]⟩ := rfl
theorem tyAt109 : Ty 109 = some ⟨.func, 1, 8, [.other .nilFunc]⟩ := rfl
theorem tyAt110 : Ty 110 = some ⟨.ptr 112, 1, 8, [.other (.pointer none)]⟩ := rfl
theorem tyAt111 : Ty 111 = some ⟨.struct [(0, 1, false), (1, 1, false)], 2, 32, [.other (.pointer none), .list []]⟩ := rfl
theorem tyAt112 : Ty 112 = some ⟨.struct [(0, 1, false), (1, 1, false)], 2, 32, [.other (.pointer none), .list []]⟩ := rfl
theorem tyAt113 : Ty 113 = some ⟨.other, 1, 16, [.other .nilIface]⟩ := rfl
theorem tyAt114 : Ty 114 = some ⟨.other, 1, 16, [.other .nilIface]⟩ := rfl
theorem tyAt116 : Ty 116 = some ⟨.func, 1, 8, [.other .nilFunc]⟩ := rfl
theorem tyAt117 : Ty 117 = some ⟨.func, 1, 8, [.other .nilFunc]⟩ := rfl
theorem tyAt118 : Ty 118 = some ⟨.func, 1, 8, [.other .nilFunc]⟩ := rfl
theorem tyAt119 : Ty 119 = some ⟨.func, 1, 8, [.other .nilFunc]⟩ := rfl
theorem tyAt120 : Ty 120 = some ⟨.func, 1, 8, [.other .nilFunc]⟩ := rfl
theorem tyAt121 : Ty 121 = some ⟨.func, 1, 8, [.other .nilFunc]⟩ := rfl
theorem tyAt122 : Ty 122 = some ⟨.func, 1, 8, [.other .nilFunc]⟩ := rfl
theorem tyAt123 : Ty 123 = some ⟨.int .u64, 1, 8, [.int .u64 0]⟩ := rfl
theorem tyAt124 : Ty 124 = some ⟨.func, 1, 8, [.other .nilFunc]⟩ := rfl
theorem tyAt125 : Ty 125 = some ⟨.func, 1, 8, [.other .nilFunc]⟩ := rfl
theorem tyAt126 : Ty 126 = some ⟨.func, 1, 8, [.other .nilFunc]⟩ := rfl
theorem tyAt127 : Ty 127 = some ⟨.func, 1, 8, [.other .nilFunc]⟩ := rfl
theorem tyAt128 : Ty 128 = some ⟨.func, 1, 8, [.other .nilFunc]⟩ := rfl
theorem tyAt129 : Ty 129 = some ⟨.func, 1, 8, [.other .nilFunc]⟩ := rfl
theorem tyAt130 : Ty 130 = some ⟨.func, 1, 8, [.other .nilFunc]⟩ := rfl
theorem tyAt131 : Ty 131 = some ⟨.func, 1, 8, [.other .nilFunc]⟩ := rfl
theorem tyAt132 : Ty 132 = some ⟨.func, 1, 8, [.other .nilFunc]⟩ := rfl
theorem tyAt133 : Ty 133 = some ⟨.struct [(0, 1, false), (1, 1, false), (2, 1, false)], 3, 64, [.str ByteArray.empty, .list [], .list []]⟩ := rfl
theorem tyAt134 : Ty 134 = some ⟨.func, 1, 8, [.other .nilFunc]⟩ := rfl
theorem tyAt135 : Ty 135 = some ⟨.func, 1, 8, [.other .nilFunc]⟩ := rfl
theorem tyAt136 : Ty 136 = some ⟨.func, 1, 8, [.other .nilFunc]⟩ := rfl
theorem tyAt137 : Ty 137 = some ⟨.func, 1, 8, [.other .nilFunc]⟩ := rfl
theorem tyAt138 : Ty 138 = some ⟨.func, 1, 8, [.other .nilFunc]⟩ := rfl
theorem tyAt139 : Ty 139 = some ⟨.func, 1, 8, [.other .nilFunc]⟩ := rfl
theorem tyAt140 : Ty 140 = some ⟨.func, 1, 8, [.other .nilFunc]⟩ := rfl
theorem tyAt141 : Ty 141 = some ⟨.func, 1, 8, [.other .nilFunc]⟩ := rfl
theorem tyAt142 : Ty 142 = some ⟨.func, 1, 8, [.other .nilFunc]⟩ := rfl
theorem tyAt143 : Ty 143 = some ⟨.func, 1, 8, [.other .nilFunc]⟩ := rfl
theorem tyAt144 : Ty 144 = some ⟨.func, 1, 8, [.other .nilFunc]⟩ := rfl
theorem tyAt145 : Ty 145 = some ⟨.func, 1, 8, [.other .nilFunc]⟩ := rfl
theorem tyAt146 : Ty 146 = some ⟨.func, 1, 8, [.other .nilFunc]⟩ := rfl
theorem tyAt147 : Ty 147 = some ⟨.func, 1, 8, [.other .nilFunc]⟩ := rfl
theorem tyAt148 : Ty 148 = some ⟨.func, 1, 8, [.other .nilFunc]⟩ := rfl
theorem tyAt149 : Ty 149 = some ⟨.func, 1, 8, [.other .nilFunc]⟩ := rfl
theorem tyAt150 : Ty 150 = some ⟨.func, 1, 8, [.other .nilFunc]⟩ := rfl
theorem tyAt151 : Ty 151 = some ⟨.func, 1, 8, [.other .nilFunc]⟩ := rfl
theorem tyAt152 : Ty 152 = some ⟨.ptr 5, 1, 8, [.other (.pointer none)]⟩ := rfl
theorem tyAt153 : Ty 153 = some ⟨.func, 1, 8, [.other .nilFunc]⟩ := rfl
theorem tyAt154 : Ty 154 = some ⟨.int .i64, 1, 8, [.int .i64 0]⟩ := rfl
theorem tyAt156 : Ty 156 = some ⟨.func, 1, 8, [.other .nilFunc]⟩ := rfl
theorem tyAt157 : Ty 157 = some ⟨.func, 1, 8, [.other .nilFunc]⟩ := rfl
theorem tyAt158 : Ty 158 = some ⟨.func, 1, 8, [.other .nilFunc]⟩ := rfl
theorem tyAt160 : Ty 160 = some ⟨.func, 1, 8, [.other .nilFunc]⟩ := rfl
theorem tyAt161 : Ty 161 = some ⟨.func, 1, 8, [.other .nilFunc]⟩ := rfl
theorem tyAt162 : Ty 162 = some ⟨.int .u32, 1, 4, [.int .u32 0]⟩ := rfl
theorem tyAt163 : Ty 163 = some ⟨.func, 1, 8, [.other .nilFunc]⟩ := rfl
theorem tyAt164 : Ty 164 = some ⟨.int .u64, 1, 8, [.int .u64 0]⟩ := rfl
theorem tyAt165 : Ty 165 = some ⟨.func, 1, 8, [.other .nilFunc]⟩ := rfl
theorem tyAt166 : Ty 166 = some ⟨.func, 1, 8, [.other .nilFunc]⟩ := rfl
theorem tyAt167 : Ty 167 = some ⟨.func, 1, 8, [.other .nilFunc]⟩ := rfl
theorem tyAt168 : Ty 168 = some ⟨.slice 172, 1, 24, [.list []]⟩ := rfl
theorem tyAt169 : Ty 169 = some ⟨.func, 1, 8, [.other .nilFunc]⟩ := rfl
theorem tyAt170 : Ty 170 = some ⟨.func, 1, 8, [.other .nilFunc]⟩ := rfl
theorem tyAt171 : Ty 171 = some ⟨.struct [(0, 3, true), (3, 1, false), (4, 1, false)], 5, 40, [.int .i64 0, .int .i64 0, .int .i64 0, .int .i64 0, .int .i64 0]⟩ := rfl
theorem tyAt172 : Ty 172 = some ⟨.struct [(0, 3, true), (3, 1, false), (4, 1, false)], 5, 40, [.int .i64 0, .int .i64 0, .int .i64 0, .int .i64 0, .int .i64 0]⟩ := rfl
theorem tyAt173 : Ty 173 = some ⟨.func, 1, 8, [.other .nilFunc]⟩ := rfl
theorem tyAt174 : Ty 174 = some ⟨.func, 1, 8, [.other .nilFunc]⟩ := rfl
theorem tyAt175 : Ty 175 = some ⟨.func, 1, 8, [.other .nilFunc]⟩ := rfl
theorem tyAt176 : Ty 176 = some ⟨.func, 1, 8, [.other .nilFunc]⟩ := rfl
theorem tyAt177 : Ty 177 = some ⟨.func, 1, 8, [.other .nilFunc]⟩ := rfl
theorem tyAt178 : Ty 178 = some ⟨.func, 1, 8, [.other .nilFunc]⟩ := rfl
theorem tyAt179 : Ty 179 = some ⟨.func, 1, 8, [.other .nilFunc]⟩ := rfl
theorem tyAt180 : Ty 180 = some ⟨.array 24 5, 24, 24, [.int .u8 0, .int .u8 0, .int .u8 0, .int .u8 0, .int .u8 0, .int .u8 0, .int .u8 0, .int .u8 0, .int .u8 0, .int .u8 0, .int .u8 0, .int .u8 0, .int .u8 0, .int .u8 0, .int .u8 0, .int .u8 0, .int .u8 0, .int .u8 0, .int .u8 0, .int .u8 0, .int .u8 0, .int .u8 0, .int .u8 0, .int .u8 0]⟩ := rfl
theorem tyAt181 : Ty 181 = some ⟨.func, 1, 8, [.other .nilFunc]⟩ := rfl
theorem tyAt183 : Ty 183 = some ⟨.func, 1, 8, [.other .nilFunc]⟩ := rfl
theorem tyAt184 : Ty 184 = some ⟨.func, 1, 8, [.other .nilFunc]⟩ := rfl
theorem tyAt185 : Ty 185 = some ⟨.func, 1, 8, [.other .nilFunc]⟩ := rfl
theorem tyAt186 : Ty 186 = some ⟨.func, 1, 8, [.other .nilFunc]⟩ := rfl
theorem tyAt187 : Ty 187 = some ⟨.func, 1, 8, [.other .nilFunc]⟩ := rfl
theorem tyAt188 : Ty 188 = some ⟨.other, 1, 8, [.other (.pointer none)]⟩ := rfl
theorem tyAt189 : Ty 189 = some ⟨.func, 1, 8, [.other .nilFunc]⟩ := rfl
theorem tyAt190 : Ty 190 = some ⟨.int .u64, 1, 8, [.int .u64 0]⟩ := rfl
theorem tyAt191 : Ty 191 = some ⟨.func, 1, 8, [.other .nilFunc]⟩ := rfl
theorem tyAt192 : Ty 192 = some ⟨.func, 1, 8, [.other .nilFunc]⟩ := rfl
theorem tyAt193 : Ty 193 = some ⟨.func, 1, 8, [.other .nilFunc]⟩ := rfl
theorem tyAt194 : Ty 194 = some ⟨.ptr 3, 1, 8, [.other (.pointer none)]⟩ := rfl
theorem tyAt195 : Ty 195 = some ⟨.func, 1, 8, [.other .nilFunc]⟩ := rfl
theorem tyAt196 : Ty 196 = some ⟨.func, 1, 8, [.other .nilFunc]⟩ := rfl
theorem tyAt197 : Ty 197 = some ⟨.func, 1, 8, [.other .nilFunc]⟩ := rfl
theorem tyAt198 : Ty 198 = some ⟨.func, 1, 8, [.other .nilFunc]⟩ := rfl
theorem tyAt199 : Ty 199 = some ⟨.func, 1, 8, [.other .nilFunc]⟩ := rfl
theorem tyAt200 : Ty 200 = some ⟨.func, 1, 8, [.other .nilFunc]⟩ := rfl
theorem tyAt201 : Ty 201 = some ⟨.func, 1, 8, [.other .nilFunc]⟩ := rfl
theorem tyAt202 : Ty 202 = some ⟨.array 20 164, 20, 160, [.int .u64 0, .int .u64 0, .int .u64 0, .int .u64 0, .int .u64 0, .int .u64 0, .int .u64 0, .int .u64 0, .int .u64 0, .int .u64 0, .int .u64 0, .int .u64 0, .int .u64 0, .int .u64 0, .int .u64 0, .int .u64 0, .int .u64 0, .int .u64 0, .int .u64 0, .int .u64 0]⟩ := rfl
theorem tyAt203 : Ty 203 = some ⟨.array 65 5, 65, 65, [.int .u8 0, .int .u8 0, .int .u8 0, .int .u8 0, .int .u8 0, .int .u8 0, .int .u8 0, .int .u8 0, .int .u8 0, .int .u8 0, .int .u8 0, .int .u8 0, .int .u8 0, .int .u8 0, .int .u8 0, .int .u8 0, .int .u8 0, .int .u8 0, .int .u8 0, .int .u8 0, .int .u8 0, .int .u8 0, .int .u8 0, .int .u8 0, .int .u8 0, .int .u8 0, .int .u8 0, .int .u8 0, .int .u8 0, .int .u8 0, .int .u8 0, .int .u8 0, .int .u8 0, .int .u8 0, .int .u8 0, .int .u8 0, .int .u8 0, .int .u8 0, .int .u8 0, .int .u8 0, .int .u8 0, .int .u8 0, .int .u8 0, .int .u8 0, .int .u8 0, .int .u8 0, .int .u8 0, .int .u8 0, .int .u8 0, .int .u8 0, .int .u8 0, .int .u8 0, .int .u8 0, .int .u8 0, .int .u8 0, .int .u8 0, .int .u8 0, .int .u8 0, .int .u8 0, .int .u8 0, .int .u8 0, .int .u8 0, .int .u8 0, .int .u8 0, .int .u8 0]⟩ := rfl
theorem tyAt204 : Ty 204 = some ⟨.ptr 190, 1, 8, [.other (.pointer none)]⟩ := rfl
theorem tyAt206 : Ty 206 = some ⟨.func, 1, 8, [.other .nilFunc]⟩ := rfl
theorem tyAt207 : Ty 207 = some ⟨.func, 1, 8, [.other .nilFunc]⟩ := rfl
theorem tyAt208 : Ty 208 = some ⟨.func, 1, 8, [.other .nilFunc]⟩ := rfl
theorem tyAt210 : Ty 210 = some ⟨.func, 1, 8, [.other .nilFunc]⟩ := rfl
theorem tyAt211 : Ty 211 = some ⟨.func, 1, 8, [.other .nilFunc]⟩ := rfl
theorem tyAt212 : Ty 212 = some ⟨.func, 1, 8, [.other .nilFunc]⟩ := rfl
theorem tyAt213 : Ty 213 = some ⟨.func, 1, 8, [.other .nilFunc]⟩ := rfl
theorem tyAt215 : Ty 215 = some ⟨.func, 1, 8, [.other .nilFunc]⟩ := rfl
theorem tyAt217 : Ty 217 = some ⟨.func, 1, 8, [.other .nilFunc]⟩ := rfl
theorem tyAt218 : Ty 218 = some ⟨.func, 1, 8, [.other .nilFunc]⟩ := rfl
theorem tyAt219 : Ty 219 = some ⟨.array 32 5, 32, 32, [.int .u8 0, .int .u8 0, .int .u8 0, .int .u8 0, .int .u8 0, .int .u8 0, .int .u8 0, .int .u8 0, .int .u8 0, .int .u8 0, .int .u8 0, .int .u8 0, .int .u8 0, .int .u8 0, .int .u8 0, .int .u8 0, .int .u8 0, .int .u8 0, .int .u8 0, .int .u8 0, .int .u8 0, .int .u8 0, .int .u8 0, .int .u8 0, .int .u8 0, .int .u8 0, .int .u8 0, .int .u8 0, .int .u8 0, .int .u8 0, .int .u8 0, .int .u8 0]⟩ := rfl
theorem tyAt220 : Ty 220 = some ⟨.array 64 5, 64, 64, [.int .u8 0, .int .u8 0, .int .u8 0, .int .u8 0, .int .u8 0, .int .u8 0, .int .u8 0, .int .u8 0, .int .u8 0, .int .u8 0, .int .u8 0, .int .u8 0, .int .u8 0, .int .u8 0, .int .u8 0, .int .u8 0, .int .u8 0, .int .u8 0, .int .u8 0, .int .u8 0, .int .u8 0, .int .u8 0, .int .u8 0, .int .u8 0, .int .u8 0, .int .u8 0, .int .u8 0, .int .u8 0, .int .u8 0, .int .u8 0, .int .u8 0, .int .u8 0, .int .u8 0, .int .u8 0, .int .u8 0, .int .u8 0, .int .u8 0, .int .u8 0, .int .u8 0, .int .u8 0, .int .u8 0, .int .u8 0, .int .u8 0, .int .u8 0, .int .u8 0, .int .u8 0, .int .u8 0, .int .u8 0, .int .u8 0, .int .u8 0, .int .u8 0, .int .u8 0, .int .u8 0, .int .u8 0, .int .u8 0, .int .u8 0, .int .u8 0, .int .u8 0, .int .u8 0, .int .u8 0, .int .u8 0, .int .u8 0, .int .u8 0, .int .u8 0]⟩ := rfl
theorem tyAt221 : Ty 221 = some ⟨.func, 1, 8, [.other .nilFunc]⟩ := rfl
theorem tyAt222 : Ty 222 = some ⟨.struct [(0, 1, false), (1, 1, false), (2, 1, false), (3, 1, false)], 4, 40, [.other (.pointer none), .other (.pointer none), .other (.pointer none), .str ByteArray.empty]⟩ := rfl
theorem tyAt223 : Ty 223 = some ⟨.struct [(0, 1, false), (1, 1, false), (2, 1, false), (3, 1, false)], 4, 40, [.other (.pointer none), .other (.pointer none), .other (.pointer none), .str ByteArray.empty]⟩ := rfl
theorem tyAt224 : Ty 224 = some ⟨.array 0 16, 0, 0, []⟩ := rfl
theorem tyAt227 : Ty 227 = some ⟨.int .u8, 1, 1, [.int .u8 0]⟩ := rfl
theorem tyAt228 : Ty 228 = some ⟨.int .u8, 1, 1, [.int .u8 0]⟩ := rfl
theorem tyAt229 : Ty 229 = some ⟨.func, 1, 8, [.other .nilFunc]⟩ := rfl
theorem tyAt230 : Ty 230 = some ⟨.int .i32, 1, 4, [.int .i32 0]⟩ := rfl
theorem tyAt231 : Ty 231 = some ⟨.int .i32, 1, 4, [.int .i32 0]⟩ := rfl
theorem tyAt232 : Ty 232 = some ⟨.struct [(0, 1, false), (1, 1, false), (2, 1, false), (3, 1, false), (4, 1, false), (5, 1, false), (6, 1, false), (7, 1, false), (8, 1, false), (9, 1, false), (10, 1, false)], 11, 48, [.int .u64 0, .int .u64 0, .int .u32 0, .int .u8 0, .int .u8 0, .int .u8 0, .int .u8 0, .other .nilFunc, .other (.pointer none), .int .i32 0, .int .i32 0]⟩ := rfl
theorem tyAt233 : Ty 233 = some ⟨.struct [(0, 1, false), (1, 1, false), (2, 1, false), (3, 1, false), (4, 1, false), (5, 1, false), (6, 1, false), (7, 1, false), (8, 1, false), (9, 1, false), (10, 1, false)], 11, 48, [.int .u64 0, .int .u64 0, .int .u32 0, .int .u8 0, .int .u8 0, .int .u8 0, .int .u8 0, .other .nilFunc, .other (.pointer none), .int .i32 0, .int .i32 0]⟩ := rfl
end Go.Proofs.YtcfhmncbfekoaaaGreatDoor
