/- The numbers of library functions in this program, and that their bodies are the library's. -/
import Derived.Shelf.Strings.Search3
import Derived.Test.YtjebblagiiajaaaProg
namespace Go.Proofs.Ytjebblagiiajaaa
open Go Go.Shelf Go.Proofs
def lays143_ren : Go.Shelf.Ren := ⟨fun | 143 => 88 | 219 => 103 | 217 => 109 | 225 => 110 | 224 => 111 | 267 => 112 | 266 => 115 | 314 => 116 | n => n, fun | 9 => 9 | 3 => 3 | 4 => 4 | 5 => 5 | 46 => 122 | 146 => 126 | 51 => 125 | n => n, fun | 1 => 0 | n => n⟩
theorem lays143 : Go.Proofs.Lays.n143 Try.prog lays143_ren := {
  mixed := by kernel_rfl
  f143 := Try.func88.trans (congrArg some (by kernel_rfl))
  f217 := Try.func109.trans (congrArg some (by kernel_rfl))
  f219 := Try.func103.trans (congrArg some (by kernel_rfl))
  f224 := Try.func111.trans (congrArg some (by kernel_rfl))
  f225 := Try.func110.trans (congrArg some (by kernel_rfl))
  f266 := Try.func115.trans (congrArg some (by kernel_rfl))
  f267 := Try.func112.trans (congrArg some (by kernel_rfl))
  f314 := Try.func116.trans (congrArg some (by kernel_rfl))
  t3 := Try.underlying3
  a3 := Try.isAgg3
  z3 := Try.sizeOf3
  v3 := Try.zeroValue3
  t4 := Try.underlying4
  a4 := Try.isAgg4
  z4 := Try.sizeOf4
  v4 := Try.zeroValue4
  t5 := Try.underlying5
  a5 := Try.isAgg5
  z5 := Try.sizeOf5
  v5 := Try.zeroValue5
  t9 := Try.underlying9
  a9 := Try.isAgg9
  z9 := Try.sizeOf9
  v9 := Try.zeroValue9
  t46 := Try.underlying122
  a46 := Try.isAgg122
  z46 := Try.sizeOf122
  v46 := Try.zeroValue122
  t51 := Try.underlying125
  a51 := Try.isAgg125
  z51 := Try.sizeOf125
  v51 := Try.zeroValue125
  t146 := Try.underlying126
  a146 := Try.isAgg126
  z146 := Try.sizeOf126
  v146 := Try.zeroValue126
  g1 := by kernel_rfl }
def lays144_ren : Go.Shelf.Ren := ⟨fun | 144 => 72 | 143 => 88 | 219 => 103 | 217 => 109 | 225 => 110 | 224 => 111 | 267 => 112 | 266 => 115 | 314 => 116 | n => n, fun | 9 => 9 | 4 => 4 | 3 => 3 | 5 => 5 | 46 => 122 | 146 => 126 | 51 => 125 | n => n, fun | 1 => 0 | n => n⟩
theorem lays144 : Go.Proofs.Lays.n144 Try.prog lays144_ren := {
  mixed := by kernel_rfl
  f143 := Try.func88.trans (congrArg some (by kernel_rfl))
  f144 := Try.func72.trans (congrArg some (by kernel_rfl))
  f217 := Try.func109.trans (congrArg some (by kernel_rfl))
  f219 := Try.func103.trans (congrArg some (by kernel_rfl))
  f224 := Try.func111.trans (congrArg some (by kernel_rfl))
  f225 := Try.func110.trans (congrArg some (by kernel_rfl))
  f266 := Try.func115.trans (congrArg some (by kernel_rfl))
  f267 := Try.func112.trans (congrArg some (by kernel_rfl))
  f314 := Try.func116.trans (congrArg some (by kernel_rfl))
  t3 := Try.underlying3
  a3 := Try.isAgg3
  z3 := Try.sizeOf3
  v3 := Try.zeroValue3
  t4 := Try.underlying4
  a4 := Try.isAgg4
  z4 := Try.sizeOf4
  v4 := Try.zeroValue4
  t5 := Try.underlying5
  a5 := Try.isAgg5
  z5 := Try.sizeOf5
  v5 := Try.zeroValue5
  t9 := Try.underlying9
  a9 := Try.isAgg9
  z9 := Try.sizeOf9
  v9 := Try.zeroValue9
  t46 := Try.underlying122
  a46 := Try.isAgg122
  z46 := Try.sizeOf122
  v46 := Try.zeroValue122
  t51 := Try.underlying125
  a51 := Try.isAgg125
  z51 := Try.sizeOf125
  v51 := Try.zeroValue125
  t146 := Try.underlying126
  a146 := Try.isAgg126
  z146 := Try.sizeOf126
  v146 := Try.zeroValue126
  g1 := by kernel_rfl }
end Go.Proofs.Ytjebblagiiajaaa

