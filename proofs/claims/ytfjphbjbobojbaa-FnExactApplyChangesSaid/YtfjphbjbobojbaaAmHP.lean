/- The abstract machine: an array of our own grows by what a very value's object holds; more to look at. -/
import Derived.Test.YtfjphbjbobojbaaAmHL
namespace Go.Am
open Go

section
variable {P : Program} {T : TypeId → Option TI} {t : Nat → AV} {m : Nat → Option O} {ep n : Nat} {pm : List Nat} {k : S → Prop}
variable {ops : Array Oper} {rest : List Oper} {d : Nat} {oty : TypeId} {pos : String} {after : Array Edge} {g : Option (Nat × Bool)}

end
end Go.Am

