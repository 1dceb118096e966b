/- The blocks of the program that are laid for good and are spoken of whole. No condition of its own. -/
import GoSem.Core.World
namespace Go.Kx
def pow10Cells : List Value := (List.range 20).map fun i => Value.int .u64 ((10 ^ i : Nat) : Int)
def Gl : Nat → Option (Array Value) := fun b => if b = 3 then some pow10Cells.toArray else none
end Go.Kx
