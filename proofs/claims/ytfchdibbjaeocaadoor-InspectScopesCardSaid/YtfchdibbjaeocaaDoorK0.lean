/- The blocks of the program that are laid for good and are spoken of whole. No condition of its own. -/
import GoSem.Core.World
namespace Go.Kx
def Gl : Nat → Option (Array Value) := fun _ => none
end Go.Kx
