/-
  The door's run leaves the listed data.
-/
import Derived.Test.YtjkcgaemdjjhgaaGreatDoorTieA
set_option maxRecDepth 100000
namespace Go.Proofs.YtjkcgaemdjjhgaaGreatDoor
open Go
theorem tie7 : ∀ os tape, doorLeaves Tryz.prog 46 8 65 laidL os tape = some (laidL.filter fun x => x.2.handleName?.isNone, (funcsListed laidL).map (·.2.funcsOut)) := fun _ _ => by kernel_rfl
end Go.Proofs.YtjkcgaemdjjhgaaGreatDoor
