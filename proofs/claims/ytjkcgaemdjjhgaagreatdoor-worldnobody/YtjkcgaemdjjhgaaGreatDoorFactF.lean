/-
  A closed fact of the row.
-/
import Derived.Test.YtjkcgaemdjjhgaaGreatDoorRows
import Derived.JoinedOf
import Derived.ProofKit
import Derived.OpenShut
set_option maxRecDepth 100000
namespace Go.Proofs.YtjkcgaemdjjhgaaGreatDoor
open Go
theorem j1 : (laidOutB Tryz.prog) = true := by kernel_rfl
end Go.Proofs.YtjkcgaemdjjhgaaGreatDoor
