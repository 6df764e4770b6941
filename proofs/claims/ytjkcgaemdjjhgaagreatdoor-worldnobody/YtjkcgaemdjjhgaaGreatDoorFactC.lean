/-
  Closed facts of the row.
-/
import Derived.Test.YtjkcgaemdjjhgaaGreatDoorRows
import Derived.JoinedOf
import Derived.ProofKit
import Derived.OpenShut
set_option maxRecDepth 100000
namespace Go.Proofs.YtjkcgaemdjjhgaaGreatDoor
open Go
theorem j11 : ((Rows.worldNobodyRow.recurses == Tryz.prog.recurses 3)) = true := by kernel_rfl
end Go.Proofs.YtjkcgaemdjjhgaaGreatDoor
