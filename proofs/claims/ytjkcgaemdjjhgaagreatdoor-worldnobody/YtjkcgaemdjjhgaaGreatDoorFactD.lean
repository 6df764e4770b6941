/-
  Closed facts of the row.
-/
import Derived.Test.YtjkcgaemdjjhgaaGreatDoorRows
import Derived.JoinedOf
import Derived.ProofKit
import Derived.OpenShut
set_option maxRecDepth 100000
namespace Go.Proofs.YtjkcgaemdjjhgaaGreatDoor
open Go
theorem j12 : ((Rows.worldNobodyRow.named == Tryz.prog.varsNamed 3)) = true := by kernel_rfl
end Go.Proofs.YtjkcgaemdjjhgaaGreatDoor
