/-
  Closed facts of the row.
-/
import Derived.Test.YtjkcgaemdjjhgaaGreatDoorRows
import Derived.JoinedOf
import Derived.ProofKit
import Derived.OpenShut
set_option maxRecDepth 100000
namespace Go.Proofs.YtjkcgaemdjjhgaaGreatDoor
open Go
theorem j9 : ((Rows.worldNobodyRow.inPlace == Tryz.prog.inPlace 3)) = true := by kernel_rfl
end Go.Proofs.YtjkcgaemdjjhgaaGreatDoor
