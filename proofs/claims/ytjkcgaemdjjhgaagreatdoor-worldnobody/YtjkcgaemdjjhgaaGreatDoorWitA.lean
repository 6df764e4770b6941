/-
  One world that fits: its listed variables.
-/
import Derived.Test.YtjkcgaemdjjhgaaGreatDoorRows
import Derived.ProofKit
import Derived.LaidMore
import Derived.LaidLaws
import Derived.LaidHandle
import Derived.OpenShut
import Derived.Stop.Joined
set_option maxRecDepth 100000
namespace Go.Proofs.YtjkcgaemdjjhgaaGreatDoor
open Go.ChangeShapes Go.WideShapes Go.ChangeAt Go.RowKit
/-- one input that fits -/
def WA : Array Value := #[.agg #[.int .i64 0, .int .i64 0, .int .i64 0, .int .i64 0, .int .u32 0, .int .i64 0, .string ⟨#[]⟩, .string ⟨#[]⟩, .slice none 0 0, .slice none 0 0, .slice none 0 0], .int .i64 0]
noncomputable def WW (os : Os) : World := (World.doorLaid Tryz.prog 46 os).forCall (fun _ _ => 0) ⟨#[], WA, []⟩
theorem w_laid (os : Os) : laidMet Tryz.prog (Rows.worldNobodyRow.laid.filter fun x => x.2.handleName?.isNone) (WW os).memory := laidMet_of_run' 8 (by kernel_rfl) (by kernel_rfl)
theorem w_handle (os : Os) : (Rows.worldNobodyRow.laid.filter fun x => x.2.handleName?.isSome && x.2.funcsIn?.isNone).all (handleAtB Tryz.prog (WW os).memory) = true := by kernel_rfl
theorem w_funcs (os : Os) : funcsRun Tryz.prog (WW os).memory 8 ((funcsListed Rows.worldNobodyRow.laid).map (·.1)) = some ((funcsListed Rows.worldNobodyRow.laid).map (·.2.funcsOut)) := by kernel_rfl
theorem w_met (os : Os) : laidMetH Tryz.prog Rows.worldNobodyRow.laid (WW os).memory := laidMetH_of_parts3 (w_laid os) (w_handle os) (w_funcs os)
end Go.Proofs.YtjkcgaemdjjhgaaGreatDoor
