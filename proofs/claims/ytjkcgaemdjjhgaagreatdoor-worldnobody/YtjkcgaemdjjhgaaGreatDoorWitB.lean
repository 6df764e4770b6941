/-
  One world that fits: its shape and one input.
-/
import Derived.Test.YtjkcgaemdjjhgaaGreatDoorWitA
set_option maxRecDepth 100000
namespace Go.Proofs.YtjkcgaemdjjhgaaGreatDoor
open Go.ChangeShapes Go.WideShapes Go.ChangeAt Go.RowKit
theorem w_shaped (os : Os) : (WW os).Shaped Tryz.prog := World.shaped_of_RefB (by kernel_rfl) (by kernel_rfl)
theorem w_ok (os : Os) : Input.okWideB Tryz.prog (WW os) 3 ⟨#[], WA, []⟩ = true := by kernel_rfl
theorem w_pre (os : Os) (H : Type) (enc : TypeId × Value → H) : Rows.worldNobodySpec.preB enc Tryz.prog Tryz.f3 [] false (WW os).memory WA 8 = true := by kernel_rfl
theorem w_sized (os : Os) (H : Type) (enc : TypeId × Value → H) : Rows.worldNobodySpec.sizedB enc Tryz.prog Tryz.f3 false (WW os).memory WA 8 = true := by kernel_rfl
end Go.Proofs.YtjkcgaemdjjhgaaGreatDoor
