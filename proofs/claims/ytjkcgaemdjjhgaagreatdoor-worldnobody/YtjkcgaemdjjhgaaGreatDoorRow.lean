/-
  The row's statement, and its tie.
-/
import Derived.Test.YtjkcgaemdjjhgaaGreatDoorOpenB
import Derived.Test.YtjkcgaemdjjhgaaGreatDoorFactE
import Derived.Test.YtjkcgaemdjjhgaaGreatDoorTieB
import Derived.Test.YtjkcgaemdjjhgaaGreatDoorCards
set_option maxRecDepth 100000
namespace Go.Proofs.YtjkcgaemdjjhgaaGreatDoor
open Go.ChangeShapes Go.WideShapes Go.ChangeAt Go.RowKit Go.Deep
theorem named3 : Tryz.prog.funcNamed "tender/tenderlaw39.WorldNobody" = some 3 := by kernel_rfl
theorem inst3 : Tryz.f3.isInstance Tryz.prog Rows.worldNobodyRow.origin Rows.worldNobodyRow.targs := of_decide_eq_true (by kernel_rfl)
theorem wrap3 : Tryz.f3.isWrapper Tryz.prog Rows.worldNobodyRow.wrapper Rows.worldNobodyRow.mainSum := by unfold Func.isWrapper; first | (rw [if_pos (by decide +kernel)]; kernel_rfl) | (rw [if_neg (by decide +kernel)]; exact ⟨rfl, rfl⟩)
theorem said : Rows.WorldNobodySaid :=
  OpenClaim.holds_of_wide 3 Tryz.f3 rfl rfl rfl rfl rfl rfl rfl ⟨rfl, rfl, rfl, rfl, rfl⟩ rfl rfl rfl rfl rfl named3 Tryz.func3 joined inst3 wrap3 (fun os started H enc _ => lifted os started H enc)
theorem tie : Tryz.prog.laidByTextLater laidL [.handle, .data, .data, .data, .data, .data, .data] true := Program.laidByTextLater_by_one 46 8 65 tie1 tie2 tie3 tie4 tie5 tie6 tie7
theorem row_tie : Rows.worldNobodyRow.laidByTextAt .later Tryz.pinned [.handle, .data, .data, .data, .data, .data, .data] true := OpenClaim.laidByTextAt_later rfl rfl tie noOwnUnsafe
theorem looks3 : true = Tryz.prog.looks [] := by kernel_rfl
theorem plain29 : ([29, 3].all fun u => !Tryz.prog.wantsStandIn u) = true := by kernel_rfl
end Go.Proofs.YtjkcgaemdjjhgaaGreatDoor
