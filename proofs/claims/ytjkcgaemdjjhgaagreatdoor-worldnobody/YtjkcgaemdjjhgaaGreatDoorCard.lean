/-
  WorldNobodyCardSaid: for every act and side the law answers true and leaves what came in as it was; conditions: the card's own.
-/
import Derived.Test.YtjkcgaemdjjhgaaGreatDoorRow
import Derived.Test.YtjkcgaemdjjhgaaGreatDoorGoes
set_option maxRecDepth 100000
namespace Go.Proofs.YtjkcgaemdjjhgaaGreatDoor
open Go
theorem card_wf : Rows.worldNobodyRow.wfByText (OpenSpec.ofChange Rows.worldNobodySpec) = true := by kernel_rfl
theorem card_main : Tryz.pinned.checked.prog.mainIs = some (true, "ed6c7c49a597eb4b4a9bb2a877f066d899b4ea73fb9f5b22b71a5a7d618e2b2a".toList) := by kernel_rfl
theorem card_plain (f : FuncId) (fn : Func) (hf : Tryz.pinned.checked.prog.funcNamed Rows.worldNobodyRow.func = some f) (hfn : Tryz.pinned.checked.prog.funcs[f]? = some fn) :
    true = Tryz.pinned.checked.prog.looks [] ∧ ∀ (j : Nat) t, fn.params[j]? = some t → Tryz.pinned.checked.prog.wantsStandIn t = false := by
  obtain rfl : f = 3 := Option.some.inj (named3.symm.trans hf) |>.symm
  obtain rfl : fn = Tryz.f3 := (Option.some.inj (Tryz.func3.symm.trans hfn)).symm
  refine ⟨looks3, fun j t ht => ?_⟩
  rw [Tryz.params3] at ht
  have hm : t ∈ [29, 3] := by simpa using Array.mem_of_getElem? ht
  exact (show Tryz.prog.wantsStandIn t = false by simpa using List.all_eq_true.1 plain29 t hm)
theorem worldNobody : Rows.WorldNobodyCardSaid :=
  Claim7.holds_tied_plain_at .later [] [.handle, .data, .data, .data, .data, .data, .data] true (true, "ed6c7c49a597eb4b4a9bb2a877f066d899b4ea73fb9f5b22b71a5a7d618e2b2a") true
    said (fun _ h => by cases h) card_wf (fun _ h => by cases h) row_tie rfl ⟨rfl, rfl⟩ card_main rfl card_plain card_goes
end Go.Proofs.YtjkcgaemdjjhgaaGreatDoor
