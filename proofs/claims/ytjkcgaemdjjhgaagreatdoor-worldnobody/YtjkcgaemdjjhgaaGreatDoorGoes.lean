/-
  No function of the program starts a goroutine.
-/
import Derived.Test.YtjkcgaemdjjhgaaGreatDoorRows
import Derived.KernelRfl
import GoSem.ClaimGoes
set_option maxRecDepth 100000
namespace Go.Proofs.YtjkcgaemdjjhgaaGreatDoor
open Go
theorem nogo1 : (Tryz.prog.funcs.toList.take 200).any Func.goes = false := by kernel_rfl
theorem nogo2 : ((Tryz.prog.funcs.toList.drop 200).take 200).any Func.goes = false := by kernel_rfl
theorem nogo3 : ((Tryz.prog.funcs.toList.drop 200).drop 200).any Func.goes = false := by kernel_rfl
theorem nogo : Tryz.prog.funcs.toList.any Func.goes = false := by
  rw [← List.take_append_drop 200 Tryz.prog.funcs.toList, List.any_append, nogo1, Bool.false_or, ← List.take_append_drop 200 (Tryz.prog.funcs.toList.drop 200), List.any_append, nogo2, nogo3]; rfl
theorem goes_no (f : FuncId) : Tryz.prog.goes f = false := by
  have h1 : ∀ g : FuncId, (Tryz.prog.funcs[g]?).any Func.goes = false := fun g => by
    cases hg : Tryz.prog.funcs[g]? with
    | none => rfl
    | some fn =>
      have hm : fn ∈ Tryz.prog.funcs.toList := by
        have := Array.mem_of_getElem? hg
        simpa using this
      have := List.any_eq_false.1 nogo fn hm
      simpa using this
  unfold Program.goes
  have h2 : Tryz.prog.funcs.any Func.goes = false := by rw [← Array.any_toList]; exact nogo
  rw [h2, Bool.and_false, Bool.or_false]
  exact List.any_eq_false.2 fun g _ => by rw [h1 g]; simp
theorem goesBy_false {P : Program} {c : OpenClaim} (hs : c.start = .entering) (h : ∀ f, P.goes f = false) : false = c.goesBy P := by
  unfold OpenClaim.goesBy Program.goesAt Program.goesFrom
  rw [hs]
  cases P.funcNamed c.func with
  | none => rfl
  | some f => simp [h f]
theorem pinned_prog : Tryz.pinned.checked.prog = Tryz.prog := by kernel_rfl
theorem card_goes : false = Rows.worldNobodyRow.goesBy Tryz.pinned.checked.prog := by
  rw [pinned_prog]; exact goesBy_false rfl goes_no
end Go.Proofs.YtjkcgaemdjjhgaaGreatDoor
