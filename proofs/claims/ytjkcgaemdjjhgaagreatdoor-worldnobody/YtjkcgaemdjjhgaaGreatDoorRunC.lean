/-
  Both halves are one run.
-/
import Derived.Test.YtjkcgaemdjjhgaaGreatDoorRunB
set_option maxRecDepth 1000000
namespace Go.Proofs
open Go Go.Ev
theorem body5 : bodyOf envT 5 = some (Tryz.f5, c5) := by kernel_rfl
theorem body8 : bodyOf envT 8 = some (Tryz.f8, c8) := by kernel_rfl
theorem shape8 : sufC 1 c8 = .seq (fstC (sufC 1 c8)) (sndC (sufC 1 c8)) := by kernel_rfl
theorem shape8b : sufC 1 (fstC (sufC 1 c8)) = .block 0 (.loop b8) := by kernel_rfl
theorem shape5 : sufC 4 c5 = .seq (fstC (sufC 4 c5)) (sufC 1 (sufC 4 c5)) := by kernel_rfl
theorem calm_run : (evN envT xtT 98).call (.func (.func 8) [] []) [.ptr 1038 0, i 100] ms = calmV := by
  rw [show 98 = 96 + 2 from rfl, evN_call (by kernel_rfl) body8 (by kernel_rfl), evC_from half2, shape8, evC_seq, evC_from half3, shape8b]
  show leftF envT (evN envT xtT 97) Tryz.f8 (thenO (evC (sndC (sufC 1 c8))) envT (evN envT xtT 96) (blockO 0 (evC (.loop b8) envT (evN envT xtT (2 + 94)) ca ms))) = _
  rw [iterE_ok half4]; rfl
theorem region4 (r : Rec) : evC (fstC (sufC 4 c5)) envT r ma ms = evC (fstC (sufC 4 c5)) envT (oneCall r (r.call (.func (.func 8) [] []) [.ptr 1038 0, i 100] ms)) ma ms := by kernel_rfl
theorem run39 : isTrue ((evN envT xtT 100).call (.func (.func 5) [] []) [] s0) = true := by
  rw [show 100 = 98 + 2 from rfl, evN_call (by kernel_rfl) body5 (by kernel_rfl), evC_from half1, shape5, evC_seq, region4, calm_run]
  exact half5
end Go.Proofs
