/-
  The second half of the chapter's example, computed.
-/
import Derived.Test.YtjkcgaemdjjhgaaGreatDoorRunA
set_option maxRecDepth 1000000
namespace Go.Proofs
open Go Go.Ev
/-- what the call of Calm gives, from the place on where the first half ends -/
noncomputable def calmV : Option (AVal × St) := leftF envT (evN envT xtT 97) Tryz.f8 (thenO (evC (sndC (sufC 1 c8))) envT (evN envT xtT 96) (blockO 0 (evC (.loop b8) envT (evN envT xtT 94) na ns)))
theorem half5 : isTrue (leftF envT (evN envT xtT 99) Tryz.f5 (thenO (evC (sufC 1 (sufC 4 c5))) envT (evN envT xtT 98) (evC (fstC (sufC 4 c5)) envT (oneCall (evN envT xtT 98) calmV) ma ms))) = true := by kernel_rfl
end Go.Proofs
