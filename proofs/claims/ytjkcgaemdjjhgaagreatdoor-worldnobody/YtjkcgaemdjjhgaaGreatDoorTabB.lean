/-
  The functions without a body do what the tables say.
-/
import Derived.Test.YtjkcgaemdjjhgaaGreatDoorTabA
set_option maxRecDepth 100000
namespace Go.Proofs
open Go Go.Ev
theorem xtClone : ExtAt Tryz.prog envT 144 .clone := extAt_clone (fn := Tryz.f144) (by kernel_rfl) (by kernel_rfl) (by kernel_rfl) (by kernel_rfl) (by kernel_rfl)
theorem xtIdx : ExtAt Tryz.prog envT 406 .idx := extAt_idx (fn := Tryz.f406) (by kernel_rfl) (by kernel_rfl) (by kernel_rfl) (by kernel_rfl) (by kernel_rfl)
theorem xtTypeOf : ExtAt Tryz.prog envT 140 (.typeOf 287 8) := extAt_typeOf (fn := Tryz.f140) (nm := "internal/reflectlite.rtype") (by kernel_rfl) (by kernel_rfl) (by kernel_rfl) (by kernel_rfl) (by kernel_rfl) (by kernel_rfl) (by decide) (by kernel_rfl)
noncomputable def cmpI : Array Value → Sem Value := Extern.ReflectliteType.method fun t => do Extern.Rtype.noPackHeld "Comparable" t; pure (.bool (← typeInfo t).comparable)
noncomputable def cmpT : List (Nat × AVal) := [(9, (.bool true)), (68, (.bool true)), (91, (.bool false)), (164, (.bool false)), (215, (.bool true)), (270, (.bool true)), (338, (.bool true))]
theorem cmp9 (w : World) : (cmpI #[.agg #[.pointer (some ⟨8, 9, none⟩)]]).run Tryz.prog w = .ok (.bool true) w := by kernel_rfl
theorem cmp68 (w : World) : (cmpI #[.agg #[.pointer (some ⟨8, 68, none⟩)]]).run Tryz.prog w = .ok (.bool true) w := by kernel_rfl
theorem cmp91 (w : World) : (cmpI #[.agg #[.pointer (some ⟨8, 91, none⟩)]]).run Tryz.prog w = .ok (.bool false) w := by kernel_rfl
theorem cmp164 (w : World) : (cmpI #[.agg #[.pointer (some ⟨8, 164, none⟩)]]).run Tryz.prog w = .ok (.bool false) w := by kernel_rfl
theorem cmp215 (w : World) : (cmpI #[.agg #[.pointer (some ⟨8, 215, none⟩)]]).run Tryz.prog w = .ok (.bool true) w := by kernel_rfl
theorem cmp270 (w : World) : (cmpI #[.agg #[.pointer (some ⟨8, 270, none⟩)]]).run Tryz.prog w = .ok (.bool true) w := by kernel_rfl
theorem cmp338 (w : World) : (cmpI #[.agg #[.pointer (some ⟨8, 338, none⟩)]]).run Tryz.prog w = .ok (.bool true) w := by kernel_rfl
theorem xtCmp : ExtAt Tryz.prog envT 572 (.tab 8 [(9, (.bool true)), (68, (.bool true)), (91, (.bool false)), (164, (.bool false)), (215, (.bool true)), (270, (.bool true)), (338, (.bool true))]) := extAt_tab (fn := Tryz.f572) (impl := cmpI) (by kernel_rfl) (by kernel_rfl) (by kernel_rfl) (by kernel_rfl) (by decide) (by kernel_rfl) fun t v h => by
  simp only [List.mem_cons, Prod.mk.injEq, List.not_mem_nil, or_false] at h
  rcases h with ⟨rfl, rfl⟩ | ⟨rfl, rfl⟩ | ⟨rfl, rfl⟩ | ⟨rfl, rfl⟩ | ⟨rfl, rfl⟩ | ⟨rfl, rfl⟩ | ⟨rfl, rfl⟩
  · exact ⟨_, cmp9, fun α => .bool true⟩
  · exact ⟨_, cmp68, fun α => .bool true⟩
  · exact ⟨_, cmp91, fun α => .bool false⟩
  · exact ⟨_, cmp164, fun α => .bool false⟩
  · exact ⟨_, cmp215, fun α => .bool true⟩
  · exact ⟨_, cmp270, fun α => .bool true⟩
  · exact ⟨_, cmp338, fun α => .bool true⟩
theorem xt_ok : ExtOk Tryz.prog envT xtT := extOk (show TAll (ExtAt Tryz.prog envT) xtT (fun k => k) from (.node .none .nil (.node .none (.node .none (.node .none (.node .none .nil (.node .none (.node .none (.node (.some xtClone) .nil .nil) .nil) .nil)) .nil) (.node .none .nil (.node .none (.node .none (.node .none (.node (.some xtTypeOf) .nil .nil) .nil) .nil) (.node .none .nil (.node .none (.node .none (.node .none (.node (.some xtCmp) .nil .nil) .nil) .nil) .nil))))) (.node .none .nil (.node .none (.node .none .nil (.node .none (.node .none (.node .none .nil (.node (.some xtIdx) .nil .nil)) .nil) .nil)) .nil)))))
end Go.Proofs
