/-
  The row's contract, lifted.
-/
import Derived.Test.YtjkcgaemdjjhgaaGreatDoorOpenA
set_option maxRecDepth 100000
namespace Go.Proofs.YtjkcgaemdjjhgaaGreatDoor
open Go.ChangeShapes Go.WideShapes Go.ChangeAt Go.RowKit Go.Deep
theorem contract (H : Type) (enc : TypeId × Value → H) (W : World) (base : Nat) (args : Array Value) (ds gs : List (DataW H)) (before : List MemPlace)
    (hval : ∀ (j : Nat) t v, Tryz.f3.params[j]? = some t → args[j]? = some v → Value.okWide Tryz.prog W .any base t v)
    (hW : DataW.Whole enc Tryz.prog Tryz.f3.params.toList Rows.worldNobodySpec.vars false W args.toList ds gs before) (hL : laidMetH Tryz.prog Rows.worldNobodyRow.laid W) :
    Calls Tryz.prog 3 args W fun e W' => ∃ v, e = .returned v ∧ Rows.worldNobodySpec.post enc Tryz.prog Tryz.f3 false true false false W args v W' := by
  have hW' := hW
  obtain ⟨p, q, hA0, hV, rfl, hfz, hnd⟩ := hW
  have hA : DataW.TrodAll enc Tryz.prog W 0 (fun _ => true) true Tryz.f3.params.toList args.toList ds p := hA0
  rw [Tryz.params3] at hA hval
  obtain ⟨v0, v1, d0, d1, p0, p1, rfl, rfl, rfl, t0, t1⟩ := trodAll_two hA
  obtain ⟨rfl, rfl⟩ := trodVars_none hV
  have t0k := t0
  have t1k := t1
  obtain ⟨cs, rfl, hsz⟩ := okWide_struct Tryz.underlying29 (hval 0 29 v0 rfl rfl)
  obtain ⟨cl⟩ := cs
  obtain ⟨side, rfl, rfl, rfl, ws⟩ := open_int Tryz.underlying3 (hval 1 3 v1 rfl rfl) t1
  obtain ⟨n, hn⟩ := t0
  obtain ⟨x0, x1, x2, x3, x4, x5, p, t, a8, a9, a10, l8, k8, l9, k9, l10, k10, rfl, hch⟩ := read_act (show DataW.trod enc Tryz.prog W 0 (fun _ => true) true n 29 cl = some (d0, p0) from hn)
  simp only [List.append_nil] at hW'
  have hlt : ∀ x ∈ p0, x.block < W.heap.size := fun x hx => hW'.lt x (by simpa using hx)
  refine (law_walk W x0 x1 x2 x3 x4 x5 p t a8 a9 a10 l8 k8 l9 k9 l10 k10 side (nib_at hL) hch).mono fun e W' ⟨he, hS⟩ => ?_
  subst he
  have r0 : DataW.TrodAll enc Tryz.prog W' 0 (fun b => decide (b < W.heap.size)) true [29, 3] [_, _] [d0, .lit (.int .i64 side)] (p0 ++ []) :=
    trodAll_mk2 (WideElems.Trod_stays laidOut (by kernel_rfl) (of_decide_eq_true (by kernel_rfl)) t0k (fun x hx => same_at hS x (hlt x hx)) (fun x hx => by simpa using hlt x hx)) (shut_int Tryz.underlying3 ws)
  have hp : Tryz.f3.params.toList = [29, 3] := by rw [Tryz.params3]
  refine ⟨_, rfl, _, _, _, [], p0 ++ [], [], hW', ?_, ?_, rfl, same_kept hS _, fun h => by cases h⟩
  · rw [show Tryz.f3.resultTypes = #[4] from by kernel_rfl]
    exact trodAll_mk1 (shut_bool Tryz.underlying4 _)
  · rw [hp]; exact r0
theorem lifted (os : Os) (started : os.Started) (H : Type) (enc : TypeId × Value → H) :
    ReturnsInHanded {} Tryz.checked os 3 .any (fun w args => (Rows.worldNobodySpec.pre enc Tryz.prog Tryz.f3 [] false w args ∧ laidMetH Tryz.prog Rows.worldNobodyRow.laid w) ∧ sizedMet enc Tryz.prog Tryz.f3 (OpenSpec.ofChange Rows.worldNobodySpec) false w args)
      (Rows.worldNobodySpec.post enc Tryz.prog Tryz.f3 false true false false) := by
  refine returnsInHanded_of_change_and (C := Tryz.checked) (X := fun w _ => laidMetH Tryz.prog Rows.worldNobodyRow.laid w) (fun _ _ _ hh h => h.of_heap hh) own started (by kernel_rfl) Tryz.func3
    (ChangeSpec.witness_shaped (enc := enc) (C := Tryz.checked) (os := os) (X := fun w _ => laidMetH Tryz.prog Rows.worldNobodyRow.laid w) false (World.doorLaid Tryz.prog 46 os) WA 8 rfl (w_shaped os) (w_ok os) (w_pre os H enc) (w_sized os H enc) (w_met os)) ?_
  intro W base args ds gs before hval0 hW _ _ hL _
  exact contract H enc W base args ds gs before hval0 hW hL
end Go.Proofs.YtjkcgaemdjjhgaaGreatDoor
