/-
  Lives answers true and New(10) gives a pointer in every world whose table of nibbles is laid.
-/
import Derived.Test.YtjkcgaemdjjhgaaGreatDoorRunC
import Derived.Test.YtjkcgaemdjjhgaaGreatDoorWalkB
set_option maxRecDepth 1000000
namespace Go.Proofs
open Go Go.Ev
def nibC : Array Value := #[.int .u32 0, .int .u32 274646895, .int .u32 549293790, .int .u32 820201905, .int .u32 1098587580, .int .u32 1361435347, .int .u32 1640403810, .int .u32 1905808397, .int .u32 2197175160, .int .u32 2460548119, .int .u32 2722870694, .int .u32 2987750089, .int .u32 3280807620, .int .u32 3553878443, .int .u32 3811616794, .int .u32 4084100981]
def NibAt (w : World) : Prop := ∃ t, w.heap[1]? = some (.cells nibC t (0, 0))
theorem NibAt.same {w w' : World} (h : NibAt w) (hs : Same w w') : NibAt w' := by
  obtain ⟨t, h⟩ := h
  refine ⟨t, ?_⟩
  rw [hs.block 1 (by
    rcases Nat.lt_or_ge 1 w.heap.size with h1 | h1
    · exact h1
    · rw [Array.getElem?_eq_none h1] at h; cases h)]
  exact h
def α0 : Al := fun r => if r ≤ 1023 then some ⟨r, 0, 16, 0⟩ else none
theorem glob0 : Glob α0 := fun g hg => ⟨⟨g, 0, 16, 0⟩, by simp [α0, hg], rfl, rfl⟩
theorem fresh0 (m : Nat) : Fresh α0 1024 m := fun r hr _ => by simp [α0]; omega
theorem s0_get (r : Nat) : s0.heap.get r = if r = 1 then some (.cells nibT 0 false true false []) else none := by
  show (Tr.set (Tr.nil : Tr AObj) 1 _).get r = _
  rw [Tr.get_set]; rfl
theorem ok0 : Ok s0 where
  free r hr := by
    have : 1024 ≤ r := hr
    rw [s0_get, if_neg (by omega)]
  anc r o ho q hq := by
    rw [s0_get] at ho
    split at ho
    · cases ho; cases hq
    · cases ho
theorem shut0 : Shut α0 s0 := fun r L o _ ho hw => by
  rw [s0_get] at ho
  split at ho
  · cases ho; exact absurd hw.2 (by simp [spentOf])
  · cases ho
theorem nib_rel (α : Al) : VRels α nibT nibC.toList := by
  repeat (first | exact .nil | refine .cons (.int _ _) ?_)
theorem rel0 {w : World} (h : NibAt w) : Rel envT α0 s0.heap.get w := by
  obtain ⟨t, h⟩ := h
  have hlt : 1 < w.heap.size := by
    rcases Nat.lt_or_ge 1 w.heap.size with h1 | h1
    · exact h1
    · rw [Array.getElem?_eq_none h1] at h; cases h
  have key : ∀ r L o, α0 r = some L → s0.heap.get r = some o → r = 1 ∧ L = ⟨1, 0, 16, 0⟩ ∧ o = .cells nibT 0 false true false [] := fun r L o ha ho => by
    rw [s0_get] at ho
    split at ho
    · rename_i h1; subst h1
      cases ho
      simp [α0] at ha
      exact ⟨rfl, ha.symm, rfl⟩
    · cases ho
  refine ⟨fun r L o ha ho _ => ?_, fun r L o ha ho => ?_, fun r1 r2 L1 L2 o1 o2 hne a1 a2 b1 b2 _ _ _ => ?_⟩
  · obtain ⟨_, rfl, _⟩ := key r L o ha ho; exact hlt
  · obtain ⟨_, rfl, rfl⟩ := key r L o ha ho
    refine ⟨nibC, t, (0, 0), h, by decide, by decide, fun i v hi => ?_, fun i _ hf => ?_, fun _ => rfl, fun hl => by cases hl⟩
    · obtain ⟨v', h1, h2⟩ := (nib_rel α0).get hi
      exact ⟨v', by rw [Nat.zero_add]; simpa using h1, h2⟩
    · have h1 : i < 0 := hf.2
      omega
  · obtain ⟨e1, _, _⟩ := key r1 L1 o1 a1 b1
    obtain ⟨e2, _, _⟩ := key r2 L2 o2 a2 b2
    omega
theorem f5_in : envT.fn.get 5 = some Tryz.f5 := by kernel_rfl
theorem f5_body : Tryz.f5.body = some c5 := by kernel_rfl
theorem isTrue_some {o : Option (AVal × St)} (h : isTrue o = true) : ∃ s', o = some (.bool true, s') := by
  match o, h with
  | some (.bool true, s'), _ => exact ⟨s', rfl⟩
theorem lives_ok (w : World) (hn : NibAt w) : Calls Tryz.prog 5 #[] w fun e w' => e = .returned (.bool true) ∧ Same w w' := by
  obtain ⟨s', hs⟩ := isTrue_some run39
  refine (evN_calls env_ok xt_ok f5_in f5_body hs (rel0 hn) glob0 ok0 (fresh0 _) .nil).mono fun e w' ⟨v', β, he, hv, st⟩ => ?_
  subst he
  cases hv
  exact ⟨rfl, st.world shut0⟩
end Go.Proofs
namespace Go.Proofs
open Go Go.Ev
noncomputable def isPtr : Option (AVal × St) → Bool
  | some (.ptr _ _, _) => true
  | _ => false
theorem run_new : isPtr ((evN envT xtT 100).call (.func (.func 7) [] []) [i 10] s0) = true := by kernel_rfl
theorem isPtr_some {o : Option (AVal × St)} (h : isPtr o = true) : ∃ r n s', o = some (.ptr r n, s') := by
  match o, h with
  | some (.ptr r n, s'), _ => exact ⟨r, n, s', rfl⟩
theorem f7_in : envT.fn.get 7 = some Tryz.f7 := by kernel_rfl
theorem f7_body : Tryz.f7.body = some (bodyOr Tryz.f7) := by kernel_rfl
def SomePtr (w : World) (e : Ending) (w' : World) : Prop := (∃ a, e = .returned (.pointer (some a))) ∧ Same w w'
theorem new_ok (w : World) (hn : NibAt w) : Calls Tryz.prog 7 #[.int .i64 10] w (SomePtr w) := by
  obtain ⟨r, n, s', hs⟩ := isPtr_some run_new
  refine (evN_calls env_ok xt_ok f7_in f7_body hs (rel0 hn) glob0 ok0 (fresh0 _) (.cons (.int _ _) .nil)).mono fun e w' ⟨v', β, he, hv, st⟩ => ?_
  subst he
  cases hv
  exact ⟨⟨_, rfl⟩, st.world shut0⟩
end Go.Proofs
