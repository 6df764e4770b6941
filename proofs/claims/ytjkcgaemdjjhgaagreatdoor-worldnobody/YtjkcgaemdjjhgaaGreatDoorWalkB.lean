/-
  Light of one act ends with a bool, and Do of no world does nothing.
-/
import Derived.Test.YtjkcgaemdjjhgaaGreatDoorProg
import Derived.WalkKit
import Derived.ProofKit
import Derived.Lib.Hide
import Derived.Test.YtjkcgaemdjjhgaaGreatDoorEvG
namespace Go.Proofs
open Go
def SomeBool (w : World) (e : Ending) (w' : World) : Prop := (∃ b : Bool, e = .returned (.bool b)) ∧ Go.Ev.Same w w'
theorem Same.alloc {w w' : World} (h : Go.Ev.Same w w') (o : Obj) : Go.Ev.Same w (w'.alloc o) :=
  ⟨h.os, h.out, by have := h.size; simp only [World.alloc, Array.size_push]; omega, fun b hb => by
    rw [← h.block b hb]
    have := h.size
    simp only [World.alloc]
    rw [Array.getElem?_push, if_neg (by omega)]⟩
theorem Same.cells {W w1 : World} (h : Go.Ev.Same W w1) : ∀ b o, b < W.heap.size → w1.cell? ⟨b, o, none⟩ = W.cell? ⟨b, o, none⟩ := fun b o hb => by
  simp only [World.cell?, h.block b hb]
theorem Same.frozen {W w1 : World} (h : Go.Ev.Same W w1) : ∀ b o, b < W.heap.size → w1.frozen? ⟨b, o, none⟩ = W.frozen? ⟨b, o, none⟩ := fun b o hb => by
  simp only [World.frozen?, h.block b hb]
theorem lt_of_cell {w : World} {b o : Nat} {v : Value} (h : w.cell? ⟨b, o, none⟩ = some v) : b < w.heap.size := by
  rcases Nat.lt_or_ge b w.heap.size with h1 | h1
  · exact h1
  · simp [World.cell?, Array.getElem?_eq_none h1] at h
set_option maxHeartbeats 1000000 in
theorem light10 (b : Nat) (w : World) (x : Int) (p t : ByteArray) (a8 : Option Addr) (l8 k8 : Nat) (h0 : w.cell? ⟨b, 0, none⟩ = some (.int .i64 x)) (h1 : w.cell? ⟨b, 1, none⟩ = some (.string p)) (h2 : w.cell? ⟨b, 2, none⟩ = some (.string t)) (h3 : w.cell? ⟨b, 3, none⟩ = some (.slice a8 l8 k8)) :
    Calls Tryz.prog 17 #[.slice (some ⟨b, 0, none⟩) 1 1] w (SomeBool w) := by
  go_enter Tryz.func17, Tryz.ntmps17
  go_wp2
  refine wp_loop_rounds 2 ?_
  rw [rounds_succ]
  go_wp2
  rw [rounds_succ]
  go_wp2
  go_ret
  exact ⟨⟨_, rfl⟩, Same.alloc (Go.Ev.Same.refl w) _⟩
end Go.Proofs
namespace Go.Proofs
open Go
theorem cell_new (w : World) (C : Array Value) (T j : Nat) {b : Nat} (hb : b = w.heap.size) : (w.alloc (.cells C T)).cell? ⟨b, j, none⟩ = C[j]? := by
  subst hb
  simp only [World.cell?, World.alloc, Array.getElem?_push, if_true]; rfl
theorem cell_old (w : World) (o : Obj) {b j : Nat} (h : b < w.heap.size) : (w.alloc o).cell? ⟨b, j, none⟩ = w.cell? ⟨b, j, none⟩ := by
  simp only [World.cell?, World.alloc, Array.getElem?_push, if_neg (Nat.ne_of_lt h)]
theorem size_alloc (w : World) (o : Obj) : (w.alloc o).heap.size = w.heap.size + 1 := by simp only [World.alloc, Array.size_push]
set_option maxRecDepth 100000 in
set_option maxHeartbeats 2000000 in
theorem light39 (b : Nat) (w : World) (x0 x1 x2 x3 x4 x5 : Int) (p t : ByteArray) (a8 a9 a10 : Option Addr) (l8 k8 l9 k9 l10 k10 : Nat)
    (h0 : w.cell? ⟨b, 0, none⟩ = some (.int .i64 x0)) (h1 : w.cell? ⟨b, 1, none⟩ = some (.int .i64 x1)) (h2 : w.cell? ⟨b, 2, none⟩ = some (.int .i64 x2)) (h3 : w.cell? ⟨b, 3, none⟩ = some (.int .i64 x3))
    (h4 : w.cell? ⟨b, 4, none⟩ = some (.int .u32 x4)) (h5 : w.cell? ⟨b, 5, none⟩ = some (.int .i64 x5)) (h6 : w.cell? ⟨b, 6, none⟩ = some (.string p)) (h7 : w.cell? ⟨b, 7, none⟩ = some (.string t))
    (h8 : w.cell? ⟨b, 8, none⟩ = some (.slice a8 l8 k8)) (h9 : w.cell? ⟨b, 9, none⟩ = some (.slice a9 l9 k9)) (h10 : w.cell? ⟨b, 10, none⟩ = some (.slice a10 l10 k10))
    (hl : ¬ 20 < (l10 : Int)) (hch : ∀ k : Nat, k < l10 → ∃ (cb co : Nat) (s : ByteArray) (y : Int), a10 = some ⟨cb, co, none⟩ ∧ w.cell? ⟨cb, co + k * 2, none⟩ = some (.string s) ∧ w.cell? ⟨cb, co + k * 2 + 1, none⟩ = some (.int .i64 y)) :
    Calls Tryz.prog 4 #[.slice (some ⟨b, 0, none⟩) 1 1, .int .i64 1] w (SomeBool w) := by
  have HC := Lib.hid hch
  clear hch
  go_enter Tryz.func4, Tryz.ntmps4
  go_wp2
  refine wp_loop_rounds 2 ?_
  rw [rounds_succ]
  go_wp2_with fail
  refine (light10 (w.heap.size + 1) _ x5 p t a8 l8 k8 ((cell_new _ _ _ _ (size_alloc _ _).symm).trans rfl) ((cell_new _ _ _ _ (size_alloc _ _).symm).trans rfl) ((cell_new _ _ _ _ (size_alloc _ _).symm).trans rfl) ((cell_new _ _ _ _ (size_alloc _ _).symm).trans rfl)).mono ?_
  rintro e w1 ⟨⟨bb, rfl⟩, hs⟩
  have d8 : w1.cell? ⟨w.heap.size, 8, none⟩ = some (.slice a8 l8 k8) := by
    rw [Same.cells hs _ _ (by rw [size_alloc, size_alloc]; omega), cell_old _ _ (by rw [size_alloc]; omega), cell_new _ _ _ _ rfl]; rfl
  have d9 : w1.cell? ⟨w.heap.size, 9, none⟩ = some (.slice a9 l9 k9) := by
    rw [Same.cells hs _ _ (by rw [size_alloc, size_alloc]; omega), cell_old _ _ (by rw [size_alloc]; omega), cell_new _ _ _ _ rfl]; rfl
  have d10 : w1.cell? ⟨w.heap.size, 10, none⟩ = some (.slice a10 l10 k10) := by
    rw [Same.cells hs _ _ (by rw [size_alloc, size_alloc]; omega), cell_old _ _ (by rw [size_alloc]; omega), cell_new _ _ _ _ rfl]; rfl
  have hz : w.heap.size + 1 < w1.heap.size := by have := hs.size; rw [size_alloc, size_alloc] at this; omega
  have HB := Lib.hid ((Same.alloc (Same.alloc (Go.Ev.Same.refl w) _) _).trans hs)
  clear hs
  cases bb
  · go_wp2
    go_ret
    exact ⟨⟨_, rfl⟩, HB.out⟩
  · go_wp2_with fail
    go_loopw [5, 30] (fun n i W => ∃ (m : Int) (k : Nat), n = .int .i64 m ∧ i = .int .i64 k ∧ k ≤ l10 ∧ Go.Ev.Same w1 W) (fun _ i _ => l10 - (RowKit.intOf i).toNat)
    case atStart => exact ⟨0, 0, rfl, rfl, Nat.zero_le _, Go.Ev.Same.refl _⟩
    case round =>
      obtain ⟨m, k, rfl, rfl, hk, hS⟩ := hrel
      have HS := Lib.hid hS
      by_cases hlt : k < l10
      · obtain ⟨cb, co, s, y, ha, hc0, hc1⟩ := HC.out k hlt
        subst ha
        have e0 : wr.cell? ⟨cb, co + k * 2, none⟩ = some (.string s) := by
          rw [Same.cells (HB.out.trans hS) _ _ (lt_of_cell hc0)]; exact hc0
        have e1 : wr.cell? ⟨cb, co + k * 2 + 1, none⟩ = some (.int .i64 y) := by
          rw [Same.cells (HB.out.trans hS) _ _ (lt_of_cell hc0)]; exact hc1
        clear hS hc0 hc1 HC
        go_wp2_with fail
        go_roundw
        case rel => exact ⟨_, k + 1, rfl, by go_num, by omega, Same.alloc HS.out _⟩
        case measure => simp [RowKit.intOf]; omega
      · have f8 : wr.cell? ⟨w.heap.size, 8, none⟩ = some (.slice a8 l8 k8) := by rw [Same.cells hS _ _ (by omega)]; exact d8
        have f9 : wr.cell? ⟨w.heap.size, 9, none⟩ = some (.slice a9 l9 k9) := by rw [Same.cells hS _ _ (by omega)]; exact d9
        have HS2 := Lib.hid (HB.out.trans hS)
        clear hS HC d8 d9 d10 HS HB
        have hlt' : ¬ ((k : Int) < (l10 : Int)) := by omega
        go_wp2_with fail
        rw [rounds_succ]
        go_wp2_with fail
        go_ret
        exact ⟨⟨_, rfl⟩, HS2.out⟩
end Go.Proofs
namespace Go.Proofs
open Go
set_option maxRecDepth 100000 in
set_option maxHeartbeats 2000000 in
theorem light39_big (b : Nat) (w : World) (x0 x1 x2 x3 x4 x5 : Int) (p t : ByteArray) (a8 a9 a10 : Option Addr) (l8 k8 l9 k9 l10 k10 : Nat)
    (h0 : w.cell? ⟨b, 0, none⟩ = some (.int .i64 x0)) (h1 : w.cell? ⟨b, 1, none⟩ = some (.int .i64 x1)) (h2 : w.cell? ⟨b, 2, none⟩ = some (.int .i64 x2)) (h3 : w.cell? ⟨b, 3, none⟩ = some (.int .i64 x3))
    (h4 : w.cell? ⟨b, 4, none⟩ = some (.int .u32 x4)) (h5 : w.cell? ⟨b, 5, none⟩ = some (.int .i64 x5)) (h6 : w.cell? ⟨b, 6, none⟩ = some (.string p)) (h7 : w.cell? ⟨b, 7, none⟩ = some (.string t))
    (h8 : w.cell? ⟨b, 8, none⟩ = some (.slice a8 l8 k8)) (h9 : w.cell? ⟨b, 9, none⟩ = some (.slice a9 l9 k9)) (h10 : w.cell? ⟨b, 10, none⟩ = some (.slice a10 l10 k10))
    (hl : 20 < (l10 : Int)) :
    Calls Tryz.prog 4 #[.slice (some ⟨b, 0, none⟩) 1 1, .int .i64 1] w (SomeBool w) := by
  go_enter Tryz.func4, Tryz.ntmps4
  go_wp2
  refine wp_loop_rounds 2 ?_
  rw [rounds_succ]
  go_wp2_with fail
  refine (light10 (w.heap.size + 1) _ x5 p t a8 l8 k8 ((cell_new _ _ _ _ (size_alloc _ _).symm).trans rfl) ((cell_new _ _ _ _ (size_alloc _ _).symm).trans rfl) ((cell_new _ _ _ _ (size_alloc _ _).symm).trans rfl) ((cell_new _ _ _ _ (size_alloc _ _).symm).trans rfl)).mono ?_
  rintro e w1 ⟨⟨bb, rfl⟩, hs⟩
  have d10 : w1.cell? ⟨w.heap.size, 10, none⟩ = some (.slice a10 l10 k10) := by
    rw [Same.cells hs _ _ (by rw [size_alloc, size_alloc]; omega), cell_old _ _ (by rw [size_alloc]; omega), cell_new _ _ _ _ rfl]; rfl
  have HB := Lib.hid ((Same.alloc (Same.alloc (Go.Ev.Same.refl w) _) _).trans hs)
  clear hs
  cases bb
  · go_wp2
    go_ret
    exact ⟨⟨_, rfl⟩, HB.out⟩
  · go_wp2
    go_ret
    exact ⟨⟨_, rfl⟩, HB.out⟩
set_option maxHeartbeats 1000000 in
theorem do_nil (b : Nat) (w : World) (x0 x1 x2 x3 x4 x5 : Int) (p t : ByteArray) (a8 a9 a10 : Option Addr) (l8 k8 l9 k9 l10 k10 : Nat)
    (h0 : w.cell? ⟨b, 0, none⟩ = some (.int .i64 x0)) (h1 : w.cell? ⟨b, 1, none⟩ = some (.int .i64 x1)) (h2 : w.cell? ⟨b, 2, none⟩ = some (.int .i64 x2)) (h3 : w.cell? ⟨b, 3, none⟩ = some (.int .i64 x3))
    (h4 : w.cell? ⟨b, 4, none⟩ = some (.int .u32 x4)) (h5 : w.cell? ⟨b, 5, none⟩ = some (.int .i64 x5)) (h6 : w.cell? ⟨b, 6, none⟩ = some (.string p)) (h7 : w.cell? ⟨b, 7, none⟩ = some (.string t))
    (h8 : w.cell? ⟨b, 8, none⟩ = some (.slice a8 l8 k8)) (h9 : w.cell? ⟨b, 9, none⟩ = some (.slice a9 l9 k9)) (h10 : w.cell? ⟨b, 10, none⟩ = some (.slice a10 l10 k10)) :
    Calls Tryz.prog 6 #[.pointer none, .slice (some ⟨b, 0, none⟩) 1 1] w fun e w' => e = .returned (.tuple #[]) ∧ Go.Ev.Same w w' := by
  go_enter Tryz.func6, Tryz.ntmps6
  go_wp2
  refine wp_loop_rounds 1 ?_
  rw [rounds_succ]
  go_wp2
  refine bodyPost_ret (results_none rfl _ _ _) rfl ?_
  exact ⟨rfl, Same.alloc (Go.Ev.Same.refl w) _⟩
end Go.Proofs
