/-
  WorldNobody answers true at every act and side.
-/
import Derived.Test.YtjkcgaemdjjhgaaGreatDoorWalkA
import Derived.Test.YtjkcgaemdjjhgaaGreatDoorWalkC
set_option maxRecDepth 1000000
namespace Go.Proofs
open Go
theorem light39_any (b : Nat) (w : World) (x0 x1 x2 x3 x4 x5 : Int) (p t : ByteArray) (a8 a9 a10 : Option Addr) (l8 k8 l9 k9 l10 k10 : Nat)
    (h0 : w.cell? ⟨b, 0, none⟩ = some (.int .i64 x0)) (h1 : w.cell? ⟨b, 1, none⟩ = some (.int .i64 x1)) (h2 : w.cell? ⟨b, 2, none⟩ = some (.int .i64 x2)) (h3 : w.cell? ⟨b, 3, none⟩ = some (.int .i64 x3))
    (h4 : w.cell? ⟨b, 4, none⟩ = some (.int .u32 x4)) (h5 : w.cell? ⟨b, 5, none⟩ = some (.int .i64 x5)) (h6 : w.cell? ⟨b, 6, none⟩ = some (.string p)) (h7 : w.cell? ⟨b, 7, none⟩ = some (.string t))
    (h8 : w.cell? ⟨b, 8, none⟩ = some (.slice a8 l8 k8)) (h9 : w.cell? ⟨b, 9, none⟩ = some (.slice a9 l9 k9)) (h10 : w.cell? ⟨b, 10, none⟩ = some (.slice a10 l10 k10))
    (hch : ∀ k : Nat, k < l10 → ∃ (cb co : Nat) (s : ByteArray) (y : Int), a10 = some ⟨cb, co, none⟩ ∧ w.cell? ⟨cb, co + k * 2, none⟩ = some (.string s) ∧ w.cell? ⟨cb, co + k * 2 + 1, none⟩ = some (.int .i64 y)) :
    Calls Tryz.prog 4 #[.slice (some ⟨b, 0, none⟩) 1 1, .int .i64 1] w (SomeBool w) := by
  by_cases hl : 20 < (l10 : Int)
  · exact light39_big b w x0 x1 x2 x3 x4 x5 p t a8 a9 a10 l8 k8 l9 k9 l10 k10 h0 h1 h2 h3 h4 h5 h6 h7 h8 h9 h10 hl
  · exact light39 b w x0 x1 x2 x3 x4 x5 p t a8 a9 a10 l8 k8 l9 k9 l10 k10 h0 h1 h2 h3 h4 h5 h6 h7 h8 h9 h10 hl hch
set_option maxHeartbeats 4000000 in
theorem law_walk (W : World) (x0 x1 x2 x3 x4 x5 : Int) (p t : ByteArray) (a8 a9 a10 : Option Addr) (l8 k8 l9 k9 l10 k10 : Nat) (side : Int) (hn : NibAt W)
    (hch : ∀ k : Nat, k < l10 → ∃ (cb co : Nat) (s : ByteArray) (y : Int), a10 = some ⟨cb, co, none⟩ ∧ W.cell? ⟨cb, co + k * 2, none⟩ = some (.string s) ∧ W.cell? ⟨cb, co + k * 2 + 1, none⟩ = some (.int .i64 y)) :
    Calls Tryz.prog 3 #[.agg #[.int .i64 x0, .int .i64 x1, .int .i64 x2, .int .i64 x3, .int .u32 x4, .int .i64 x5, .string p, .string t, .slice a8 l8 k8, .slice a9 l9 k9, .slice a10 l10 k10], .int .i64 side] W fun e w' => e = .returned (.bool true) ∧ Go.Ev.Same W w' := by
  have HN := Lib.hid hn
  have HC := Lib.hid hch
  clear hn hch
  go_enter Tryz.func3, Tryz.ntmps3
  go_wp2_with fail
  refine (light39_any (W.heap.size + 1) _ x0 x1 x2 x3 x4 x5 p t a8 a9 a10 l8 k8 l9 k9 l10 k10 ((cell_new _ _ _ _ (size_alloc _ _).symm).trans rfl) ((cell_new _ _ _ _ (size_alloc _ _).symm).trans rfl) ((cell_new _ _ _ _ (size_alloc _ _).symm).trans rfl) ((cell_new _ _ _ _ (size_alloc _ _).symm).trans rfl) ((cell_new _ _ _ _ (size_alloc _ _).symm).trans rfl) ((cell_new _ _ _ _ (size_alloc _ _).symm).trans rfl) ((cell_new _ _ _ _ (size_alloc _ _).symm).trans rfl) ((cell_new _ _ _ _ (size_alloc _ _).symm).trans rfl) ((cell_new _ _ _ _ (size_alloc _ _).symm).trans rfl) ((cell_new _ _ _ _ (size_alloc _ _).symm).trans rfl) ((cell_new _ _ _ _ (size_alloc _ _).symm).trans rfl) (fun k hk => by
    obtain ⟨cb, co, s, y, h1, h2, h3⟩ := HC.out k hk
    have hb := lt_of_cell h2
    exact ⟨cb, co, s, y, h1, by rw [cell_old _ _ (by rw [size_alloc]; omega), cell_old _ _ hb]; exact h2, by rw [cell_old _ _ (by rw [size_alloc]; omega), cell_old _ _ hb]; exact h3⟩)).mono ?_
  rintro e w1 ⟨⟨bb, rfl⟩, hs⟩
  have e0 : ∀ j : Nat, w1.cell? ⟨W.heap.size, j, none⟩ = (#[.int .i64 x0, .int .i64 x1, .int .i64 x2, .int .i64 x3, .int .u32 x4, .int .i64 x5, .string p, .string t, .slice a8 l8 k8, .slice a9 l9 k9, .slice a10 l10 k10] : Array Value)[j]? := fun j => by
    rw [Same.cells hs _ _ (by rw [size_alloc, size_alloc]; omega), cell_old _ _ (by rw [size_alloc]; omega), cell_new _ _ _ _ rfl]
  have HS := Lib.hid ((Same.alloc (Same.alloc (Go.Ev.Same.refl W) _) _).trans hs)
  have hz : W.heap.size + 1 < w1.heap.size := by have := hs.size; rw [size_alloc, size_alloc] at this; omega
  clear hs HC
  cases bb
  · go_wp2_with (go_at_call 5; refine (lives_ok _ (HN.out.same HS.out)).mono ?_; rintro e w5 ⟨rfl, hS5⟩)
    go_ret
    exact ⟨rfl, HS.out.trans hS5⟩
  · have e00 := e0 0
    have e01 := e0 1
    have e02 := e0 2
    have e03 := e0 3
    have e04 := e0 4
    have e05 := e0 5
    have e06 := e0 6
    have e07 := e0 7
    have e08 := e0 8
    have e09 := e0 9
    have e10 := e0 10
    clear e0
    simp only [List.getElem?_toArray, List.getElem?_cons_zero, List.getElem?_cons_succ] at e00 e01 e02 e03 e04 e05 e06 e07 e08 e09 e10
    go_wp2_with fail
    refine (do_nil w1.heap.size _ x0 x1 x2 x3 x4 x5 p t a8 a9 a10 l8 k8 l9 k9 l10 k10 ((cell_new _ _ _ _ rfl).trans rfl) ((cell_new _ _ _ _ rfl).trans rfl) ((cell_new _ _ _ _ rfl).trans rfl) ((cell_new _ _ _ _ rfl).trans rfl) ((cell_new _ _ _ _ rfl).trans rfl) ((cell_new _ _ _ _ rfl).trans rfl) ((cell_new _ _ _ _ rfl).trans rfl) ((cell_new _ _ _ _ rfl).trans rfl) ((cell_new _ _ _ _ rfl).trans rfl) ((cell_new _ _ _ _ rfl).trans rfl) ((cell_new _ _ _ _ rfl).trans rfl)).mono ?_
    rintro e w2 ⟨rfl, hS2⟩
    have HS2 := Lib.hid (HS.out.trans ((Same.alloc (Go.Ev.Same.refl w1) _).trans hS2))
    clear hS2 e00 e01 e02 e03 e04 e05 e06 e07 e08 e09 e10 hz HS
    go_wp2_with fail
    refine (new_ok _ (HN.out.same HS2.out)).mono ?_
    rintro e w3 ⟨⟨a, rfl⟩, hS3⟩
    have HS3 := Lib.hid (HS2.out.trans hS3)
    clear hS3 HS2
    by_cases g1 : side = 1
    · subst g1
      go_wp2_with (first
        | (go_at_call 8; ((with_reducible refine (calm_nil _).mono ?_); rintro e w' ⟨rfl, rfl⟩))
        | (go_at_call 9; ((with_reducible refine (fs_nil _).mono ?_); rintro e w' ⟨rfl, rfl⟩))
        | (go_at_call 10; ((with_reducible refine (book_nil _).mono ?_); rintro e w' ⟨rfl, rfl⟩))
        | (go_at_call 11; ((with_reducible refine (client_nil _).mono ?_); rintro e w' ⟨rfl, rfl⟩))
        | (go_at_call 12; ((with_reducible refine (port_nil _).mono ?_); rintro e w' ⟨rfl, rfl⟩))
        | (go_at_call 13; ((with_reducible refine (wish_nil _).mono ?_); rintro e w' ⟨rfl, rfl⟩))
        | (go_at_call 14; ((with_reducible refine (said_nil _).mono ?_); rintro e w' ⟨rfl, rfl⟩))
        | (go_at_call 15; ((with_reducible refine (under_nil _).mono ?_); rintro e w' ⟨rfl, rfl⟩))
        | (go_at_call 16; ((with_reducible refine (acts_nil _).mono ?_); rintro e w' ⟨rfl, rfl⟩))
        | (go_at_call 9; ((with_reducible refine (fs_side a 0 _ (by decide) (by decide)).mono ?_); rintro e w' ⟨rfl, rfl⟩))
        | (go_at_call 10; ((with_reducible refine (book_side a 0 _ (by decide) (by decide)).mono ?_); rintro e w' ⟨rfl, rfl⟩))
        | (go_at_call 15; ((with_reducible refine (under_side a 0 _ (by decide) (by decide)).mono ?_); rintro e w' ⟨rfl, rfl⟩))
        | (go_at_call 14; ((with_reducible refine (said_neg a _).mono ?_); rintro e w' ⟨rfl, rfl⟩))
        | (go_at_call 14; ((with_reducible refine (said_big a _).mono ?_); rintro e w' ⟨rfl, rfl⟩))
        | (go_at_call 5; refine (lives_ok _ (HN.out.same HS3.out)).mono ?_; rintro e w5 ⟨rfl, hS5⟩))
      go_ret
      exact ⟨rfl, HS3.out.trans hS5⟩
    by_cases g2 : side = 2
    · subst g2
      go_wp2_with (first
        | (go_at_call 8; ((with_reducible refine (calm_nil _).mono ?_); rintro e w' ⟨rfl, rfl⟩))
        | (go_at_call 9; ((with_reducible refine (fs_nil _).mono ?_); rintro e w' ⟨rfl, rfl⟩))
        | (go_at_call 10; ((with_reducible refine (book_nil _).mono ?_); rintro e w' ⟨rfl, rfl⟩))
        | (go_at_call 11; ((with_reducible refine (client_nil _).mono ?_); rintro e w' ⟨rfl, rfl⟩))
        | (go_at_call 12; ((with_reducible refine (port_nil _).mono ?_); rintro e w' ⟨rfl, rfl⟩))
        | (go_at_call 13; ((with_reducible refine (wish_nil _).mono ?_); rintro e w' ⟨rfl, rfl⟩))
        | (go_at_call 14; ((with_reducible refine (said_nil _).mono ?_); rintro e w' ⟨rfl, rfl⟩))
        | (go_at_call 15; ((with_reducible refine (under_nil _).mono ?_); rintro e w' ⟨rfl, rfl⟩))
        | (go_at_call 16; ((with_reducible refine (acts_nil _).mono ?_); rintro e w' ⟨rfl, rfl⟩))
        | (go_at_call 9; ((with_reducible refine (fs_side a 0 _ (by decide) (by decide)).mono ?_); rintro e w' ⟨rfl, rfl⟩))
        | (go_at_call 10; ((with_reducible refine (book_side a 0 _ (by decide) (by decide)).mono ?_); rintro e w' ⟨rfl, rfl⟩))
        | (go_at_call 15; ((with_reducible refine (under_side a 0 _ (by decide) (by decide)).mono ?_); rintro e w' ⟨rfl, rfl⟩))
        | (go_at_call 14; ((with_reducible refine (said_neg a _).mono ?_); rintro e w' ⟨rfl, rfl⟩))
        | (go_at_call 14; ((with_reducible refine (said_big a _).mono ?_); rintro e w' ⟨rfl, rfl⟩))
        | (go_at_call 5; refine (lives_ok _ (HN.out.same HS3.out)).mono ?_; rintro e w5 ⟨rfl, hS5⟩))
      go_ret
      exact ⟨rfl, HS3.out.trans hS5⟩
    · have q1 : (side == 1) = false := by simpa using g1
      have q2 : (side == 2) = false := by simpa using g2
      clear g1 g2
      go_wp2_with (first
        | (go_at_call 8; ((with_reducible refine (calm_nil _).mono ?_); rintro e w' ⟨rfl, rfl⟩))
        | (go_at_call 9; ((with_reducible refine (fs_nil _).mono ?_); rintro e w' ⟨rfl, rfl⟩))
        | (go_at_call 10; ((with_reducible refine (book_nil _).mono ?_); rintro e w' ⟨rfl, rfl⟩))
        | (go_at_call 11; ((with_reducible refine (client_nil _).mono ?_); rintro e w' ⟨rfl, rfl⟩))
        | (go_at_call 12; ((with_reducible refine (port_nil _).mono ?_); rintro e w' ⟨rfl, rfl⟩))
        | (go_at_call 13; ((with_reducible refine (wish_nil _).mono ?_); rintro e w' ⟨rfl, rfl⟩))
        | (go_at_call 14; ((with_reducible refine (said_nil _).mono ?_); rintro e w' ⟨rfl, rfl⟩))
        | (go_at_call 15; ((with_reducible refine (under_nil _).mono ?_); rintro e w' ⟨rfl, rfl⟩))
        | (go_at_call 16; ((with_reducible refine (acts_nil _).mono ?_); rintro e w' ⟨rfl, rfl⟩))
        | (go_at_call 9; ((with_reducible refine (fs_side a side _ q1 q2).mono ?_); rintro e w' ⟨rfl, rfl⟩))
        | (go_at_call 10; ((with_reducible refine (book_side a side _ q1 q2).mono ?_); rintro e w' ⟨rfl, rfl⟩))
        | (go_at_call 15; ((with_reducible refine (under_side a side _ q1 q2).mono ?_); rintro e w' ⟨rfl, rfl⟩))
        | (go_at_call 14; ((with_reducible refine (said_neg a _).mono ?_); rintro e w' ⟨rfl, rfl⟩))
        | (go_at_call 14; ((with_reducible refine (said_big a _).mono ?_); rintro e w' ⟨rfl, rfl⟩))
        | (go_at_call 5; refine (lives_ok _ (HN.out.same HS3.out)).mono ?_; rintro e w5 ⟨rfl, hS5⟩))
      go_ret
      exact ⟨rfl, HS3.out.trans hS5⟩
end Go.Proofs
