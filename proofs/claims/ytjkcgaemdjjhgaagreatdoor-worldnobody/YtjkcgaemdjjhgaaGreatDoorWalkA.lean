/-
  Small methods of World at a receiver that is nil, or a side that is neither.
-/
import Derived.Test.YtjkcgaemdjjhgaaGreatDoorProg
import Derived.WalkKit
import Derived.ProofKit
namespace Go.Proofs
open Go
theorem fs_nil (w : World) : Calls Tryz.prog 9 #[.pointer none, .int .i64 1] w fun e w' => e = .returned (.pointer none) ∧ w = w' := by
  go_enter Tryz.func9, Tryz.ntmps9
  go_wp2
  go_ret
  exact ⟨rfl, rfl⟩
theorem fs_side (a : Addr) (x : Int) (w : World) (h1 : (x == 1) = false) (h2 : (x == 2) = false) : Calls Tryz.prog 9 #[.pointer (some a), .int .i64 x] w fun e w' => e = .returned (.pointer none) ∧ w = w' := by
  go_enter Tryz.func9, Tryz.ntmps9
  go_wp2
  go_ret
  exact ⟨rfl, rfl⟩
theorem book_nil (w : World) : Calls Tryz.prog 10 #[.pointer none, .int .i64 1] w fun e w' => e = .returned (.pointer none) ∧ w = w' := by
  go_enter Tryz.func10, Tryz.ntmps10
  go_wp2
  go_ret
  exact ⟨rfl, rfl⟩
theorem book_side (a : Addr) (x : Int) (w : World) (h1 : (x == 1) = false) (h2 : (x == 2) = false) : Calls Tryz.prog 10 #[.pointer (some a), .int .i64 x] w fun e w' => e = .returned (.pointer none) ∧ w = w' := by
  go_enter Tryz.func10, Tryz.ntmps10
  go_wp2
  go_ret
  exact ⟨rfl, rfl⟩
theorem client_nil (w : World) : Calls Tryz.prog 11 #[.pointer none] w fun e w' => e = .returned (.pointer none) ∧ w = w' := by
  go_enter Tryz.func11, Tryz.ntmps11
  go_wp2
  go_ret
  exact ⟨rfl, rfl⟩
theorem port_nil (w : World) : Calls Tryz.prog 12 #[.pointer none] w fun e w' => e = .returned (.pointer none) ∧ w = w' := by
  go_enter Tryz.func12, Tryz.ntmps12
  go_wp2
  go_ret
  exact ⟨rfl, rfl⟩
theorem wish_nil (w : World) : Calls Tryz.prog 13 #[.pointer none] w fun e w' => e = .returned (.bool false) ∧ w = w' := by
  go_enter Tryz.func13, Tryz.ntmps13
  go_wp2
  go_ret
  exact ⟨rfl, rfl⟩
theorem said_nil (w : World) : Calls Tryz.prog 14 #[.pointer none, .int .i64 1] w fun e w' => e = .returned (.int .i64 0) ∧ w = w' := by
  go_enter Tryz.func14, Tryz.ntmps14
  go_wp2
  go_ret
  exact ⟨rfl, rfl⟩
theorem said_neg (a : Addr) (w : World) : Calls Tryz.prog 14 #[.pointer (some a), .int .i64 (-1)] w fun e w' => e = .returned (.int .i64 0) ∧ w = w' := by
  go_enter Tryz.func14, Tryz.ntmps14
  go_wp2
  go_ret
  exact ⟨rfl, rfl⟩
theorem said_big (a : Addr) (w : World) : Calls Tryz.prog 14 #[.pointer (some a), .int .i64 17] w fun e w' => e = .returned (.int .i64 0) ∧ w = w' := by
  go_enter Tryz.func14, Tryz.ntmps14
  go_wp2
  go_ret
  exact ⟨rfl, rfl⟩
theorem acts_nil (w : World) : Calls Tryz.prog 16 #[.pointer none] w fun e w' => e = .returned (.int .i64 0) ∧ w = w' := by
  go_enter Tryz.func16, Tryz.ntmps16
  go_wp2
  go_ret
  exact ⟨rfl, rfl⟩
theorem under_nil (w : World) : Calls Tryz.prog 15 #[.pointer none, .int .i64 1] w fun e w' => e = .returned (.int .i64 0) ∧ w = w' := by
  go_enter Tryz.func15, Tryz.ntmps15
  go_wp2
  go_ret
  exact ⟨rfl, rfl⟩
theorem to_side (a : Addr) (x : Int) (w : World) (h1 : (x == 1) = false) (h2 : (x == 2) = false) : Calls Tryz.prog 29 #[.pointer (some a), .int .i64 x] w fun e w' => e = .returned (.pointer none) ∧ w = w' := by
  go_enter Tryz.func29, Tryz.ntmps29
  go_wp2
  go_ret
  exact ⟨rfl, rfl⟩
theorem len_nil (w : World) : Calls Tryz.prog 30 #[.pointer none] w fun e w' => e = .returned (.int .i64 0) ∧ w = w' := by
  go_enter Tryz.func30, Tryz.ntmps30
  go_wp2
  go_ret
  exact ⟨rfl, rfl⟩
theorem under_side (a : Addr) (x : Int) (w : World) (h1 : (x == 1) = false) (h2 : (x == 2) = false) : Calls Tryz.prog 15 #[.pointer (some a), .int .i64 x] w fun e w' => e = .returned (.int .i64 0) ∧ w = w' := by
  go_enter Tryz.func15, Tryz.ntmps15
  go_wp2_with (first | (go_at_call 29; refine (to_side a x _ h1 h2).mono ?_; rintro e w' ⟨rfl, rfl⟩) | (go_at_call 30; refine (len_nil _).mono ?_; rintro e w' ⟨rfl, rfl⟩))
  go_ret
  exact ⟨rfl, rfl⟩
theorem calm_nil (w : World) : Calls Tryz.prog 8 #[.pointer none, .int .i64 5] w fun e w' => e = .returned (.int .i64 0) ∧ w = w' := by
  go_enter Tryz.func8, Tryz.ntmps8
  go_wp2
  refine wp_loop_rounds 1 ?_
  rw [rounds_succ]
  go_wp2_with (go_at_call 13; refine (wish_nil _).mono ?_; rintro e w' ⟨rfl, rfl⟩)
  go_ret
  exact ⟨rfl, rfl⟩
end Go.Proofs
