/- Walks of chapter 06: works. -/
import Derived.Test.YthocenkedncoeaaWi
namespace Go.Proofs.Ythocenkedncoeaa
open Go.RowKit Bench06

set_option maxHeartbeats 4000000 in
set_option maxRecDepth 100000 in
theorem works_any (w : World) : Calls Try.prog 22 #[] w fun e w' => e = .returned (.bool true) ∧ Below w.heap.size w w' := by
  go_enter Try.func22, Try.ntmps22
  go_wp2_with fail
  refine (ex1 _).mono ?_
  rintro e w1 ⟨a1, c1, rfl, h1, b1⟩
  go_wp2_with (first
    | (go_at_call 15; refine (ex2 _).mono ?_; rintro e w' ⟨rfl, rfl⟩)
    | (go_at_call 18; refine (ex3 _).mono ?_; rintro e w' ⟨rfl, rfl⟩)
    | (go_at_call 20; refine (ex4 _).mono ?_; rintro e w' ⟨rfl, rfl⟩)
    | (go_at_call 23; refine (ex5 _).mono ?_; rintro e w' ⟨rfl, rfl⟩))
  refine (ex6 _).mono ?_
  rintro e w2 ⟨rfl, b2⟩
  have k2 := b1.trans (b2.mono b1.size)
  have h2 := h1.below b2
  clear b1 b2 h1
  go_wp2_with (go_at_call 41; refine (list_any _ _ _ _).mono ?_; rintro e w' ⟨rfl, rfl⟩)
  refine (ex7 _ _ _ (isL_lit _ [3, 2, 1, 0] _ _ _ rfl rfl (by omega))).mono ?_
  rintro e w3 ⟨rfl, b3⟩
  have k3 := (k2.alloc k2.size (.cells #[.int .i64 3, .int .i64 2, .int .i64 1, .int .i64 0] 3)).trans (b3.mono (by have := k2.size; simp; omega))
  have h3 := (h2.alloc (.cells #[.int .i64 3, .int .i64 2, .int .i64 1, .int .i64 0] 3)).below b3
  clear k2 h2 b3
  go_wp2_with (go_at_call 41; refine (list_any _ _ _ _).mono ?_; rintro e w' ⟨rfl, rfl⟩)
  refine (ex8 _ _ _ (isL_lit _ [0, 2, 1, 3] _ _ _ rfl rfl (by omega))).mono ?_
  rintro e w4 ⟨a2, c2, rfl, g4, b4⟩
  have k4 := (k3.alloc k3.size (.cells #[.int .i64 0, .int .i64 2, .int .i64 1, .int .i64 3] 3)).trans (b4.mono (by have := k3.size; simp; omega))
  have h4 := (h3.alloc (.cells #[.int .i64 0, .int .i64 2, .int .i64 1, .int .i64 3] 3)).below b4
  clear k3 h3 b4
  go_wp2_with fail
  refine (ex9 _).mono ?_
  rintro e w5 ⟨rfl, b5⟩
  have k5 := k4.trans (b5.mono k4.size)
  have h5 := h4.below b5
  have g5 := g4.below b5
  clear k4 h4 g4 b5
  go_wp2_with (go_at_call 41; refine (list_any _ _ _ _).mono ?_; rintro e w' ⟨rfl, rfl⟩)
  refine (ex10 _ _ _ (isL_lit _ [1, 2, 5] _ _ _ rfl rfl (by omega))).mono ?_
  rintro e w6 ⟨rfl, b6⟩
  have k6 := (k5.alloc k5.size (.cells #[.int .i64 1, .int .i64 2, .int .i64 5] 3)).trans (b6.mono (by have := k5.size; simp; omega))
  have h6 := (h5.alloc (.cells #[.int .i64 1, .int .i64 2, .int .i64 5] 3)).below b6
  have g6 := (g5.alloc (.cells #[.int .i64 1, .int .i64 2, .int .i64 5] 3)).below b6
  clear k5 h5 g5 b6
  go_wp2_with (go_at_call 41; refine (list_any _ _ _ _).mono ?_; rintro e w' ⟨rfl, rfl⟩)
  refine (ex11 _ _ _ (isL_lit _ [0, 2, 1, 3] _ _ _ rfl rfl (by omega))).mono ?_
  rintro e w7 ⟨rfl, b7⟩
  have k7 := (k6.alloc k6.size (.cells #[.int .i64 0, .int .i64 2, .int .i64 1, .int .i64 3] 3)).trans (b7.mono (by have := k6.size; simp; omega))
  have h7 := (h6.alloc (.cells #[.int .i64 0, .int .i64 2, .int .i64 1, .int .i64 3] 3)).below b7
  have g7 := (g6.alloc (.cells #[.int .i64 0, .int .i64 2, .int .i64 1, .int .i64 3] 3)).below b7
  clear k6 h6 g6 b7
  go_wp2_with (first
    | (go_at_call 18; refine (ex12 _).mono ?_; rintro e w' ⟨rfl, rfl⟩)
    | (go_at_call 41; refine (list_any _ _ _ _).mono ?_; rintro e w' ⟨rfl, rfl⟩))
  refine (same_yes _ _ _ _ _ _ _ _ _ (h7.alloc _) (isL_lit _ [2, 5, 1, 6, 4, 0, 3] _ _ _ rfl rfl (by decide)) rfl).mono ?_
  rintro e w8 ⟨rfl, b8⟩
  have k8 := (k7.alloc k7.size (.cells #[.int .i64 2, .int .i64 5, .int .i64 1, .int .i64 6, .int .i64 4, .int .i64 0, .int .i64 3] 3)).trans (b8.mono (by have := k7.size; simp; omega))
  have g8 := (g7.alloc (.cells #[.int .i64 2, .int .i64 5, .int .i64 1, .int .i64 6, .int .i64 4, .int .i64 0, .int .i64 3] 3)).below b8
  clear k7 g7 h7 b8
  go_wp2_with (go_at_call 41; refine (list_any _ _ _ _).mono ?_; rintro e w' ⟨rfl, rfl⟩)
  refine (same_yes _ _ _ _ _ _ _ _ _ (g8.alloc _) (isL_lit _ [1, 2, 0, 0] _ _ _ rfl rfl (by decide)) rfl).mono ?_
  rintro e w9 ⟨rfl, b9⟩
  have k9 := (k8.alloc k8.size (.cells #[.int .i64 1, .int .i64 2, .int .i64 0, .int .i64 0] 3)).trans (b9.mono (by have := k8.size; simp; omega))
  clear k8 g8 b9
  go_wp2
  go_ret
  exact ⟨rfl, k9⟩
end Go.Proofs.Ythocenkedncoeaa
