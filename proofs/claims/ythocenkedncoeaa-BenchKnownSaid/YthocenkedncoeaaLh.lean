/- Chapter 06: the walk of BenchKnown. -/
import Derived.Test.YthocenkedncoeaaWj
import Derived.Test.YthocenkedncoeaaLib2
namespace Go.Proofs.Ythocenkedncoeaa
open Go.RowKit Bench06

theorem below_of_eq {P : Prop} {w w' : World} (h : P ∧ w = w') : P ∧ Below w.heap.size w w' := ⟨h.1, h.2 ▸ Below.refl _ _⟩
theorem kn1 (w : World) : Calls Try.prog 13 #[.int .i64 4, .int .i64 2] w fun e w' => ∃ a c', e = .returned (.tuple #[.slice a 4 c', .int .i64 0]) ∧ IsL w' a 4 c' [1, 3, 2, 0] ∧ Below w.heap.size w w' :=
  (Order_ok 4 2 w (by omega) (by omega) (by omega) (by omega)).mono fun e w' ⟨a, c, he, ho, hb⟩ => ⟨a, c, he, by have := ho.isL; rwa [show ordL (4 : Int).toNat (2 : Int).toNat = [1, 3, 2, 0] by decide] at this, hb⟩
theorem kn2 (w : World) : Calls Try.prog 13 #[.int .i64 4, .int .i64 0] w fun e w' => e = .returned (.tuple #[.slice none 0 0, .int .i64 1]) ∧ Below w.heap.size w w' :=
  (Order_err 4 0 w (by omega)).mono fun e w' h => below_of_eq h
theorem kn3 (w : World) : Calls Try.prog 23 #[.int .i64 7, .int .i64 3, .int .i64 2] w fun e w' => e = .returned (.tuple #[.int .i64 1, .int .i64 0]) ∧ Below w.heap.size w w' :=
  (Counted_ok 7 3 2 w (by omega) (by omega) (by omega) (by omega) (by omega) (by omega)).mono fun e w' ⟨he, hw⟩ => below_of_eq ⟨he.trans (ret_i2 (by decide)), hw⟩
theorem kn4 (w : World) : Calls Try.prog 23 #[.int .i64 7, .int .i64 3, .int .i64 3] w fun e w' => e = .returned (.tuple #[.int .i64 7, .int .i64 0]) ∧ Below w.heap.size w w' :=
  (Counted_ok 7 3 3 w (by omega) (by omega) (by omega) (by omega) (by omega) (by omega)).mono fun e w' ⟨he, hw⟩ => below_of_eq ⟨he.trans (ret_i2 (by decide)), hw⟩
theorem kn5 (w : World) : Calls Try.prog 25 #[.int .i64 7] w fun e w' => e = .returned (.tuple #[.int .i64 420, .int .i64 0]) ∧ Below w.heap.size w w' :=
  (Orders_ok 7 w (by omega) (by omega)).mono fun e w' ⟨he, hw⟩ => ⟨he.trans (ret_i2 (by decide +kernel)), hw⟩
theorem kn6 (a : Option Addr) (c : Nat) (w : World) (h : IsL w a 4 c [1, 3, 2, 0]) : Calls Try.prog 29 #[.slice a 4 c] w fun e w' => e = .returned (.tuple #[.int .i64 2, .int .i64 0]) ∧ Below w.heap.size w w' :=
  (Count_ok a 4 c _ w h (by decide)).mono fun e w' ⟨he, hw⟩ => ⟨he.trans (ret_ii (by decide +kernel) (by decide +kernel)), hw⟩
theorem kn7 (a : Option Addr) (c : Nat) (w : World) (h : IsL w a 2 c [0, 0]) : Calls Try.prog 29 #[.slice a 2 c] w fun e w' => e = .returned (.tuple #[.int .i64 0, .int .i64 6]) ∧ Below w.heap.size w w' :=
  (Count_err a 2 c _ w h (by decide)).mono fun e w' ⟨he, hw⟩ => below_of_eq ⟨he.trans (ret_ii rfl (by decide)), hw⟩
theorem kn8 (a : Option Addr) (c : Nat) (w : World) (h : IsL w a 4 c [1, 3, 2, 0]) : Calls Try.prog 27 #[.slice a 4 c] w fun e w' => ∃ a' c', e = .returned (.tuple #[.slice a' 4 c', .int .i64 0]) ∧ IsL w' a' 4 c' [2, 2, 0, 0] ∧ Below w.heap.size w w' :=
  (Remainders_ok a 4 c _ w h (by decide)).mono fun e w' ⟨a, c, he, ho, hb⟩ => ⟨a, c, he, by have := ho.isL; rwa [show remL [1, 3, 2, 0] = [2, 2, 0, 0] by decide] at this, hb⟩
theorem kn9 (w : World) : Calls Try.prog 33 #[.int .i64 7, .int .i64 3] w fun e w' => e = .returned (.tuple #[.int .i64 3, .int .i64 0]) ∧ Below w.heap.size w w' :=
  (Smallest_ok 7 3 w (by omega) (by omega) (by omega) (by omega)).mono fun e w' ⟨he, hw⟩ => ⟨he.trans (ret_ii (by decide +kernel) (by decide +kernel)), hw⟩
theorem kn10 (w : World) : Calls Try.prog 33 #[.int .i64 1, .int .i64 0] w fun e w' => e = .returned (.tuple #[.int .i64 1, .int .i64 0]) ∧ Below w.heap.size w w' :=
  (Smallest_ok 1 0 w (by omega) (by omega) (by omega) (by omega)).mono fun e w' ⟨he, hw⟩ => ⟨he.trans (ret_ii (by decide +kernel) (by decide +kernel)), hw⟩
theorem kn11 (w : World) : Calls Try.prog 33 #[.int .i64 7, .int .i64 7] w fun e w' => e = .returned (.tuple #[.int .i64 0, .int .i64 2]) ∧ Below w.heap.size w w' :=
  Smallest_none 7 7 w (by omega) (by omega) (by omega)
theorem kn12 (w : World) : Calls Try.prog 35 #[.int .i64 7, .slice none 0 0] w fun e w' => e = .returned (.tuple #[.int .i64 1, .int .i64 0]) ∧ Below w.heap.size w w' :=
  (First_ok 7 none 0 0 [] w (by omega) (by omega) (IsL.nilL w)).mono fun e w' ⟨he, hw⟩ => ⟨he.trans (ret_ii (by decide +kernel) (by decide +kernel)), hw⟩
theorem kn13 (a : Option Addr) (c : Nat) (w : World) (h : IsL w a 2 c [0, 3]) : Calls Try.prog 35 #[.int .i64 4, .slice a 2 c] w fun e w' => e = .returned (.tuple #[.int .i64 4, .int .i64 0]) ∧ Below w.heap.size w w' :=
  (First_ok 4 a 2 c _ w (by omega) (by omega) h).mono fun e w' ⟨he, hw⟩ => ⟨he.trans (ret_ii (by decide +kernel) (by decide +kernel)), hw⟩
theorem kn14 (a : Option Addr) (c : Nat) (w : World) (h : IsL w a 2 c [2, 1]) : Calls Try.prog 35 #[.int .i64 7, .slice a 2 c] w fun e w' => e = .returned (.tuple #[.int .i64 0, .int .i64 7]) ∧ Below w.heap.size w w' :=
  (First_ok 7 a 2 c _ w (by omega) (by omega) h).mono fun e w' ⟨he, hw⟩ => ⟨he.trans (ret_ii (by decide +kernel) (by decide +kernel)), hw⟩

set_option maxHeartbeats 4000000 in
set_option maxRecDepth 100000 in
theorem BenchKnown_any (w : World) : Calls Try.prog 10 #[] w fun e w' => e = .returned (.bool true) ∧ Below w.heap.size w w' := by
  go_enter Try.func10, Try.ntmps10
  have k0 := Below.refl w.heap.size w
  go_wp2_with fail
  refine (kn1 _).mono ?_
  rintro e w1 ⟨a1a, c1a, rfl, h1a, b1⟩
  have k1 := k0.trans (b1.mono k0.size)
  clear k0 b1
  go_wp2_with fail
  refine (kn2 _).mono ?_
  rintro e w2 ⟨rfl, b2⟩
  have k2 := k1.trans (b2.mono k1.size)
  have g2a := h1a.below b2
  clear k1 b2 h1a
  go_wp2_with fail
  refine (kn3 _).mono ?_
  rintro e w3 ⟨rfl, b3⟩
  have k3 := k2.trans (b3.mono k2.size)
  have g3a := g2a.below b3
  clear k2 b3 g2a
  go_wp2_with fail
  refine (kn4 _).mono ?_
  rintro e w4 ⟨rfl, b4⟩
  have k4 := k3.trans (b4.mono k3.size)
  have g4a := g3a.below b4
  clear k3 b4 g3a
  go_wp2_with fail
  refine (kn5 _).mono ?_
  rintro e w5 ⟨rfl, b5⟩
  have k5 := k4.trans (b5.mono k4.size)
  have g5a := g4a.below b5
  clear k4 b5 g4a
  go_wp2_with (go_at_call 41; refine (list_any _ _ _ _).mono ?_; rintro e w' ⟨rfl, rfl⟩)
  refine (kn6 _ _ _ (isL_lit _ [1, 3, 2, 0] _ _ _ rfl rfl (by decide))).mono ?_
  rintro e w6 ⟨rfl, b6⟩
  have k6 := (k5.alloc k5.size (.cells #[.int .i64 1, .int .i64 3, .int .i64 2, .int .i64 0] 3)).trans (b6.mono (by have := k5.size; simp; omega))
  have g6a := (g5a.alloc (.cells #[.int .i64 1, .int .i64 3, .int .i64 2, .int .i64 0] 3)).below b6
  clear k5 b6 g5a
  go_wp2_with (go_at_call 41; refine (list_any _ _ _ _).mono ?_; rintro e w' ⟨rfl, rfl⟩)
  refine (kn7 _ _ _ (isL_lit _ [0, 0] _ _ _ rfl rfl (by decide))).mono ?_
  rintro e w7 ⟨rfl, b7⟩
  have k7 := (k6.alloc k6.size (.cells #[.int .i64 0, .int .i64 0] 3)).trans (b7.mono (by have := k6.size; simp; omega))
  have g7a := (g6a.alloc (.cells #[.int .i64 0, .int .i64 0] 3)).below b7
  clear k6 b7 g6a
  go_wp2_with (go_at_call 41; refine (list_any _ _ _ _).mono ?_; rintro e w' ⟨rfl, rfl⟩)
  refine (kn8 _ _ _ (isL_lit _ [1, 3, 2, 0] _ _ _ rfl rfl (by decide))).mono ?_
  rintro e w8 ⟨a8r, c8r, rfl, h8r, b8⟩
  have k8 := (k7.alloc k7.size (.cells #[.int .i64 1, .int .i64 3, .int .i64 2, .int .i64 0] 3)).trans (b8.mono (by have := k7.size; simp; omega))
  have g8a := (g7a.alloc (.cells #[.int .i64 1, .int .i64 3, .int .i64 2, .int .i64 0] 3)).below b8
  clear k7 b8 g7a
  go_wp2_with fail
  refine (kn9 _).mono ?_
  rintro e w9 ⟨rfl, b9⟩
  have k9 := k8.trans (b9.mono k8.size)
  have g9a := g8a.below b9
  have g9r := h8r.below b9
  clear k8 b9 g8a h8r
  go_wp2_with fail
  refine (kn10 _).mono ?_
  rintro e w10 ⟨rfl, b10⟩
  have k10 := k9.trans (b10.mono k9.size)
  have g10a := g9a.below b10
  have g10r := g9r.below b10
  clear k9 b10 g9a g9r
  go_wp2_with fail
  refine (kn11 _).mono ?_
  rintro e w11 ⟨rfl, b11⟩
  have k11 := k10.trans (b11.mono k10.size)
  have g11a := g10a.below b11
  have g11r := g10r.below b11
  clear k10 b11 g10a g10r
  go_wp2_with fail
  refine (kn12 _).mono ?_
  rintro e w12 ⟨rfl, b12⟩
  have k12 := k11.trans (b12.mono k11.size)
  have g12a := g11a.below b12
  have g12r := g11r.below b12
  clear k11 b12 g11a g11r
  go_wp2_with (go_at_call 41; refine (list_any _ _ _ _).mono ?_; rintro e w' ⟨rfl, rfl⟩)
  refine (kn13 _ _ _ (isL_lit _ [0, 3] _ _ _ rfl rfl (by decide))).mono ?_
  rintro e w13 ⟨rfl, b13⟩
  have k13 := (k12.alloc k12.size (.cells #[.int .i64 0, .int .i64 3] 3)).trans (b13.mono (by have := k12.size; simp; omega))
  have g13a := (g12a.alloc (.cells #[.int .i64 0, .int .i64 3] 3)).below b13
  have g13r := (g12r.alloc (.cells #[.int .i64 0, .int .i64 3] 3)).below b13
  clear k12 b13 g12a g12r
  go_wp2_with (go_at_call 41; refine (list_any _ _ _ _).mono ?_; rintro e w' ⟨rfl, rfl⟩)
  refine (kn14 _ _ _ (isL_lit _ [2, 1] _ _ _ rfl rfl (by decide))).mono ?_
  rintro e w14 ⟨rfl, b14⟩
  have k14 := (k13.alloc k13.size (.cells #[.int .i64 2, .int .i64 1] 3)).trans (b14.mono (by have := k13.size; simp; omega))
  have g14a := (g13a.alloc (.cells #[.int .i64 2, .int .i64 1] 3)).below b14
  have g14r := (g13r.alloc (.cells #[.int .i64 2, .int .i64 1] 3)).below b14
  clear k13 b14 g13a g13r
  go_wp2_with (go_at_call 41; refine (list_any _ _ _ _).mono ?_; rintro e w' ⟨rfl, rfl⟩)
  refine (same_yes _ _ _ _ _ _ _ _ _ (g14a.alloc _) (isL_lit _ [1, 3, 2, 0] _ _ _ rfl rfl (by decide)) rfl).mono ?_
  rintro e w15 ⟨rfl, b15⟩
  have k15 := (k14.alloc k14.size (.cells #[.int .i64 1, .int .i64 3, .int .i64 2, .int .i64 0] 3)).trans (b15.mono (by have := k14.size; simp; omega))
  have g15r := (g14r.alloc (.cells #[.int .i64 1, .int .i64 3, .int .i64 2, .int .i64 0] 3)).below b15
  clear k14 b15 g14a g14r
  go_wp2_with (go_at_call 41; refine (list_any _ _ _ _).mono ?_; rintro e w' ⟨rfl, rfl⟩)
  refine (same_yes _ _ _ _ _ _ _ _ _ (g15r.alloc _) (isL_lit _ [2, 2, 0, 0] _ _ _ rfl rfl (by decide)) rfl).mono ?_
  rintro e w16 ⟨rfl, b16⟩
  have k16 := (k15.alloc k15.size (.cells #[.int .i64 2, .int .i64 2, .int .i64 0, .int .i64 0] 3)).trans (b16.mono (by have := k15.size; simp; omega))
  clear k15 b16 g15r
  go_wp2_with fail
  refine (works_any _).mono ?_
  rintro e w17 ⟨rfl, b17⟩
  have k17 := k16.trans (b17.mono k16.size)
  clear k16 b17
  go_wp2
  go_ret
  exact ⟨rfl, k17⟩
end Go.Proofs.Ythocenkedncoeaa
