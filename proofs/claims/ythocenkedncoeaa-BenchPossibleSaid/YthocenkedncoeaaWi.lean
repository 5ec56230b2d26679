/- Walks of chapter 06: the law's own helpers, and the examples of the chapter. -/
import Derived.Test.YthocenkedncoeaaWh
import Derived.Test.YthocenkedncoeaaWf
namespace Go.Proofs.Ythocenkedncoeaa
open Go.RowKit Bench06

set_option maxHeartbeats 400000 in
theorem same_yes (a b : Option Addr) (n c n' c' : Nat) (l l' : List Int) (w : World) (h : IsL w a n c l) (h' : IsL w b n' c' l') (he : l = l') :
    Calls Try.prog 17 #[.slice a n c, .slice b n' c'] w fun e w' => e = .returned (.bool true) ∧ Below w.heap.size w w' := by
  subst he
  obtain rfl : n' = n := by rw [← h.len, ← h'.len]
  have hcap := h.cap
  have hle := h.le
  have hcap' := h'.cap
  have hle' := h'.le
  have hr : ((n' : Int) != (n' : Int)) = false := by simp
  go_enter Try.func17, Try.ntmps17
  go_wp2
  go_loopw [5] (fun vi wr => ∃ k : Nat, k ≤ n' ∧ vi = .int .i64 k ∧ Below w.heap.size w wr) (fun vi _ => n' - (intOf vi).toNat)
  case atStart => exact ⟨0, by omega, rfl, Below.refl _ _⟩
  case round =>
    obtain ⟨k, hk, rfl, hb⟩ := hrel
    by_cases hlt : k < n'
    · obtain ⟨b1, o1, rfl, hb1, hc1⟩ := h.cells (by omega)
      obtain ⟨b2, o2, rfl, hb2, hc2⟩ := h'.cells (by omega)
      have x1 := (hb.cell (p := ⟨b1, o1 + k, none⟩) hb1).trans (hc1 k hlt)
      have x2 := (hb.cell (p := ⟨b2, o2 + k, none⟩) hb2).trans (hc2 k hlt)
      clear hc1 hc2
      generalize l.getD k 0 = x at *
      have q1 : (k : Int) < (n' : Int) := by omega
      have hx : (x != x) = false := by simp
      go_wp2
      go_quiet (fail)
      go_wp2
      go_roundw
      case rel => exact ⟨k + 1, by omega, by go_num, belowN hb _⟩
      case measure => simp [intOf]; omega
    · go_wp2
      go_ret
      exact ⟨rfl, hb⟩

theorem list_any (a : Option Addr) (n c : Nat) (w : World) : Calls Try.prog 41 #[.slice a n c] w fun e w' => e = .returned (.slice a n c) ∧ w = w' := by
  go_enter Try.func41, Try.ntmps41
  go_wp2
  go_ret
  exact ⟨rfl, rfl⟩

theorem ex1 (w : World) : Calls Try.prog 13 #[.int .i64 7, .int .i64 3] w fun e w' => ∃ a c', e = .returned (.tuple #[.slice a 7 c', .int .i64 0]) ∧ IsL w' a 7 c' [2, 5, 1, 6, 4, 0, 3] ∧ Below w.heap.size w w' :=
  (Order_ok 7 3 w (by omega) (by omega) (by omega) (by omega)).mono fun e w' ⟨a, c, he, ho, hb⟩ => ⟨a, c, he, by have := ho.isL; rwa [show ordL (7 : Int).toNat (3 : Int).toNat = [2, 5, 1, 6, 4, 0, 3] by decide] at this, hb⟩
theorem ex2 (w : World) : Calls Try.prog 15 #[.int .i64 7, .int .i64 3] w fun e w' => e = .returned (.tuple #[.int .i64 3, .int .i64 0]) ∧ w = w' :=
  (Last_ok 7 3 w (by omega) (by omega) (by omega) (by omega)).mono fun e w' ⟨he, hw⟩ => ⟨he.trans (ret_i2 (by decide)), hw⟩
theorem ex3 (w : World) : Calls Try.prog 18 #[.int .i64 7, .int .i64 3, .int .i64 4] w fun e w' => e = .returned (.tuple #[.int .i64 4, .int .i64 0]) ∧ w = w' :=
  (When_ok 7 3 4 w (by omega) (by omega) (by omega) (by omega) (by omega) (by omega)).mono fun e w' ⟨he, hw⟩ => ⟨he.trans (ret_i2 (by decide)), hw⟩
theorem ex4 (w : World) : Calls Try.prog 20 #[.int .i64 7, .int .i64 3, .int .i64 0] w fun e w' => e = .returned (.tuple #[.int .i64 2, .int .i64 0]) ∧ w = w' :=
  (Who_ok 7 3 0 w (by omega) (by omega) (by omega) (by omega) (by omega) (by omega)).mono fun e w' ⟨he, hw⟩ => ⟨he.trans (ret_i2 (by decide)), hw⟩
theorem ex5 (w : World) : Calls Try.prog 23 #[.int .i64 7, .int .i64 3, .int .i64 0] w fun e w' => e = .returned (.tuple #[.int .i64 5, .int .i64 0]) ∧ w = w' :=
  (Counted_ok 7 3 0 w (by omega) (by omega) (by omega) (by omega) (by omega) (by omega)).mono fun e w' ⟨he, hw⟩ => ⟨he.trans (ret_i2 (by decide)), hw⟩
theorem ex6 (w : World) : Calls Try.prog 25 #[.int .i64 20] w fun e w' => e = .returned (.tuple #[.int .i64 232792560, .int .i64 0]) ∧ Below w.heap.size w w' :=
  (Orders_ok 20 w (by omega) (by omega)).mono fun e w' ⟨he, hw⟩ => ⟨he.trans (ret_i2 (by decide +kernel)), hw⟩
theorem ex7 (a : Option Addr) (c : Nat) (w : World) (h : IsL w a 4 c [3, 2, 1, 0]) : Calls Try.prog 29 #[.slice a 4 c] w fun e w' => e = .returned (.tuple #[.int .i64 12, .int .i64 0]) ∧ Below w.heap.size w w' :=
  (Count_ok a 4 c _ w h (by decide)).mono fun e w' ⟨he, hw⟩ => ⟨he.trans (ret_ii (by decide +kernel) (by decide +kernel)), hw⟩
theorem ex8 (a : Option Addr) (c : Nat) (w : World) (h : IsL w a 4 c [0, 2, 1, 3]) : Calls Try.prog 27 #[.slice a 4 c] w fun e w' => ∃ a' c', e = .returned (.tuple #[.slice a' 4 c', .int .i64 0]) ∧ IsL w' a' 4 c' [1, 2, 0, 0] ∧ Below w.heap.size w w' :=
  (Remainders_ok a 4 c _ w h (by decide)).mono fun e w' ⟨a, c, he, ho, hb⟩ => ⟨a, c, he, by have := ho.isL; rwa [show remL [0, 2, 1, 3] = [1, 2, 0, 0] by decide] at this, hb⟩
theorem ex9 (w : World) : Calls Try.prog 33 #[.int .i64 7, .int .i64 0] w fun e w' => e = .returned (.tuple #[.int .i64 11, .int .i64 0]) ∧ Below w.heap.size w w' :=
  (Smallest_ok 7 0 w (by omega) (by omega) (by omega) (by omega)).mono fun e w' ⟨he, hw⟩ => ⟨he.trans (ret_ii (by decide +kernel) (by decide +kernel)), hw⟩
theorem ex10 (a : Option Addr) (c : Nat) (w : World) (h : IsL w a 3 c [1, 2, 5]) : Calls Try.prog 35 #[.int .i64 7, .slice a 3 c] w fun e w' => e = .returned (.tuple #[.int .i64 3, .int .i64 0]) ∧ Below w.heap.size w w' :=
  (First_ok 7 a 3 c _ w (by omega) (by omega) h).mono fun e w' ⟨he, hw⟩ => ⟨he.trans (ret_ii (by decide +kernel) (by decide +kernel)), hw⟩
theorem ex11 (a : Option Addr) (c : Nat) (w : World) (h : IsL w a 4 c [0, 2, 1, 3]) : Calls Try.prog 29 #[.slice a 4 c] w fun e w' => e = .returned (.tuple #[.int .i64 0, .int .i64 12]) ∧ Below w.heap.size w w' :=
  (Count_ok a 4 c _ w h (by decide)).mono fun e w' ⟨he, hw⟩ => ⟨he.trans (ret_ii (by decide +kernel) (by decide +kernel)), hw⟩
theorem ex12 (w : World) : Calls Try.prog 18 #[.int .i64 7, .int .i64 3, .int .i64 7] w fun e w' => e = .returned (.tuple #[.int .i64 0, .int .i64 2]) ∧ w = w' :=
  When_none 7 3 7 w (by omega) (by omega) (by omega) (by omega) (by omega)
end Go.Proofs.Ythocenkedncoeaa
