/- Chapter 06: the walk of BenchTried. -/
import Derived.Test.YthocenkedncoeaaWj
import Derived.Test.YthocenkedncoeaaWrh
import Derived.Test.YthocenkedncoeaaLib2
namespace Go.Proofs.Ythocenkedncoeaa
open Go.RowKit Bench06

theorem small_both (r n : Int) : ∃ x e : Int,
    (∀ w, Calls Try.prog 33 #[.int .i64 r, .int .i64 n] w fun en w' => en = .returned (.tuple #[.int .i64 x, .int .i64 e]) ∧ Below w.heap.size w w') ∧
    (∀ w, Calls Try.prog 34 #[.int .i64 r, .int .i64 n] w fun en w' => en = .returned (.tuple #[.int .i64 x, .int .i64 e]) ∧ Below w.heap.size w w') := by
  by_cases h : 1 ≤ r ∧ r ≤ 20
  · by_cases hn : 0 ≤ n ∧ n ≤ r - 1
    · exact ⟨_, _, fun w => Smallest_ok r n w h.1 h.2 hn.1 hn.2, fun w => rSmallest_ok r n w h.1 h.2 hn.1 hn.2⟩
    · exact ⟨0, 2, fun w => Smallest_none r n w h.1 h.2 hn, fun w => (rSmallest_none r n w h.1 h.2 hn).mono fun e w' ⟨a, b⟩ => ⟨a, b ▸ Below.refl _ _⟩⟩
  · exact ⟨0, 1, fun w => Smallest_err r n w h, fun w => (rSmallest_err r n w h).mono fun e w' ⟨a, b⟩ => ⟨a, b ▸ Below.refl _ _⟩⟩
theorem first_both (r : Int) (a : Option Addr) (n c : Nat) (l : List Int) : ∃ x e : Int,
    (∀ w, IsL w a n c l → Calls Try.prog 35 #[.int .i64 r, .slice a n c] w fun en w' => en = .returned (.tuple #[.int .i64 x, .int .i64 e]) ∧ Below w.heap.size w w') ∧
    (∀ w, IsL w a n c l → Calls Try.prog 36 #[.int .i64 r, .slice a n c] w fun en w' => en = .returned (.tuple #[.int .i64 x, .int .i64 e]) ∧ Below w.heap.size w w') := by
  by_cases h : 1 ≤ r ∧ r ≤ 20
  · exact ⟨_, _, fun w hl => First_ok r a n c l w h.1 h.2 hl, fun w hl => rFirst_ok r a n c l w h.1 h.2 hl⟩
  · exact ⟨0, 1, fun w _ => First_range r a n c w h, fun w _ => (rFirst_range r a n c w h).mono fun e w' ⟨a, b⟩ => ⟨a, b ▸ Below.refl _ _⟩⟩

set_option maxHeartbeats 1000000 in
set_option maxRecDepth 100000 in
theorem BenchTried_any (r q : Int) (a : Option Addr) (n c : Nat) (zs : List Int) (w : World) (hrow : RowIn .i64 w a n c zs) :
    Calls Try.prog 6 #[.int .i64 r, .int .i64 q, .slice a n c] w fun e w' => e = .returned (.bool true) ∧ Below w.heap.size w w' := by
  have hl := hrow.isL
  have hcap := hl.cap
  have hle := hl.le
  clear hrow
  generalize zs.take n = l at *
  by_cases h60 : 60 < n
  · have h60' : ((60 : Nat) : Int) < (n : Int) := by omega
    go_enter Try.func6, Try.ntmps6
    go_wp2_with (go_at_call 22; refine (works_any _).mono ?_; rintro en w5 ⟨rfl, b5⟩)
    go_ret
    exact ⟨rfl, b5⟩
  · have h60' : (n : Int) ≤ 60 := by omega
    obtain ⟨x, e, hx, hx'⟩ := small_both r q
    obtain ⟨y, f, hy, hy'⟩ := first_both r a n c l
    have X := Lib.hid hx
    have X' := Lib.hid hx'
    have Y := Lib.hid hy
    have Y' := Lib.hid hy'
    clear hx hx' hy hy'
    go_enter Try.func6, Try.ntmps6
    go_wp2_with (first
      | (go_at_call 33; refine (X.out _).mono ?_; rintro en w1 ⟨rfl, b1⟩; have hl1 := hl.below b1)
      | (go_at_call 34; refine (X'.out _).mono ?_; rintro en w2 ⟨rfl, b2⟩; have hl2 := hl1.below b2)
      | (go_at_call 35; refine (Y.out _ hl2).mono ?_; rintro en w3 ⟨rfl, b3⟩; have hl3 := hl2.below b3)
      | (go_at_call 36; refine (Y'.out _ hl3).mono ?_; rintro en w4 ⟨rfl, b4⟩)
      | (go_at_call 22; refine (works_any _).mono ?_; rintro en w5 ⟨rfl, b5⟩))
    go_ret
    exact ⟨rfl, chain (chain (chain (chain b1 b2) b3) b4) b5⟩
end Go.Proofs.Ythocenkedncoeaa
