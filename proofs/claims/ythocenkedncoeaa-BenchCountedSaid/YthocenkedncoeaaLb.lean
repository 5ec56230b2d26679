/- Chapter 06: the walk of BenchCounted. -/
import Derived.Test.YthocenkedncoeaaWj
import Derived.Test.YthocenkedncoeaaWrd
namespace Go.Proofs.Ythocenkedncoeaa
open Go.RowKit Bench06

theorem chain {w w1 w2 : World} (h : Below w.heap.size w w1) (h' : Below w1.heap.size w1 w2) : Below w.heap.size w w2 := h.trans (h'.mono h.size)

/-- What Counted of both packages does, whatever the input. -/
theorem counted_both (r c n : Int) : ∃ x e : Int,
    (∀ w, Calls Try.prog 23 #[.int .i64 r, .int .i64 c, .int .i64 n] w fun en w' => en = .returned (.tuple #[.int .i64 x, .int .i64 e]) ∧ Below w.heap.size w w') ∧
    (∀ w, Calls Try.prog 24 #[.int .i64 r, .int .i64 c, .int .i64 n] w fun en w' => en = .returned (.tuple #[.int .i64 x, .int .i64 e]) ∧ Below w.heap.size w w') := by
  by_cases h : 1 ≤ r ∧ r ≤ 20 ∧ 1 ≤ c ∧ c ≤ 1000000000
  · obtain ⟨h0, h1, h2, h3⟩ := h
    by_cases hn : 0 ≤ n ∧ n ≤ r - 1
    · obtain ⟨h4, h5⟩ := hn
      have e := counted_eq r.toNat n.toNat c h2 (by omega)
      rw [show ((n.toNat : Nat) : Int) = n by omega] at e
      refine ⟨cntG c r.toNat (rng r.toNat) n, 0, fun w => ?_, fun w => rCounted_ok r c n w h0 h1 h2 h3 h4 h5⟩
      rw [← e]
      exact (Counted_ok r c n w h0 h1 h2 h3 h4 h5).mono fun e w' ⟨a, b⟩ => ⟨a, b ▸ Below.refl _ _⟩
    · exact ⟨0, 2, fun w => (Counted_none r c n w h0 h1 h2 h3 hn).mono fun e w' ⟨a, b⟩ => ⟨a, b ▸ Below.refl _ _⟩, fun w => (rCounted_none r c n w h0 h1 h2 h3 hn).mono fun e w' ⟨a, b⟩ => ⟨a, b ▸ Below.refl _ _⟩⟩
  · exact ⟨0, 1, fun w => (Counted_err r c n w h).mono fun e w' ⟨a, b⟩ => ⟨a, b ▸ Below.refl _ _⟩, fun w => (rCounted_err r c n w h).mono fun e w' ⟨a, b⟩ => ⟨a, b ▸ Below.refl _ _⟩⟩
theorem orders_both (r : Int) : ∃ x e : Int,
    (∀ w, Calls Try.prog 25 #[.int .i64 r] w fun en w' => en = .returned (.tuple #[.int .i64 x, .int .i64 e]) ∧ Below w.heap.size w w') ∧
    (∀ w, Calls Try.prog 26 #[.int .i64 r] w fun en w' => en = .returned (.tuple #[.int .i64 x, .int .i64 e]) ∧ Below w.heap.size w w') := by
  by_cases h : 1 ≤ r ∧ r ≤ 20
  · exact ⟨lcmTo r.toNat, 0, fun w => Orders_ok r w h.1 h.2, fun w => (rOrders_ok r w h.1 h.2).mono fun e w' ⟨a, b⟩ => ⟨a, b ▸ Below.refl _ _⟩⟩
  · exact ⟨0, 1, fun w => (Orders_err r w h).mono fun e w' ⟨a, b⟩ => ⟨a, b ▸ Below.refl _ _⟩, fun w => (rOrders_err r w h).mono fun e w' ⟨a, b⟩ => ⟨a, b ▸ Below.refl _ _⟩⟩

set_option maxHeartbeats 1000000 in
set_option maxRecDepth 100000 in
theorem BenchCounted_any (r c n : Int) (w : World) :
    Calls Try.prog 4 #[.int .i64 r, .int .i64 c, .int .i64 n] w fun e w' => e = .returned (.bool true) ∧ Below w.heap.size w w' := by
  obtain ⟨x, e, hx, hx'⟩ := counted_both r c n
  obtain ⟨y, f, hy, hy'⟩ := orders_both r
  have X := Lib.hid hx
  have X' := Lib.hid hx'
  have Y := Lib.hid hy
  have Y' := Lib.hid hy'
  clear hx hx' hy hy'
  go_enter Try.func4, Try.ntmps4
  go_wp2_with (first
    | (go_at_call 23; refine (X.out _).mono ?_; rintro en w1 ⟨rfl, b1⟩)
    | (go_at_call 24; refine (X'.out _).mono ?_; rintro en w2 ⟨rfl, b2⟩)
    | (go_at_call 25; refine (Y.out _).mono ?_; rintro en w3 ⟨rfl, b3⟩)
    | (go_at_call 26; refine (Y'.out _).mono ?_; rintro en w4 ⟨rfl, b4⟩)
    | (go_at_call 22; refine (works_any _).mono ?_; rintro en w5 ⟨rfl, b5⟩))
  go_ret
  exact ⟨rfl, chain (chain (chain (chain b1 b2) b3) b4) b5⟩
end Go.Proofs.Ythocenkedncoeaa
