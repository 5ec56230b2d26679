/- Chapter 06: the walk of BenchCounts. -/
import Derived.Test.YthocenkedncoeaaWj
import Derived.Test.YthocenkedncoeaaWrf
import Derived.Test.YthocenkedncoeaaLib2
namespace Go.Proofs.Ythocenkedncoeaa
open Go.RowKit Bench06

theorem same_nil (w : World) : Calls Try.prog 17 #[.slice none 0 0, .slice none 0 0] w fun e w' => e = .returned (.bool true) ∧ Below w.heap.size w w' :=
  same_yes _ _ _ _ _ _ [] [] w (IsL.nilL w) (IsL.nilL w) rfl

/-- Remainders of both packages: the same list, the same error. -/
theorem rem_both (a : Option Addr) (n c : Nat) (l : List Int) : ∃ (x : List Int) (m : Nat) (e : Int),
    (∀ w, IsL w a n c l → Calls Try.prog 27 #[.slice a n c] w fun en w' => ∃ a' c', en = .returned (.tuple #[.slice a' m c', .int .i64 e]) ∧ IsL w' a' m c' x ∧ Below w.heap.size w w') ∧
    (∀ w, IsL w a n c l → Calls Try.prog 28 #[.slice a n c] w fun en w' => ∃ a' c', en = .returned (.tuple #[.slice a' m c', .int .i64 e]) ∧ IsL w' a' m c' x ∧ Below w.heap.size w w') := by
  by_cases h : checkL l = 0
  · exact ⟨remL l, n, 0, fun w hl => (Remainders_ok a n c l w hl h).mono fun e w' ⟨a', c', h1, h2, h3⟩ => ⟨a', c', h1, h2.isL, h3⟩, fun w hl => rRemainders_ok a n c l w hl h⟩
  · exact ⟨[], 0, checkL l, fun w hl => (Remainders_err a n c l w hl h).mono fun e w' ⟨h1, h2⟩ => ⟨none, 0, h1, IsL.nilL _, h2 ▸ Below.refl _ _⟩,
      fun w hl => (rRemainders_err a n c l w hl h).mono fun e w' ⟨h1, h2⟩ => ⟨none, 0, h1, IsL.nilL _, h2⟩⟩
theorem cnt_both (a : Option Addr) (n c : Nat) (l : List Int) : ∃ (x e : Int),
    (∀ w, IsL w a n c l → Calls Try.prog 29 #[.slice a n c] w fun en w' => en = .returned (.tuple #[.int .i64 x, .int .i64 e]) ∧ Below w.heap.size w w') ∧
    (∀ w, IsL w a n c l → Calls Try.prog 30 #[.slice a n c] w fun en w' => en = .returned (.tuple #[.int .i64 x, .int .i64 e]) ∧ Below w.heap.size w w') := by
  by_cases h : checkL l = 0
  · refine ⟨(countL l).1, (countL l).2, fun w hl => Count_ok a n c l w hl h, fun w hl => ?_⟩
    rw [count_eq l]; exact rCount_ok a n c l w hl h
  · exact ⟨0, checkL l, fun w hl => (Count_err a n c l w hl h).mono fun e w' ⟨h1, h2⟩ => ⟨h1, h2 ▸ Below.refl _ _⟩, fun w hl => rCount_err a n c l w hl h⟩

set_option maxHeartbeats 1000000 in
set_option maxRecDepth 100000 in
theorem BenchCounts_any (a : Option Addr) (n c : Nat) (zs : List Int) (w : World) (hrow : RowIn .i64 w a n c zs) :
    Calls Try.prog 5 #[.slice a n c] w fun e w' => e = .returned (.bool true) ∧ Below w.heap.size w w' := by
  have hl := hrow.isL
  have hcap := hl.cap
  have hle := hl.le
  clear hrow
  generalize zs.take n = l at *
  by_cases h60 : 60 < n
  · have h60' : ((60 : Nat) : Int) < (n : Int) := by omega
    go_enter Try.func5, Try.ntmps5
    go_wp2_with (go_at_call 22; refine (works_any _).mono ?_; rintro en w5 ⟨rfl, b5⟩)
    go_ret
    exact ⟨rfl, b5⟩
  · have h60' : (n : Int) ≤ 60 := by omega
    obtain ⟨x, m, e, hx, hx'⟩ := rem_both a n c l
    obtain ⟨y, f, hy, hy'⟩ := cnt_both a n c l
    have X := Lib.hid hx
    have X' := Lib.hid hx'
    have Y := Lib.hid hy
    have Y' := Lib.hid hy'
    clear hx hx' hy hy'
    generalize hchk : checkL l = q
    have Q := Lib.hid hchk
    clear hchk
    go_enter Try.func5, Try.ntmps5
    go_wp2_with (first
      | (go_at_call 27; refine (X.out _ hl).mono ?_; rintro en w1 ⟨a1, c1, rfl, l1, b1⟩; have hl1 := hl.below b1)
      | (go_at_call 28; refine (X'.out _ hl1).mono ?_; rintro en w2 ⟨a2, c2, rfl, l2, b2⟩; have hl2 := hl1.below b2; have l12 := l1.below b2)
      | (go_at_call 29; refine (Y.out _ hl2).mono ?_; rintro en w3 ⟨rfl, b3⟩; have hl3 := hl2.below b3; have l13 := l12.below b3; have l23 := l2.below b3)
      | (go_at_call 30; refine (Y'.out _ hl3).mono ?_; rintro en w4 ⟨rfl, b4⟩; have hl4 := hl3.below b4; have l14 := l13.below b4; have l24 := l23.below b4)
      | (go_at_call 17; refine (same_yes _ _ _ _ _ _ _ _ _ l14 l24 rfl).mono ?_; rintro en w5 ⟨rfl, b5⟩; have hl5 := hl4.below b5)
      | (go_at_call 31; refine (Check_any _ _ _ _ _ hl5).mono ?_; rintro en w' ⟨rfl, rfl⟩; rw [Q.out])
      | (go_at_call 32; refine (rCheck_any _ _ _ _ _ hl5).mono ?_; rintro en w6 ⟨rfl, b6⟩; rw [Q.out])
      | (go_at_call 22; refine (works_any _).mono ?_; rintro en w7 ⟨rfl, b7⟩))
    go_ret
    exact ⟨rfl, chain (chain (chain (chain (chain (chain b1 b2) b3) b4) b5) b6) b7⟩
end Go.Proofs.Ythocenkedncoeaa
