/- Chapter 06: the walk of BenchOrders. -/
import Derived.Test.YthocenkedncoeaaWj
import Derived.Test.YthocenkedncoeaaWrb
import Derived.Test.YthocenkedncoeaaPl
namespace Go.Proofs.Ythocenkedncoeaa
open Go.RowKit Bench06

set_option maxHeartbeats 4000000 in
set_option maxRecDepth 100000 in
theorem BenchOrders_any (r c n : Int) (w : World) :
    Calls Try.prog 3 #[.int .i64 r, .int .i64 c, .int .i64 n] w fun e w' => e = .returned (.bool true) ∧ Below w.heap.size w w' := by
  by_cases h : 1 ≤ r ∧ r ≤ 20 ∧ 1 ≤ c ∧ c ≤ 1000000000
  · obtain ⟨h0, h1, h2, h3⟩ := h
    have e1 : lastTo c (r.toNat - 1) = (ordL r.toNat c.toNat).getD (r.toNat - 1) 0 := by
      have := last_eq r.toNat c.toNat (by omega) (by omega)
      rwa [show ((c.toNat : Nat) : Int) = c by omega] at this
    by_cases hn : 0 ≤ n ∧ n ≤ r - 1
    · obtain ⟨h4, h5⟩ := hn
      have e2 : whenG c r.toNat n 0 = idxI (ordL r.toNat c.toNat) n := by
        have := when_eq r.toNat c.toNat n.toNat (by omega) (by omega)
        rwa [show ((c.toNat : Nat) : Int) = c by omega, show ((n.toNat : Nat) : Int) = n by omega] at this
      have e3 : whoG c (r.toNat - n.toNat) n.toNat = (ordL r.toNat c.toNat).getD n.toNat 0 := by
        have := who_eq r.toNat c.toNat n.toNat (by omega) (by omega)
        rwa [show ((c.toNat : Nat) : Int) = c by omega] at this
      have E1 := Lib.hid e1
      have E2 := Lib.hid e2
      have E3 := Lib.hid e3
      clear e1 e2 e3
      go_enter Try.func3, Try.ntmps3
      go_wp2_with fail
      refine (Order_ok _ _ _ h0 h1 h2 h3).mono ?_
      rintro e w1 ⟨a1, c1, rfl, o1, b1⟩
      have l1 := o1.isL
      go_wp2_with fail
      refine (rOrder_ok _ _ _ h0 h1 h2 h3).mono ?_
      rintro e w2 ⟨a2, c2, rfl, o2, b2⟩
      have l2 := o2.isL
      have l1' := l1.below b2
      have k2 := b1.trans (b2.mono b1.size)
      clear l1 o1 o2 b1 b2
      go_wp2_with fail
      refine (Last_ok _ _ _ h0 h1 h2 h3).mono ?_
      rintro e w' ⟨rfl, rfl⟩
      rw [E1.out]
      go_wp2_with fail
      refine (rLast_ok _ _ _ h0 h1 h2 h3).mono ?_
      rintro e w3 ⟨rfl, b3⟩
      have k3 := k2.trans (b3.mono k2.size)
      have m1 := l1'.below b3
      have m2 := l2.below b3
      clear k2 b3 l1' l2
      go_wp2_with fail
      refine (same_yes _ _ _ _ _ _ _ _ _ m1 m2 rfl).mono ?_
      rintro e w4 ⟨rfl, b4⟩
      have k4 := k3.trans (b4.mono k3.size)
      clear k3 b4 m1 m2
      go_wp2_with fail
      refine (When_ok _ _ _ _ h0 h1 h2 h3 h4 h5).mono ?_
      rintro e w' ⟨rfl, rfl⟩
      rw [E2.out]
      go_wp2_with fail
      refine (rWhen_ok _ _ _ _ h0 h1 h2 h3 h4 h5).mono ?_
      rintro e w5 ⟨rfl, b5⟩
      have k5 := k4.trans (b5.mono k4.size)
      clear k4 b5
      go_wp2_with fail
      refine (Who_ok _ _ _ _ h0 h1 h2 h3 h4 h5).mono ?_
      rintro e w' ⟨rfl, rfl⟩
      rw [E3.out]
      go_wp2_with fail
      refine (rWho_ok _ _ _ _ h0 h1 h2 h3 h4 h5).mono ?_
      rintro e w6 ⟨rfl, b6⟩
      have k6 := k5.trans (b6.mono k5.size)
      clear k5 b6
      go_wp2_with fail
      refine (works_any _).mono ?_
      rintro e w7 ⟨rfl, b7⟩
      have k7 := k6.trans (b7.mono k6.size)
      clear k6 b7
      go_wp2
      go_ret
      exact ⟨rfl, k7⟩
    · have E1 := Lib.hid e1
      have HN := Lib.hid hn
      clear e1 hn
      go_enter Try.func3, Try.ntmps3
      go_wp2_with fail
      refine (Order_ok _ _ _ h0 h1 h2 h3).mono ?_
      rintro e w1 ⟨a1, c1, rfl, o1, b1⟩
      have l1 := o1.isL
      go_wp2_with fail
      refine (rOrder_ok _ _ _ h0 h1 h2 h3).mono ?_
      rintro e w2 ⟨a2, c2, rfl, o2, b2⟩
      have l2 := o2.isL
      have l1' := l1.below b2
      have k2 := b1.trans (b2.mono b1.size)
      clear l1 o1 o2 b1 b2
      go_wp2_with fail
      refine (Last_ok _ _ _ h0 h1 h2 h3).mono ?_
      rintro e w' ⟨rfl, rfl⟩
      rw [E1.out]
      go_wp2_with fail
      refine (rLast_ok _ _ _ h0 h1 h2 h3).mono ?_
      rintro e w3 ⟨rfl, b3⟩
      have k3 := k2.trans (b3.mono k2.size)
      have m1 := l1'.below b3
      have m2 := l2.below b3
      clear k2 b3 l1' l2
      go_wp2_with fail
      refine (same_yes _ _ _ _ _ _ _ _ _ m1 m2 rfl).mono ?_
      rintro e w4 ⟨rfl, b4⟩
      have k4 := k3.trans (b4.mono k3.size)
      clear k3 b4 m1 m2
      go_wp2_with (first
        | (go_at_call 18; refine (When_none _ _ _ _ h0 h1 h2 h3 HN.out).mono ?_; rintro e w' ⟨rfl, rfl⟩)
        | (go_at_call 19; refine (rWhen_none _ _ _ _ h0 h1 h2 h3 HN.out).mono ?_; rintro e w' ⟨rfl, rfl⟩)
        | (go_at_call 20; refine (Who_none _ _ _ _ h0 h1 h2 h3 HN.out).mono ?_; rintro e w' ⟨rfl, rfl⟩)
        | (go_at_call 21; refine (rWho_none _ _ _ _ h0 h1 h2 h3 HN.out).mono ?_; rintro e w' ⟨rfl, rfl⟩))
      refine (works_any _).mono ?_
      rintro e w7 ⟨rfl, b7⟩
      have k7 := k4.trans (b7.mono k4.size)
      clear k4 b7
      go_wp2
      go_ret
      exact ⟨rfl, k7⟩
  · have H := Lib.hid h
    clear h
    go_enter Try.func3, Try.ntmps3
    go_wp2_with (first
      | (go_at_call 13; refine (Order_err _ _ _ H.out).mono ?_; rintro e w' ⟨rfl, rfl⟩)
      | (go_at_call 14; refine (rOrder_err _ _ _ H.out).mono ?_; rintro e w' ⟨rfl, rfl⟩)
      | (go_at_call 15; refine (Last_err _ _ _ H.out).mono ?_; rintro e w' ⟨rfl, rfl⟩)
      | (go_at_call 16; refine (rLast_err _ _ _ H.out).mono ?_; rintro e w' ⟨rfl, rfl⟩)
      | (go_at_call 18; refine (When_err _ _ _ _ H.out).mono ?_; rintro e w' ⟨rfl, rfl⟩)
      | (go_at_call 19; refine (rWhen_err _ _ _ _ H.out).mono ?_; rintro e w' ⟨rfl, rfl⟩)
      | (go_at_call 20; refine (Who_err _ _ _ _ H.out).mono ?_; rintro e w' ⟨rfl, rfl⟩)
      | (go_at_call 21; refine (rWho_err _ _ _ _ H.out).mono ?_; rintro e w' ⟨rfl, rfl⟩)
      | (go_at_call 17; refine (same_yes _ _ _ _ _ _ _ _ _ (IsL.nilL _) (IsL.nilL _) rfl).mono ?_; rintro e w4 ⟨rfl, b4⟩)
      | (go_at_call 22; refine (works_any _).mono ?_; rintro e w7 ⟨rfl, b7⟩))
    go_ret
    exact ⟨rfl, b4.trans (b7.mono b4.size)⟩
end Go.Proofs.Ythocenkedncoeaa
