/- Walks of chapter 06: numbers, second part. -/
import Derived.Test.YthocenkedncoeaaWb
namespace Go.Proofs.Ythocenkedncoeaa
open Go.RowKit Bench06

set_option maxHeartbeats 400000 in
theorem Who_ok (r c n : Int) (w : World) (h0 : 1 ≤ r) (h1 : r ≤ 20) (h2 : 1 ≤ c) (h3 : c ≤ 1000000000) (h4 : 0 ≤ n) (h5 : n ≤ r - 1) :
    Calls Try.prog 20 #[.int .i64 r, .int .i64 c, .int .i64 n] w fun e w' => e = .returned (.tuple #[.int .i64 (whoG c (r.toNat - n.toNat) n.toNat), .int .i64 0]) ∧ w = w' := by
  have hz := whoG_bd c (r.toNat - n.toNat) (by omega) 0
  have hz0 : whoG c (r.toNat - n.toNat) 0 = (c - 1) % (r - n) := by
    simp only [whoG]; rw [show ((r.toNat - n.toNat : Nat) : Int) = r - n by omega]
  rw [hz0] at hz
  have HZ := Lib.hid hz0
  clear hz0
  go_enter Try.func20, Try.ntmps20
  go_wp2_with (go_at_call 49; refine (asked_ok _ _ _ _ h0 h1 h2 h3 h4 h5).mono ?_; rintro e w' ⟨rfl, rfl⟩)
  go_loop [9, 10] (fun q i => ∃ (k : Nat) (s : Int), (k : Int) ≤ n ∧ i = .int .i64 (r - n + 1 + k) ∧ q = .int .i64 s ∧ 0 ≤ s ∧ s < 20 ∧ Hid (s = whoG c (r.toNat - n.toNat) k)) (fun _ i => (r + 1 - intOf i).toNat)
  case atStart => exact ⟨0, _, by omega, by go_num, rfl, hz.1, by omega, Lib.hid HZ.out.symm⟩
  case round =>
    obtain ⟨k, s, hk, rfl, rfl, hs, hs2, hw⟩ := hrel
    by_cases hlt : (k : Int) < n
    · have hb := whoG_bd c (r.toNat - n.toNat) (by omega) (k + 1)
      have hv : whoG c (r.toNat - n.toNat) (k + 1) = (s + c) % (r - n + 1 + k) := by
        simp only [whoG]; rw [hw.out, show ((r.toNat - n.toNat : Nat) : Int) + k + 1 = r - n + 1 + k by omega]
      rw [hv] at hb
      have HV := Lib.hid hv
      clear hv
      go_wp2
      go_round
      case rel => exact ⟨k + 1, _, by omega, by go_num, rfl, hb.1, by omega, Lib.hid HV.out.symm⟩
      case measure => simp [intOf]; omega
    · have hkn : k = n.toNat := by omega
      have HK := Lib.hid hkn
      clear hkn
      go_wp2
      go_ret2
      exact ⟨ret_i2 (hw.out.trans (by rw [HK.out])), rfl⟩
theorem Who_none (r c n : Int) (w : World) (h0 : 1 ≤ r) (h1 : r ≤ 20) (h2 : 1 ≤ c) (h3 : c ≤ 1000000000) (h : ¬ (0 ≤ n ∧ n ≤ r - 1)) :
    Calls Try.prog 20 #[.int .i64 r, .int .i64 c, .int .i64 n] w fun e w' => e = .returned (.tuple #[.int .i64 0, .int .i64 2]) ∧ w = w' := by
  have H := Lib.hid h
  clear h
  go_enter Try.func20, Try.ntmps20
  go_wp2_with (go_at_call 49; refine (asked_none _ _ _ _ h0 h1 h2 h3 H.out).mono ?_; rintro e w' ⟨rfl, rfl⟩)
  go_ret2
  exact ⟨rfl, rfl⟩
theorem Who_err (r c n : Int) (w : World) (h : ¬ (1 ≤ r ∧ r ≤ 20 ∧ 1 ≤ c ∧ c ≤ 1000000000)) :
    Calls Try.prog 20 #[.int .i64 r, .int .i64 c, .int .i64 n] w fun e w' => e = .returned (.tuple #[.int .i64 0, .int .i64 1]) ∧ w = w' := by
  have H := Lib.hid h
  clear h
  go_enter Try.func20, Try.ntmps20
  go_wp2_with (go_at_call 49; refine (asked_err _ _ _ _ H.out).mono ?_; rintro e w' ⟨rfl, rfl⟩)
  go_ret2
  exact ⟨rfl, rfl⟩

set_option maxHeartbeats 400000 in
theorem Counted_ok (r c n : Int) (w : World) (h0 : 1 ≤ r) (h1 : r ≤ 20) (h2 : 1 ≤ c) (h3 : c ≤ 1000000000) (h4 : 0 ≤ n) (h5 : n ≤ r - 1) :
    Calls Try.prog 23 #[.int .i64 r, .int .i64 c, .int .i64 n] w fun e w' => e = .returned (.tuple #[.int .i64 (countedG c r.toNat n 0), .int .i64 0]) ∧ w = w' := by
  go_enter Try.func23, Try.ntmps23
  go_wp2_with (go_at_call 49; refine (asked_ok _ _ _ _ h0 h1 h2 h3 h4 h5).mono ?_; rintro e w' ⟨rfl, rfl⟩)
  go_loop [2, 9, 10] (fun q m i => ∃ (k : Nat) (s t : Int), (k : Int) < r ∧ i = .int .i64 (r - k) ∧ q = .int .i64 s ∧ m = .int .i64 t ∧ 0 ≤ s ∧ s < r - k ∧ 0 ≤ t ∧ t ≤ k * 1000000020 ∧ Hid (countedG c (r.toNat - k) s t = countedG c r.toNat n 0)) (fun _ _ i => (intOf i).toNat)
  case atStart => exact ⟨0, n, 0, by omega, by go_num, rfl, rfl, h4, by omega, by omega, by omega, Lib.hid rfl⟩
  case round =>
    obtain ⟨k, s, t, hk, rfl, rfl, rfl, hs, hs2, ht, ht2, hw⟩ := hrel
    have hb := stepR_bd c s (r - k) hs hs2
    have hf : r.toNat - k = (r.toNat - (k + 1)) + 1 := by omega
    have hc : ((r.toNat - (k + 1) : Nat) : Int) + 1 = r - k := by omega
    obtain ⟨hd, hd0, hd1⟩ := quo_bd c s (r - k) hs hs2 (by omega) h2 h3
    by_cases heq : s = (c - 1) % (r - k)
    · have hbool : (s == (c - 1) % (r - k)) = true := by simpa using heq
      have hval : t + (c - s - 1 + (r - k)) / (r - k) = countedG c r.toNat n 0 := by
        rw [← hw.out, hf, countedG, hc, if_pos heq]
      have HV := Lib.hid hval
      obtain ⟨b1, b2, _, b3, b4⟩ := hb
      clear hf hc heq hval
      go_wp2
      go_ret2
      exact ⟨ret_i2 HV.out, rfl⟩
    · have hbool : (s == (c - 1) % (r - k)) = false := by simpa using heq
      have hval : countedG c (r.toNat - (k + 1)) (stepR c s (r - k)) (t + (c - s - 1 + (r - k)) / (r - k)) = countedG c r.toNat n 0 := by
        rw [← hw.out, hf, countedG, hc, if_neg heq]
      have HV := Lib.hid hval
      have hst : stepR c s (r - k) = (s - (c - 1) % (r - k) - 1 + (r - k)) % (r - k) := rfl
      have hn1 := hb.2.2.1 heq
      obtain ⟨b1, b2, _, b3, b4⟩ := hb
      have HS := Lib.hid hst
      clear hf hc heq hval hst
      go_wp2
      go_round
      case rel => exact ⟨k + 1, stepR c s (r - k), _, by omega, by go_num, by rw [HS.out], rfl, b1, by omega, by omega, by omega, Lib.hid HV.out⟩
      case measure => simp [intOf]; omega
theorem Counted_none (r c n : Int) (w : World) (h0 : 1 ≤ r) (h1 : r ≤ 20) (h2 : 1 ≤ c) (h3 : c ≤ 1000000000) (h : ¬ (0 ≤ n ∧ n ≤ r - 1)) :
    Calls Try.prog 23 #[.int .i64 r, .int .i64 c, .int .i64 n] w fun e w' => e = .returned (.tuple #[.int .i64 0, .int .i64 2]) ∧ w = w' := by
  have H := Lib.hid h
  clear h
  go_enter Try.func23, Try.ntmps23
  go_wp2_with (go_at_call 49; refine (asked_none _ _ _ _ h0 h1 h2 h3 H.out).mono ?_; rintro e w' ⟨rfl, rfl⟩)
  go_ret2
  exact ⟨rfl, rfl⟩
theorem Counted_err (r c n : Int) (w : World) (h : ¬ (1 ≤ r ∧ r ≤ 20 ∧ 1 ≤ c ∧ c ≤ 1000000000)) :
    Calls Try.prog 23 #[.int .i64 r, .int .i64 c, .int .i64 n] w fun e w' => e = .returned (.tuple #[.int .i64 0, .int .i64 1]) ∧ w = w' := by
  have H := Lib.hid h
  clear h
  go_enter Try.func23, Try.ntmps23
  go_wp2_with (go_at_call 49; refine (asked_err _ _ _ _ H.out).mono ?_; rintro e w' ⟨rfl, rfl⟩)
  go_ret2
  exact ⟨rfl, rfl⟩

theorem divisor_any (a b : Int) (w : World) (h0 : 0 ≤ a) (h1 : 0 ≤ b) (h2 : a ≤ 4000000000) (h3 : b ≤ 4000000000) :
    Calls Try.prog 59 #[.int .i64 a, .int .i64 b] w fun e w' => e = .returned (.int .i64 (Nat.gcd a.toNat b.toNat)) ∧ Below w.heap.size w w' := by
  go_enter Try.func59, Try.ntmps59
  go_wp2
  go_loopw [0, 1] (fun x y wr => ∃ (p q : Nat), x = .int .i64 p ∧ y = .int .i64 q ∧ p ≤ 4000000000 ∧ q ≤ 4000000000 ∧ Hid (Nat.gcd p q = Nat.gcd a.toNat b.toNat) ∧ Below w.heap.size w wr) (fun _ y _ => (intOf y).toNat)
  case atStart => exact ⟨a.toNat, b.toNat, by go_num, by go_num, by omega, by omega, Lib.hid rfl, Below.refl _ _⟩
  case round =>
    obtain ⟨p, q, rfl, rfl, hp, hq, hg, hb⟩ := hrel
    by_cases hlt : 0 < q
    · have hne : ((q : Int) != 0) = true := by simp; omega
      have hne2 : ((q : Int) == 0) = false := by simp; omega
      have hmod := Nat.mod_lt p hlt
      have hcast : ((p : Int) % (q : Int)) = ((p % q : Nat) : Int) := by simp
      have hstep : Nat.gcd q (p % q) = Nat.gcd a.toNat b.toNat := by rw [← hg.out, Nat.gcd_comm q, ← Nat.gcd_rec, Nat.gcd_comm]
      have HS := Lib.hid hstep
      have HC := Lib.hid hcast
      clear hstep hcast
      go_wp2
      go_quiet (fail)
      go_wp2
      go_roundw
      case rel => exact ⟨q, p % q, rfl, by rw [HC.out], hq, by omega, HS, hb.trans ⟨rfl, rfl, rfl, Nat.le_refl _, fun _ _ => rfl⟩⟩
      case measure => simp only [intOf]; rw [HC.out]; omega
    · obtain rfl : q = 0 := by omega
      go_wp2
      go_ret
      exact ⟨ret_i (by rw [← hg.out, Nat.gcd_zero_right]), hb⟩

set_option maxHeartbeats 400000 in
theorem multiple_any (r : Int) (w : World) (h0 : 0 ≤ r) (h1 : r ≤ 20) :
    Calls Try.prog 55 #[.int .i64 r] w fun e w' => e = .returned (.int .i64 (lcmTo r.toNat)) ∧ Below w.heap.size w w' := by
  go_enter Try.func55, Try.ntmps55
  go_wp2
  go_loopw [3, 6] (fun o i wr => ∃ (k : Nat), (k : Int) ≤ r ∧ i = .int .i64 k ∧ o = .int .i64 (lcmTo k) ∧ Below w.heap.size w wr) (fun _ i _ => (r - intOf i).toNat)
  case atStart => exact ⟨0, by omega, rfl, rfl, Below.refl _ _⟩
  case round =>
    obtain ⟨k, hk, rfl, rfl, hb⟩ := hrel
    obtain ⟨l0, l1⟩ := lcmTo_le k (by omega)
    by_cases hlt : (k : Int) < r
    · obtain ⟨m0, m1⟩ := lcmTo_le (k + 1) (by omega)
      have hg : 0 < Nat.gcd (lcmTo k) (k + 1) := Nat.gcd_pos_of_pos_left _ l0
      have hgl : Nat.gcd (lcmTo k) (k + 1) ≤ k + 1 := Nat.gcd_le_right _ (by omega)
      have hstep : lcmTo (k + 1) = lcmTo k / Nat.gcd (lcmTo k) (k + 1) * (k + 1) := rfl
      have hdiv : lcmTo k / Nat.gcd (lcmTo k) (k + 1) ≤ lcmTo k := Nat.div_le_self _ _
      rw [hstep] at m0 m1
      have HS := Lib.hid hstep
      clear hstep
      generalize lcmTo k = l at *
      have d0 : (0 : Int) ≤ (l : Int) / ((l.gcd (k + 1) : Nat) : Int) := Int.ediv_nonneg (by omega) (by omega)
      have d1 : (l : Int) / ((l.gcd (k + 1) : Nat) : Int) ≤ 232792560 := by
        have : ((l / l.gcd (k + 1) : Nat) : Int) = (l : Int) / ((l.gcd (k + 1) : Nat) : Int) := by simp
        omega
      have e1 : (l : Int) / ((l.gcd (k + 1) : Nat) : Int) * ((k : Int) + 1) = ((l / l.gcd (k + 1) * (k + 1) : Nat) : Int) := by simp
      have d2 : 0 ≤ (l : Int) / ((l.gcd (k + 1) : Nat) : Int) * ((k : Int) + 1) := by rw [e1]; omega
      have d3 : (l : Int) / ((l.gcd (k + 1) : Nat) : Int) * ((k : Int) + 1) ≤ 232792560 := by rw [e1]; omega
      have HE := Lib.hid e1
      clear e1
      go_wp2_with (go_at_call 59; refine (divisor_any _ _ _ (by omega) (by omega) (by omega) (by omega)).mono ?_; rintro e w1 ⟨rfl, hb1⟩)
      go_roundw
      case rel => exact ⟨k + 1, by omega, by go_num, by rw [HE.out, HS.out], hb.trans (hb1.mono hb.size)⟩
      case measure => simp [intOf]; omega
    · obtain rfl : k = r.toNat := by omega
      go_wp2
      go_ret
      exact ⟨rfl, hb⟩
end Go.Proofs.Ythocenkedncoeaa
