/- Walks of chapter 06: numbers. -/
import Derived.Test.YthocenkedncoeaaRows
import Derived.Test.YthocenkedncoeaaLib
import Derived.Test.YthocenkedncoeaaSpec
namespace Go.Proofs.Ythocenkedncoeaa
open Go.RowKit Bench06

theorem within_yes (n lo hi : Int) (w : World) (h0 : lo ≤ n) (h1 : n ≤ hi) :
    Calls Try.prog 54 #[.int .i64 n, .int .i64 lo, .int .i64 hi] w fun e w' => e = .returned (.bool true) ∧ w = w' := by
  have hd : decide (n ≤ hi) = true := by simpa using h1
  go_enter Try.func54, Try.ntmps54
  go_wp2
  go_ret
  exact ⟨rfl, rfl⟩
theorem within_no (n lo hi : Int) (w : World) (h : ¬ (lo ≤ n ∧ n ≤ hi)) :
    Calls Try.prog 54 #[.int .i64 n, .int .i64 lo, .int .i64 hi] w fun e w' => e = .returned (.bool false) ∧ w = w' := by
  have : n < lo ∨ (lo ≤ n ∧ hi < n) := by omega
  clear h
  rcases this with h | ⟨h1, h2⟩
  rotate_right
  have hd : decide (n ≤ hi) = false := by simpa using h2
  all_goals
    go_enter Try.func54, Try.ntmps54
    go_wp2
    go_ret
    exact ⟨rfl, rfl⟩

theorem bounded_ok (r c : Int) (w : World) (h0 : 1 ≤ r) (h1 : r ≤ 20) (h2 : 1 ≤ c) (h3 : c ≤ 1000000000) :
    Calls Try.prog 44 #[.int .i64 r, .int .i64 c] w fun e w' => e = .returned (.int .i64 0) ∧ w = w' := by
  go_enter Try.func44, Try.ntmps44
  go_wp2
  go_ret
  exact ⟨rfl, rfl⟩
theorem bounded_err (r c : Int) (w : World) (h : ¬ (1 ≤ r ∧ r ≤ 20 ∧ 1 ≤ c ∧ c ≤ 1000000000)) :
    Calls Try.prog 44 #[.int .i64 r, .int .i64 c] w fun e w' => e = .returned (.int .i64 1) ∧ w = w' := by
  have : r < 1 ∨ 20 < r ∨ (1 ≤ r ∧ r ≤ 20 ∧ c < 1) ∨ (1 ≤ r ∧ r ≤ 20 ∧ 1000000000 < c) := by omega
  clear h
  rcases this with h | h | ⟨h1, h2, h⟩ | ⟨h1, h2, h⟩
  rotate_right
  have hd : decide (c ≤ 1000000000) = false := by simpa using h
  all_goals
    go_enter Try.func44, Try.ntmps44
    go_wp2
    go_ret
    exact ⟨rfl, rfl⟩
theorem counted_ok (r c : Int) (w : World) (h0 : 1 ≤ r) (h1 : r ≤ 20) (h2 : 1 ≤ c) (h3 : c ≤ 1000000000) :
    Calls Try.prog 46 #[.int .i64 r, .int .i64 c] w fun e w' => e = .returned (.int .i64 0) ∧ w = w' := by
  go_enter Try.func46, Try.ntmps46
  go_wp2
  go_ret
  exact ⟨rfl, rfl⟩
theorem counted_err (r c : Int) (w : World) (h : ¬ (1 ≤ r ∧ r ≤ 20 ∧ 1 ≤ c ∧ c ≤ 1000000000)) :
    Calls Try.prog 46 #[.int .i64 r, .int .i64 c] w fun e w' => e = .returned (.int .i64 1) ∧ w = w' := by
  have : r < 1 ∨ 20 < r ∨ (1 ≤ r ∧ r ≤ 20 ∧ c < 1) ∨ (1 ≤ r ∧ r ≤ 20 ∧ 1000000000 < c) := by omega
  clear h
  rcases this with h | h | ⟨h1, h2, h⟩ | ⟨h1, h2, h⟩
  rotate_right
  have hd : decide (c ≤ 1000000000) = false := by simpa using h
  all_goals
    go_enter Try.func46, Try.ntmps46
    go_wp2
    go_ret
    exact ⟨rfl, rfl⟩
theorem asked_ok (r c n : Int) (w : World) (h0 : 1 ≤ r) (h1 : r ≤ 20) (h2 : 1 ≤ c) (h3 : c ≤ 1000000000) (h4 : 0 ≤ n) (h5 : n ≤ r - 1) :
    Calls Try.prog 49 #[.int .i64 r, .int .i64 c, .int .i64 n] w fun e w' => e = .returned (.int .i64 0) ∧ w = w' := by
  go_enter Try.func49, Try.ntmps49
  go_wp2_with (first | (go_at_call 44; refine (bounded_ok _ _ _ h0 h1 h2 h3).mono ?_; rintro e w' ⟨rfl, rfl⟩) | go_in)
  go_ret
  exact ⟨rfl, rfl⟩
theorem asked_none (r c n : Int) (w : World) (h0 : 1 ≤ r) (h1 : r ≤ 20) (h2 : 1 ≤ c) (h3 : c ≤ 1000000000) (h : ¬ (0 ≤ n ∧ n ≤ r - 1)) :
    Calls Try.prog 49 #[.int .i64 r, .int .i64 c, .int .i64 n] w fun e w' => e = .returned (.int .i64 2) ∧ w = w' := by
  have : n < 0 ∨ (0 ≤ n ∧ r - 1 < n) := by omega
  clear h
  rcases this with h | ⟨h, h4⟩
  rotate_right
  have hd : decide (n ≤ r - 1) = false := by simpa using h4
  all_goals
    go_enter Try.func49, Try.ntmps49
    go_wp2_with (first | (go_at_call 44; refine (bounded_ok _ _ _ h0 h1 h2 h3).mono ?_; rintro e w' ⟨rfl, rfl⟩) | go_in)
    go_ret
    exact ⟨rfl, rfl⟩
theorem asked_err (r c n : Int) (w : World) (h : ¬ (1 ≤ r ∧ r ≤ 20 ∧ 1 ≤ c ∧ c ≤ 1000000000)) :
    Calls Try.prog 49 #[.int .i64 r, .int .i64 c, .int .i64 n] w fun e w' => e = .returned (.int .i64 1) ∧ w = w' := by
  have H := Lib.hid h
  clear h
  go_enter Try.func49, Try.ntmps49
  go_wp2_with (first | (go_at_call 44; refine (bounded_err _ _ _ H.out).mono ?_; rintro e w' ⟨rfl, rfl⟩) | go_in)
  go_ret
  exact ⟨rfl, rfl⟩

theorem last_any (r c : Int) (w : World) (hr : 1 ≤ r) (hr2 : r ≤ 20) (hc : 1 ≤ c) (hc2 : c ≤ 2000000000) :
    Calls Try.prog 48 #[.int .i64 r, .int .i64 c] w fun e w' => e = .returned (.int .i64 (lastTo c (r.toNat - 1))) ∧ w = w' := by
  go_enter Try.func48, Try.ntmps48
  go_wp2
  go_loop [5, 6] (fun o i => ∃ n : Nat, (n : Int) + 1 ≤ r ∧ o = .int .i64 (lastTo c n) ∧ i = .int .i64 ((n : Int) + 2)) (fun _ i => (r + 2 - intOf i).toNat)
  case atStart => exact ⟨0, by omega, rfl, rfl⟩
  case round =>
    obtain ⟨n, hn, rfl, rfl⟩ := hrel
    have hb := lastTo_bd c n
    by_cases h : (n : Int) + 2 ≤ r
    · go_wp2
      go_round
      case rel => exact ⟨n + 1, by omega, rfl, by go_num⟩
      case measure => simp [intOf]; omega
    · go_wp2
      go_ret
      obtain rfl : n = (r.toNat - 1) := by omega
      exact ⟨rfl, rfl⟩
theorem Last_ok (r c : Int) (w : World) (h0 : 1 ≤ r) (h1 : r ≤ 20) (h2 : 1 ≤ c) (h3 : c ≤ 1000000000) :
    Calls Try.prog 15 #[.int .i64 r, .int .i64 c] w fun e w' => e = .returned (.tuple #[.int .i64 (lastTo c (r.toNat - 1)), .int .i64 0]) ∧ w = w' := by
  go_enter Try.func15, Try.ntmps15
  go_wp2_with (first | (go_at_call 44; refine (bounded_ok _ _ _ h0 h1 h2 h3).mono ?_; rintro e w' ⟨rfl, rfl⟩) | (go_at_call 48; refine (last_any _ _ _ h0 h1 h2 (by omega)).mono ?_; rintro e w' ⟨rfl, rfl⟩))
  go_ret2
  exact ⟨rfl, rfl⟩
theorem Last_err (r c : Int) (w : World) (h : ¬ (1 ≤ r ∧ r ≤ 20 ∧ 1 ≤ c ∧ c ≤ 1000000000)) :
    Calls Try.prog 15 #[.int .i64 r, .int .i64 c] w fun e w' => e = .returned (.tuple #[.int .i64 0, .int .i64 1]) ∧ w = w' := by
  have H := Lib.hid h
  clear h
  go_enter Try.func15, Try.ntmps15
  go_wp2_with (go_at_call 44; refine (bounded_err _ _ _ H.out).mono ?_; rintro e w' ⟨rfl, rfl⟩)
  go_ret2
  exact ⟨rfl, rfl⟩

set_option maxHeartbeats 400000 in
theorem When_ok (r c n : Int) (w : World) (h0 : 1 ≤ r) (h1 : r ≤ 20) (h2 : 1 ≤ c) (h3 : c ≤ 1000000000) (h4 : 0 ≤ n) (h5 : n ≤ r - 1) :
    Calls Try.prog 18 #[.int .i64 r, .int .i64 c, .int .i64 n] w fun e w' => e = .returned (.tuple #[.int .i64 (whenG c r.toNat n 0), .int .i64 0]) ∧ w = w' := by
  go_enter Try.func18, Try.ntmps18
  go_wp2_with (go_at_call 49; refine (asked_ok _ _ _ _ h0 h1 h2 h3 h4 h5).mono ?_; rintro e w' ⟨rfl, rfl⟩)
  go_loop [2, 20] (fun q i => ∃ (k : Nat) (s : Int), (k : Int) ≤ r ∧ i = .int .i64 k ∧ q = .int .i64 s ∧ 0 ≤ s ∧ (s < r - k ∨ r = k) ∧ Hid (whenG c (r.toNat - k) s k = whenG c r.toNat n 0)) (fun _ i => (r - intOf i).toNat)
  case atStart => exact ⟨0, n, by omega, rfl, rfl, h4, by omega, Lib.hid rfl⟩
  case round =>
    obtain ⟨k, s, hk, rfl, rfl, hs, hs2, hw⟩ := hrel
    by_cases hlt : (k : Int) < r
    · have hb := stepR_bd c s (r - k) hs (by omega)
      have hf : r.toNat - k = (r.toNat - (k + 1)) + 1 := by omega
      have hc : ((r.toNat - (k + 1) : Nat) : Int) + 1 = r - k := by omega
      by_cases heq : s = (c - 1) % (r - k)
      · have hb4 := hb.2.2.2
        have hval : (k : Int) = whenG c r.toNat n 0 := by
          rw [← hw.out, hf, whenG, hc, if_pos heq]
        have hbool : (s == (c - 1) % (r - k)) = true := by simpa using heq
        have HV := Lib.hid hval
        clear hf hc heq hval hb
        go_wp2
        go_ret2
        exact ⟨by rw [← HV.out]; rfl, rfl⟩
      · have hbool : (s == (c - 1) % (r - k)) = false := by simpa using heq
        have hval : whenG c (r.toNat - (k + 1)) (stepR c s (r - k)) ((k : Int) + 1) = whenG c r.toNat n 0 := by
          rw [← hw.out, hf, whenG, hc, if_neg heq]
        have HV := Lib.hid hval
        have hst : stepR c s (r - k) = (s - (c - 1) % (r - k) - 1 + (r - k)) % (r - k) := rfl
        have hn1 := hb.2.2.1 heq
        obtain ⟨b1, b2, _, b3, b4⟩ := hb
        have HS := Lib.hid hst
        clear hf hc heq hval hst
        go_wp2
        go_round
        case rel => exact ⟨k + 1, stepR c s (r - k), by omega, by go_num, by rw [HS.out], b1, by omega, Lib.hid (by rw [show ((k + 1 : Nat) : Int) = (k : Int) + 1 by omega]; exact HV.out)⟩
        case measure => simp [intOf]; omega
    · have hval : whenG c r.toNat n 0 = 0 := by rw [← hw.out, show r.toNat - k = 0 by omega]; rfl
      have HV := Lib.hid hval
      clear hval
      go_wp2
      go_ret2
      exact ⟨by rw [HV.out]; rfl, rfl⟩
theorem When_none (r c n : Int) (w : World) (h0 : 1 ≤ r) (h1 : r ≤ 20) (h2 : 1 ≤ c) (h3 : c ≤ 1000000000) (h : ¬ (0 ≤ n ∧ n ≤ r - 1)) :
    Calls Try.prog 18 #[.int .i64 r, .int .i64 c, .int .i64 n] w fun e w' => e = .returned (.tuple #[.int .i64 0, .int .i64 2]) ∧ w = w' := by
  have H := Lib.hid h
  clear h
  go_enter Try.func18, Try.ntmps18
  go_wp2_with (go_at_call 49; refine (asked_none _ _ _ _ h0 h1 h2 h3 H.out).mono ?_; rintro e w' ⟨rfl, rfl⟩)
  go_ret2
  exact ⟨rfl, rfl⟩
theorem When_err (r c n : Int) (w : World) (h : ¬ (1 ≤ r ∧ r ≤ 20 ∧ 1 ≤ c ∧ c ≤ 1000000000)) :
    Calls Try.prog 18 #[.int .i64 r, .int .i64 c, .int .i64 n] w fun e w' => e = .returned (.tuple #[.int .i64 0, .int .i64 1]) ∧ w = w' := by
  have H := Lib.hid h
  clear h
  go_enter Try.func18, Try.ntmps18
  go_wp2_with (go_at_call 49; refine (asked_err _ _ _ _ H.out).mono ?_; rintro e w' ⟨rfl, rfl⟩)
  go_ret2
  exact ⟨rfl, rfl⟩
end Go.Proofs.Ythocenkedncoeaa
