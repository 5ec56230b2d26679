/- Walks of chapter 06: the reference, third part. -/
import Derived.Test.YthocenkedncoeaaWrb
import Derived.Test.YthocenkedncoeaaSpecC
namespace Go.Proofs.Ythocenkedncoeaa
open Go.RowKit Bench06

set_option maxHeartbeats 400000 in
theorem rorders_any (r : Int) (w : World) (h0 : 0 ≤ r) (h1 : r ≤ 20) :
    Calls Try.prog 56 #[.int .i64 r] w fun e w' => e = .returned (.int .i64 (lcmTo r.toNat)) ∧ w = w' := by
  go_enter Try.func56, Try.ntmps56
  go_wp2
  go_loop [3, 4, 5] (fun vn vm vs => ∃ (m : Nat), 1 ≤ m ∧ ((m : Int) ≤ r ∨ m = 1) ∧ vm = .int .i64 ((m : Int) + 1) ∧ vn = .int .i64 (lcmTo m)) (fun _ vm _ => (r + 1 - intOf vm).toNat)
  case atStart => exact ⟨1, by omega, .inr rfl, rfl, rfl⟩
  case round =>
    obtain ⟨m, hm0, hm, rfl, rfl⟩ := hrel
    by_cases hlt : (m : Int) + 1 ≤ r
    · obtain ⟨l0, l1⟩ := lcmTo_le m (by omega)
      obtain ⟨n0, n1⟩ := lcmTo_le (m + 1) (by omega)
      have hsucc := lcmTo_succ m
      have hzero := inner_zero (lcmTo m) (m + 1)
      have hdvd := fun j => inner_dvd (lcmTo m) (m + 1) j (by omega)
      have hy0 : 0 < (m + 1) / Nat.gcd (lcmTo m) (m + 1) := Nat.div_pos (Nat.gcd_le_right _ (by omega)) (Nat.gcd_pos_of_pos_left _ l0)
      have hy1 : (m + 1) / Nat.gcd (lcmTo m) (m + 1) ≤ m + 1 := Nat.div_le_self _ _
      rw [hsucc] at n0 n1
      generalize (m + 1) / Nat.gcd (lcmTo m) (m + 1) = y at *
      have HS := Lib.hid hsucc
      have HZ := Lib.hid hzero
      have HD := Lib.hid hdvd
      clear hsucc hzero hdvd
      generalize lcmTo m = st at *
      go_wp2
      go_loop [3] (fun vn => ∃ (j : Nat), 1 ≤ j ∧ j ≤ y ∧ vn = .int .i64 ((j * st : Nat) : Int)) (fun vn => (st * y : Nat) - (intOf vn).toNat)
      case atStart => exact ⟨1, by omega, by omega, by simp⟩
      case round =>
        obtain ⟨j, hj0, hj1, rfl⟩ := hrel
        have hjs : j * st ≤ y * st := Nat.mul_le_mul_right _ hj1
        rw [Nat.mul_comm st y] at n0 n1
        have hm1 : ((m : Int) + 1 == 0) = false := by simp; omega
        have hcast : (((j * st : Nat) : Int) % ((m : Int) + 1)) = (((j * st) % (m + 1) : Nat) : Int) := by simp
        have HC := Lib.hid hcast
        clear hcast
        by_cases hjy : j = y
        · subst hjy
          have hz : (((j * st : Nat) : Int) % ((m : Int) + 1) != 0) = false := by rw [HC.out, HZ.out]; rfl
          clear hjs
          generalize hq : j * st = q at *
          have HQ := Lib.hid hq
          clear hq
          go_wp2
          go_round
          case rel => exact ⟨m + 1, by omega, by omega, by go_num, by rw [HS.out, Nat.mul_comm, HQ.out]⟩
          case measure => simp [intOf]; omega
        · have hnz : (j * st) % (m + 1) ≠ 0 := fun h => by
            have := Nat.le_of_dvd (by omega) (HD.out j h)
            omega
          have hz : (((j * st : Nat) : Int) % ((m : Int) + 1) != 0) = true := by rw [HC.out, bne_iff_ne]; intro h; exact hnz (Int.natCast_eq_zero.1 h)
          have hj2 : (j + 1) * st ≤ y * st := Nat.mul_le_mul_right _ (by omega)
          have hj3 : (j + 1) * st = j * st + st := by rw [Nat.add_mul, Nat.one_mul]
          rw [hj3] at hj2
          have H3 := Lib.hid hj3
          clear hnz hj3
          have hcm : st * y = y * st := Nat.mul_comm _ _
          generalize hq : j * st = q at *
          have HQ := Lib.hid hq
          clear hq
          go_wp2
          go_round
          case rel => exact ⟨j + 1, by omega, by omega, by rw [H3.out]; go_num⟩
          case measure => simp [intOf]; omega
    · have hq : lcmTo m = lcmTo r.toNat := by
        by_cases hmr : (m : Int) ≤ r
        · rw [show r.toNat = m by omega]
        · obtain rfl : m = 1 := by omega
          obtain rfl : r = 0 := by omega
          rfl
      have HQ := Lib.hid hq
      clear hq
      go_wp2
      go_ret
      exact ⟨ret_i (by rw [HQ.out]), rfl⟩
theorem rOrders_ok (r : Int) (w : World) (h0 : 1 ≤ r) (h1 : r ≤ 20) :
    Calls Try.prog 26 #[.int .i64 r] w fun e w' => e = .returned (.tuple #[.int .i64 (lcmTo r.toNat), .int .i64 0]) ∧ w = w' := by
  go_enter Try.func26, Try.ntmps26
  go_wp2_with (first
    | (go_at_call 50; refine (in_yes _ _ _ _ h0 h1).mono ?_; rintro e w1 ⟨rfl, rfl⟩)
    | (go_at_call 56; refine (rorders_any _ _ (by omega) h1).mono ?_; rintro e w1 ⟨rfl, rfl⟩))
  go_ret2
  exact ⟨rfl, rfl⟩
theorem rOrders_err (r : Int) (w : World) (h : ¬ (1 ≤ r ∧ r ≤ 20)) :
    Calls Try.prog 26 #[.int .i64 r] w fun e w' => e = .returned (.tuple #[.int .i64 0, .int .i64 1]) ∧ w = w' := by
  have H := Lib.hid h
  clear h
  go_enter Try.func26, Try.ntmps26
  go_wp2_with (go_at_call 50; refine (in_no _ _ _ _ H.out).mono ?_; rintro e w1 ⟨rfl, rfl⟩)
  go_ret2
  exact ⟨rfl, rfl⟩
end Go.Proofs.Ythocenkedncoeaa
