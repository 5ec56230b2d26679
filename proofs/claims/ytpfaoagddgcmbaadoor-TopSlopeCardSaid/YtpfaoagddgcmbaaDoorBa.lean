/- Walks of chapter 6 at the top seat. -/
import Derived.Test.YtpfaoagddgcmbaaDoorGa
import Derived.Test.YtpfaoagddgcmbaaDoorLib
import Derived.Test.YtpfaoagddgcmbaaDoorSpec
import Derived.Test.YtpfaoagddgcmbaaDoorSpecB
import Derived.Test.YtpfaoagddgcmbaaDoorPl
namespace Go.Proofs.YtpfaoagddgcmbaaDoor
open Go.RowKit Bench06
set_option maxHeartbeats 400000 in
theorem full_any (r : Int) (w : World) (h0 : 0 ≤ r) (h1 : r ≤ 20) :
    Calls Tryd.prog 71 #[.int .i64 r] w fun e w' => ∃ a c, e = .returned (.slice a r.toNat c) ∧ OwnL w' 3 w.heap.size a r.toNat c (rng r.toNat) ∧ Below w.heap.size w w' := by
  go_enter Tryd.func71, Tryd.ntmps71
  go_wp2
  go_loopw [3, 6] (fun v i wr => ∃ (k : Nat) (a : Option Addr) (c : Nat), (k : Int) ≤ r ∧ i = .int .i64 k ∧ v = .slice a k c ∧ OwnL wr 3 w.heap.size a k c (rng k) ∧ Below w.heap.size w wr) (fun _ i _ => (r - intOf i).toNat)
  case atStart => exact ⟨0, none, 0, by omega, rfl, rfl, OwnL.nilL _ _ _, Below.refl _ _⟩
  case round =>
    obtain ⟨k, a, c, hk, rfl, rfl, hown, hb⟩ := hrel
    have hsz := hb.size
    by_cases hlt : (k : Int) < r
    · go_wp2_with (at_builtin; refine wl_app_own Tryd.underlying108 elem3 w.heap.size (.tmp 9) (.tmp 11) rfl rfl rfl rfl (hown.alloc _) (isL_one _ _ _) (by simp; omega) (by omega) ?_)
      intro a2 c2 w1 hown1 hg1 hb1 _
      have hb2 := (hb.alloc hsz (.cells #[.int .i64 k] 3)).trans hb1
      clear hg1 hb1 hown
      rw [← rng_succ] at hown1
      go_wp2
      go_roundw
      case rel => exact ⟨k + 1, a2, c2, by omega, by go_num, rfl, hown1, hb2⟩
      case measure => simp [intOf]; omega
    · go_wp2
      go_ret
      obtain rfl : k = r.toNat := by omega
      exact ⟨a, c, rfl, hown, hb⟩
set_option maxHeartbeats 400000 in
set_option maxRecDepth 100000 in
theorem gone_any (a : Option Addr) (n c : Nat) (l : List Int) (k : Int) (w : World) (hl : IsL w a n c l) (h0 : 0 ≤ k) (h1 : k < n) (hn : n ≤ 20) :
    Calls Tryd.prog 72 #[.slice a n c, .int .i64 k] w fun e w' => ∃ a' c', e = .returned (.slice a' (n - 1) c') ∧ IsL w' a' (n - 1) c' (rotL l k.toNat) ∧ Below w.heap.size w w' ∧ Via w a a' := by
  have hc := hl.le
  obtain ⟨k, rfl⟩ := Int.eq_ofNat_of_zero_le h0
  have e1 : ((k : Int) + 1).toNat = k + 1 := by omega
  have s1 : (0 : Int) ≤ (k : Int) + 1 := by omega
  have s2 : (k : Int) + 1 ≤ (n : Int) := by omega
  have s3 : (n : Int) ≤ (c : Int) := by omega
  have s4 : (k : Int) ≤ (c : Int) := by omega
  go_enter Tryd.func72, Tryd.ntmps72
  go_wp2
  have hw1 : IntKind.i64.wrap ((k : Int) + 1) = (k : Int) + 1 := IntWalk.i64_in _ (by omega)
  go_still_tail 12, (by kernel_rfl)
  clear hw1
  have c1 := hl.drew.cut (k + 1) n n (by omega) (by omega) (by omega) (by omega)
  have c2 := hl.drew.pre k k (by omega) (by omega) (by omega)
  have hbd : Below w.heap.size w w.drew := (Below.refl _ _).drew
  have hlen := hl.len
  change wpList _ _ _ _ _ w.drew
  generalize w.drew = w2 at *
  refine wl_app_full Tryd.underlying108 elem3 (.tmp 12) (.tmp 16) rfl rfl rfl rfl c1 c2 (by omega) ?_
  intro a2 c3 w3 h3 hb3 hv3
  have hn1 : n - (k + 1) + k = n - 1 := by omega
  rw [hn1] at h3 ⊢
  have hb4 := hbd.trans (hb3.mono hbd.size)
  have hv4 : Via w a a2 := by
    intro x hx
    rcases hv3 x hx with ⟨y, hy, hyx⟩ | h
    · left
      by_cases hq : n = k + 1
      · rw [if_pos hq] at hy; exact ⟨y, hy, hyx⟩
      · rw [if_neg hq] at hy
        obtain ⟨z, hz, rfl⟩ := Option.map_eq_some_iff.1 hy
        exact ⟨z, hz, hyx⟩
    · exact .inr (Nat.le_trans hbd.size h)
  have h5 : IsL w3 a2 (n - 1) c3 (rotL l k) := by rw [← hlen, List.take_length] at h3; rw [← hlen]; exact h3
  clear c1 c2 s1 s2 s3 s4 e1 hn1 hlen h3 hv3
  generalize (if n = k + 1 then a else Option.map (fun x => { block := x.block, off := x.off + (k + 1) }) a) = q
  go_wp2
  go_ret
  exact ⟨a2, c3, rfl, h5, hb4, hv4⟩
end Go.Proofs.YtpfaoagddgcmbaaDoor
namespace Go.Proofs.YtpfaoagddgcmbaaDoor
open Go.RowKit Bench06
theorem within_yes (n lo hi : Int) (w : World) (h0 : lo ≤ n) (h1 : n ≤ hi) :
    Calls Tryd.prog 68 #[.int .i64 n, .int .i64 lo, .int .i64 hi] w fun e w' => e = .returned (.bool true) ∧ w = w' := by
  have hd : decide (n ≤ hi) = true := by simpa using h1
  go_enter Tryd.func68, Tryd.ntmps68
  go_wp2
  go_ret
  exact ⟨rfl, rfl⟩
theorem within_no (n lo hi : Int) (w : World) (h : ¬ (lo ≤ n ∧ n ≤ hi)) :
    Calls Tryd.prog 68 #[.int .i64 n, .int .i64 lo, .int .i64 hi] w fun e w' => e = .returned (.bool false) ∧ w = w' := by
  have : n < lo ∨ (lo ≤ n ∧ hi < n) := by omega
  clear h
  rcases this with h | ⟨h1, h2⟩
  rotate_right
  have hd : decide (n ≤ hi) = false := by simpa using h2
  all_goals
    go_enter Tryd.func68, Tryd.ntmps68
    go_wp2
    go_ret
    exact ⟨rfl, rfl⟩
theorem bounded_ok (r c : Int) (w : World) (h0 : 1 ≤ r) (h1 : r ≤ 20) (h2 : 1 ≤ c) (h3 : c ≤ 1000000000) :
    Calls Tryd.prog 92 #[.int .i64 r, .int .i64 c] w fun e w' => e = .returned (.int .i64 0) ∧ w = w' := by
  go_enter Tryd.func92, Tryd.ntmps92
  go_wp2
  go_ret
  exact ⟨rfl, rfl⟩
theorem bounded_err (r c : Int) (w : World) (h : ¬ (1 ≤ r ∧ r ≤ 20 ∧ 1 ≤ c ∧ c ≤ 1000000000)) :
    Calls Tryd.prog 92 #[.int .i64 r, .int .i64 c] w fun e w' => e = .returned (.int .i64 1) ∧ w = w' := by
  have : r < 1 ∨ 20 < r ∨ (1 ≤ r ∧ r ≤ 20 ∧ c < 1) ∨ (1 ≤ r ∧ r ≤ 20 ∧ 1000000000 < c) := by omega
  clear h
  rcases this with h | h | ⟨h1, h2, h⟩ | ⟨h1, h2, h⟩
  rotate_right
  have hd : decide (c ≤ 1000000000) = false := by simpa using h
  all_goals
    go_enter Tryd.func92, Tryd.ntmps92
    go_wp2
    go_ret
    exact ⟨rfl, rfl⟩
theorem asked_ok (r c n : Int) (w : World) (h0 : 1 ≤ r) (h1 : r ≤ 20) (h2 : 1 ≤ c) (h3 : c ≤ 1000000000) (h4 : 0 ≤ n) (h5 : n ≤ r - 1) :
    Calls Tryd.prog 66 #[.int .i64 r, .int .i64 c, .int .i64 n] w fun e w' => e = .returned (.int .i64 0) ∧ w = w' := by
  go_enter Tryd.func66, Tryd.ntmps66
  go_wp2_with (first | (go_at_call 92; refine (bounded_ok _ _ _ h0 h1 h2 h3).mono ?_; rintro e w' ⟨rfl, rfl⟩) | go_in)
  go_ret
  exact ⟨rfl, rfl⟩
theorem asked_none (r c n : Int) (w : World) (h0 : 1 ≤ r) (h1 : r ≤ 20) (h2 : 1 ≤ c) (h3 : c ≤ 1000000000) (h : ¬ (0 ≤ n ∧ n ≤ r - 1)) :
    Calls Tryd.prog 66 #[.int .i64 r, .int .i64 c, .int .i64 n] w fun e w' => e = .returned (.int .i64 2) ∧ w = w' := by
  have : n < 0 ∨ (0 ≤ n ∧ r - 1 < n) := by omega
  clear h
  rcases this with h | ⟨h, h4⟩
  rotate_right
  have hd : decide (n ≤ r - 1) = false := by simpa using h4
  all_goals
    go_enter Tryd.func66, Tryd.ntmps66
    go_wp2_with (first | (go_at_call 92; refine (bounded_ok _ _ _ h0 h1 h2 h3).mono ?_; rintro e w' ⟨rfl, rfl⟩) | go_in)
    go_ret
    exact ⟨rfl, rfl⟩
theorem asked_err (r c n : Int) (w : World) (h : ¬ (1 ≤ r ∧ r ≤ 20 ∧ 1 ≤ c ∧ c ≤ 1000000000)) :
    Calls Tryd.prog 66 #[.int .i64 r, .int .i64 c, .int .i64 n] w fun e w' => e = .returned (.int .i64 1) ∧ w = w' := by
  have H := Lib.hid h
  clear h
  go_enter Tryd.func66, Tryd.ntmps66
  go_wp2_with (first | (go_at_call 92; refine (bounded_err _ _ _ H.out).mono ?_; rintro e w' ⟨rfl, rfl⟩) | go_in)
  go_ret
  exact ⟨rfl, rfl⟩
set_option maxHeartbeats 400000 in
theorem When_ok (r c n : Int) (w : World) (h0 : 1 ≤ r) (h1 : r ≤ 20) (h2 : 1 ≤ c) (h3 : c ≤ 1000000000) (h4 : 0 ≤ n) (h5 : n ≤ r - 1) :
    Calls Tryd.prog 27 #[.int .i64 r, .int .i64 c, .int .i64 n] w fun e w' => e = .returned (.tuple #[.int .i64 (whenG c r.toNat n 0), .int .i64 0]) ∧ w = w' := by
  go_enter Tryd.func27, Tryd.ntmps27
  go_wp2_with (go_at_call 66; refine (asked_ok _ _ _ _ h0 h1 h2 h3 h4 h5).mono ?_; rintro e w' ⟨rfl, rfl⟩)
  go_loop [2, 20] (fun q i => ∃ (k : Nat) (s : Int), (k : Int) ≤ r ∧ i = .int .i64 k ∧ q = .int .i64 s ∧ 0 ≤ s ∧ (s < r - k ∨ r = k) ∧ Hid (whenG c (r.toNat - k) s k = whenG c r.toNat n 0)) (fun _ i => (r - intOf i).toNat)
  case atStart => exact ⟨0, n, by omega, rfl, rfl, h4, by omega, Lib.hid rfl⟩
  case round =>
    obtain ⟨k, s, hk, rfl, rfl, hs, hs2, hw⟩ := hrel
    by_cases hlt : (k : Int) < r
    · have hb := stepR_bd c s (r - k) hs (by omega)
      have hf : r.toNat - k = (r.toNat - (k + 1)) + 1 := by omega
      have hc : ((r.toNat - (k + 1) : Nat) : Int) + 1 = r - k := by omega
      by_cases heq : s = (c - 1) % (r - k)
      · have hb4 := hb.2.2.2
        have hval : (k : Int) = whenG c r.toNat n 0 := by
          rw [← hw.out, hf, whenG, hc, if_pos heq]
        have hbool : (s == (c - 1) % (r - k)) = true := by simpa using heq
        have HV := Lib.hid hval
        clear hf hc heq hval hb
        go_wp2
        go_ret2
        exact ⟨by rw [← HV.out]; rfl, rfl⟩
      · have hbool : (s == (c - 1) % (r - k)) = false := by simpa using heq
        have hval : whenG c (r.toNat - (k + 1)) (stepR c s (r - k)) ((k : Int) + 1) = whenG c r.toNat n 0 := by
          rw [← hw.out, hf, whenG, hc, if_neg heq]
        have HV := Lib.hid hval
        have hst : stepR c s (r - k) = (s - (c - 1) % (r - k) - 1 + (r - k)) % (r - k) := rfl
        have hn1 := hb.2.2.1 heq
        obtain ⟨b1, b2, _, b3, b4⟩ := hb
        have HS := Lib.hid hst
        clear hf hc heq hval hst
        go_wp2
        go_round
        case rel => exact ⟨k + 1, stepR c s (r - k), by omega, by go_num, by rw [HS.out], b1, by omega, Lib.hid (by rw [show ((k + 1 : Nat) : Int) = (k : Int) + 1 by omega]; exact HV.out)⟩
        case measure => simp [intOf]; omega
    · have hval : whenG c r.toNat n 0 = 0 := by rw [← hw.out, show r.toNat - k = 0 by omega]; rfl
      have HV := Lib.hid hval
      clear hval
      go_wp2
      go_ret2
      exact ⟨by rw [HV.out]; rfl, rfl⟩
end Go.Proofs.YtpfaoagddgcmbaaDoor
namespace Go.Proofs.YtpfaoagddgcmbaaDoor
open Go.RowKit Bench06
set_option maxHeartbeats 400000 in
theorem Who_ok (r c n : Int) (w : World) (h0 : 1 ≤ r) (h1 : r ≤ 20) (h2 : 1 ≤ c) (h3 : c ≤ 1000000000) (h4 : 0 ≤ n) (h5 : n ≤ r - 1) :
    Calls Tryd.prog 32 #[.int .i64 r, .int .i64 c, .int .i64 n] w fun e w' => e = .returned (.tuple #[.int .i64 (whoG c (r.toNat - n.toNat) n.toNat), .int .i64 0]) ∧ w = w' := by
  have hz := whoG_bd c (r.toNat - n.toNat) (by omega) 0
  have hz0 : whoG c (r.toNat - n.toNat) 0 = (c - 1) % (r - n) := by
    simp only [whoG]; rw [show ((r.toNat - n.toNat : Nat) : Int) = r - n by omega]
  rw [hz0] at hz
  have HZ := Lib.hid hz0
  clear hz0
  go_enter Tryd.func32, Tryd.ntmps32
  go_wp2_with (go_at_call 66; refine (asked_ok _ _ _ _ h0 h1 h2 h3 h4 h5).mono ?_; rintro e w' ⟨rfl, rfl⟩)
  go_loop [9, 10] (fun q i => ∃ (k : Nat) (s : Int), (k : Int) ≤ n ∧ i = .int .i64 (r - n + 1 + k) ∧ q = .int .i64 s ∧ 0 ≤ s ∧ s < 20 ∧ Hid (s = whoG c (r.toNat - n.toNat) k)) (fun _ i => (r + 1 - intOf i).toNat)
  case atStart => exact ⟨0, _, by omega, by go_num, rfl, hz.1, by omega, Lib.hid HZ.out.symm⟩
  case round =>
    obtain ⟨k, s, hk, rfl, rfl, hs, hs2, hw⟩ := hrel
    by_cases hlt : (k : Int) < n
    · have hb := whoG_bd c (r.toNat - n.toNat) (by omega) (k + 1)
      have hv : whoG c (r.toNat - n.toNat) (k + 1) = (s + c) % (r - n + 1 + k) := by
        simp only [whoG]; rw [hw.out, show ((r.toNat - n.toNat : Nat) : Int) + k + 1 = r - n + 1 + k by omega]
      rw [hv] at hb
      have HV := Lib.hid hv
      clear hv
      go_wp2
      go_round
      case rel => exact ⟨k + 1, _, by omega, by go_num, rfl, hb.1, by omega, Lib.hid HV.out.symm⟩
      case measure => simp [intOf]; omega
    · have hkn : k = n.toNat := by omega
      have HK := Lib.hid hkn
      clear hkn
      go_wp2
      go_ret2
      exact ⟨ret_i2 (hw.out.trans (by rw [HK.out])), rfl⟩
theorem divisor_any (a b : Int) (w : World) (h0 : 0 ≤ a) (h1 : 0 ≤ b) (h2 : a ≤ 4000000000) (h3 : b ≤ 4000000000) :
    Calls Tryd.prog 113 #[.int .i64 a, .int .i64 b] w fun e w' => e = .returned (.int .i64 (Nat.gcd a.toNat b.toNat)) ∧ Below w.heap.size w w' := by
  go_enter Tryd.func113, Tryd.ntmps113
  go_wp2
  go_loopw [0, 1] (fun x y wr => ∃ (p q : Nat), x = .int .i64 p ∧ y = .int .i64 q ∧ p ≤ 4000000000 ∧ q ≤ 4000000000 ∧ Hid (Nat.gcd p q = Nat.gcd a.toNat b.toNat) ∧ Below w.heap.size w wr) (fun _ y _ => (intOf y).toNat)
  case atStart => exact ⟨a.toNat, b.toNat, by go_num, by go_num, by omega, by omega, Lib.hid rfl, Below.refl _ _⟩
  case round =>
    obtain ⟨p, q, rfl, rfl, hp, hq, hg, hb⟩ := hrel
    by_cases hlt : 0 < q
    · have hne : ((q : Int) != 0) = true := by simp; omega
      have hne2 : ((q : Int) == 0) = false := by simp; omega
      have hmod := Nat.mod_lt p hlt
      have hcast : ((p : Int) % (q : Int)) = ((p % q : Nat) : Int) := by simp
      have hstep : Nat.gcd q (p % q) = Nat.gcd a.toNat b.toNat := by rw [← hg.out, Nat.gcd_comm q, ← Nat.gcd_rec, Nat.gcd_comm]
      have HS := Lib.hid hstep
      have HC := Lib.hid hcast
      clear hstep hcast
      go_wp2
      go_quiet (fail)
      go_wp2
      go_roundw
      case rel => exact ⟨q, p % q, rfl, by rw [HC.out], hq, by omega, HS, hb.trans ⟨rfl, rfl, rfl, Nat.le_refl _, fun _ _ => rfl⟩⟩
      case measure => simp only [intOf]; rw [HC.out]; omega
    · obtain rfl : q = 0 := by omega
      go_wp2
      go_ret
      exact ⟨ret_i (by rw [← hg.out, Nat.gcd_zero_right]), hb⟩
set_option maxHeartbeats 400000 in
theorem multiple_any (r : Int) (w : World) (h0 : 0 ≤ r) (h1 : r ≤ 20) :
    Calls Tryd.prog 91 #[.int .i64 r] w fun e w' => e = .returned (.int .i64 (lcmTo r.toNat)) ∧ Below w.heap.size w w' := by
  go_enter Tryd.func91, Tryd.ntmps91
  go_wp2
  go_loopw [3, 6] (fun o i wr => ∃ (k : Nat), (k : Int) ≤ r ∧ i = .int .i64 k ∧ o = .int .i64 (lcmTo k) ∧ Below w.heap.size w wr) (fun _ i _ => (r - intOf i).toNat)
  case atStart => exact ⟨0, by omega, rfl, rfl, Below.refl _ _⟩
  case round =>
    obtain ⟨k, hk, rfl, rfl, hb⟩ := hrel
    obtain ⟨l0, l1⟩ := lcmTo_le k (by omega)
    by_cases hlt : (k : Int) < r
    · obtain ⟨m0, m1⟩ := lcmTo_le (k + 1) (by omega)
      have hg : 0 < Nat.gcd (lcmTo k) (k + 1) := Nat.gcd_pos_of_pos_left _ l0
      have hgl : Nat.gcd (lcmTo k) (k + 1) ≤ k + 1 := Nat.gcd_le_right _ (by omega)
      have hstep : lcmTo (k + 1) = lcmTo k / Nat.gcd (lcmTo k) (k + 1) * (k + 1) := rfl
      have hdiv : lcmTo k / Nat.gcd (lcmTo k) (k + 1) ≤ lcmTo k := Nat.div_le_self _ _
      rw [hstep] at m0 m1
      have HS := Lib.hid hstep
      clear hstep
      generalize lcmTo k = l at *
      have d0 : (0 : Int) ≤ (l : Int) / ((l.gcd (k + 1) : Nat) : Int) := Int.ediv_nonneg (by omega) (by omega)
      have d1 : (l : Int) / ((l.gcd (k + 1) : Nat) : Int) ≤ 232792560 := by
        have : ((l / l.gcd (k + 1) : Nat) : Int) = (l : Int) / ((l.gcd (k + 1) : Nat) : Int) := by simp
        omega
      have e1 : (l : Int) / ((l.gcd (k + 1) : Nat) : Int) * ((k : Int) + 1) = ((l / l.gcd (k + 1) * (k + 1) : Nat) : Int) := by simp
      have d2 : 0 ≤ (l : Int) / ((l.gcd (k + 1) : Nat) : Int) * ((k : Int) + 1) := by rw [e1]; omega
      have d3 : (l : Int) / ((l.gcd (k + 1) : Nat) : Int) * ((k : Int) + 1) ≤ 232792560 := by rw [e1]; omega
      have HE := Lib.hid e1
      clear e1
      go_wp2_with (go_at_call 113; refine (divisor_any _ _ _ (by omega) (by omega) (by omega) (by omega)).mono ?_; rintro e w1 ⟨rfl, hb1⟩)
      go_roundw
      case rel => exact ⟨k + 1, by omega, by go_num, by rw [HE.out, HS.out], hb.trans (hb1.mono hb.size)⟩
      case measure => simp [intOf]; omega
    · obtain rfl : k = r.toNat := by omega
      go_wp2
      go_ret
      exact ⟨rfl, hb⟩
end Go.Proofs.YtpfaoagddgcmbaaDoor
namespace Go.Proofs.YtpfaoagddgcmbaaDoor
open Go.RowKit Bench06
theorem Orders_ok (r : Int) (w : World) (h0 : 1 ≤ r) (h1 : r ≤ 20) :
    Calls Tryd.prog 47 #[.int .i64 r] w fun e w' => e = .returned (.tuple #[.int .i64 (lcmTo r.toNat), .int .i64 0]) ∧ Below w.heap.size w w' := by
  go_enter Tryd.func47, Tryd.ntmps47
  go_wp2_with (first | (go_at_call 91; refine (multiple_any _ _ (by omega) (by omega)).mono ?_; rintro e w1 ⟨rfl, hb1⟩) | go_in)
  go_ret2
  exact ⟨rfl, hb1⟩
set_option maxHeartbeats 400000 in
theorem index65_any (a : Option Addr) (n c : Nat) (l : List Int) (x : Int) (w : World) (hl : IsL w a n c l) :
    Calls Tryd.prog 88 #[.slice a n c, .int .i64 x] w fun e w' => e = .returned (.int .i64 (idxI l x)) ∧ w = w' := by
  have hc := hl.le
  have hcap := hl.cap
  have hlen := Lib.hid hl.len
  go_enter Tryd.func88, Tryd.ntmps88
  go_wp2
  go_loop [8] (fun i => ∃ k : Nat, k ≤ n ∧ i = .int .i64 k ∧ Hid (x ∉ l.take k)) (fun i => n - (intOf i).toNat)
  case atStart => exact ⟨0, by omega, rfl, Lib.hid (by simp)⟩
  case round =>
    obtain ⟨k, hk, rfl, hnot⟩ := hrel
    by_cases hlt : k < n
    · obtain ⟨b, o, rfl, hbl, hcells⟩ := hl.cells (by omega)
      have hcell := hcells k hlt
      have hkl : k < l.length := by rw [hlen.out]; exact hlt
      clear hcells
      by_cases heq : l.getD k 0 = x
      · have hv := Lib.hid (idxI_at l x k hnot.out hkl heq)
        generalize l.getD k 0 = y at *
        subst heq
        go_wp2
        go_ret
        exact ⟨ret_i hv.out.symm, rfl⟩
      · have hn2 : Hid (x ∉ l.take (k + 1)) := Lib.hid (by
          rw [take_succ_getD l k hkl]; simp only [List.mem_append, List.mem_singleton, not_or]; exact ⟨hnot.out, fun h => heq h.symm⟩)
        generalize l.getD k 0 = y at *
        have hbool : (x == y) = false := by simp; exact fun h => heq h.symm
        clear heq
        go_wp2
        go_round
        case rel => exact ⟨k + 1, by omega, by go_num, hn2⟩
        case measure => simp [intOf]; omega
    · have hv := Lib.hid (idxI_not l x (by have := hnot.out; rw [List.take_of_length_le (by rw [hlen.out]; omega)] at this; exact this))
      go_wp2
      go_ret
      exact ⟨ret_i hv.out.symm, rfl⟩
theorem contains_any (a : Option Addr) (n c : Nat) (l : List Int) (x : Int) (w : World) (hl : IsL w a n c l) :
    Calls Tryd.prog 44 #[.slice a n c, .int .i64 x] w fun e w' => e = .returned (.bool (decide (0 ≤ idxI l x))) ∧ w = w' := by
  go_enter Tryd.func44, Tryd.ntmps44
  go_wp2_with (go_at_call 88; refine (index65_any _ _ _ _ _ _ hl).mono ?_; rintro e w1 ⟨rfl, rfl⟩)
  go_ret
  exact ⟨rfl, rfl⟩
theorem contains_yes (a : Option Addr) (n c : Nat) (l : List Int) (x : Int) (w : World) (hl : IsL w a n c l) (hx : x ∈ l) :
    Calls Tryd.prog 44 #[.slice a n c, .int .i64 x] w fun e w' => e = .returned (.bool true) ∧ w = w' :=
  (contains_any a n c l x w hl).mono fun e w' ⟨he, hw⟩ => ⟨he.trans (ret_b (by have := idxI_mem l x hx; simp [this.1])), hw⟩
theorem contains_no (a : Option Addr) (n c : Nat) (l : List Int) (x : Int) (w : World) (hl : IsL w a n c l) (hx : x ∉ l) :
    Calls Tryd.prog 44 #[.slice a n c, .int .i64 x] w fun e w' => e = .returned (.bool false) ∧ w = w' :=
  (contains_any a n c l x w hl).mono fun e w' ⟨he, hw⟩ => ⟨he.trans (ret_b (by rw [idxI_not l x hx]; decide)), hw⟩
set_option maxHeartbeats 800000 in
theorem ordered_any (r c : Int) (w : World) (h0 : 1 ≤ r) (h1 : r ≤ 20) (h2 : 1 ≤ c) (h3 : c ≤ 1000000000) :
    Calls Tryd.prog 93 #[.int .i64 r, .int .i64 c] w fun e w' => ∃ a c', e = .returned (.slice a r.toNat c') ∧ OwnL w' 3 w.heap.size a r.toNat c' (ordL r.toNat c.toNat) ∧ Below w.heap.size w w' := by
  go_enter Tryd.func93, Tryd.ntmps93
  go_wp2_with (go_at_call 71; refine (full_any _ _ (by omega) h1).mono ?_; rintro e w1 ⟨a0, c0, rfl, hown0, hb0⟩)
  go_loopw [5, 6] (fun vb vo wr => ∃ (k m : Nat) (a : Option Addr) (ca : Nat) (o : Option Addr) (co : Nat) (l out : List Int), k + m = r.toNat ∧ vb = .slice a m ca ∧ vo = .slice o k co ∧ IsL wr a m ca l ∧ OwnL wr 3 w.heap.size o k co out ∧
      Below w.heap.size w wr ∧ Sep a o ∧ Hid (out ++ ordG c.toNat m l = ordL r.toNat c.toNat)) (fun vb _ _ => lenOf vb)
  case atStart => exact ⟨0, r.toNat, a0, c0, none, 0, _, [], by omega, rfl, rfl, hown0.isL, OwnL.nilL _ _ _, hb0, Sep.none_right _, Lib.hid rfl⟩
  case round =>
    obtain ⟨k, m, a, ca, o, co, l, out, hk, rfl, rfl, hl, hout, hb, hsep, heq⟩ := hrel
    have hk2 : k + m ≤ 20 := by omega
    have hsz := hb.size
    by_cases hlt : 0 < m
    · obtain ⟨b, of, rfl, hbl, hcells⟩ := hl.cells (by omega)
      have hl2 := hl.le
      have hl3 := hl.cap
      have i0 := Int.emod_nonneg (c - 1) (show (m : Int) ≠ 0 by omega)
      have i1 := Int.emod_lt_of_pos (c - 1) (show (0 : Int) < (m : Int) by omega)
      have hcell := hcells ((c - 1) % (m : Int)).toNat (by omega)
      have hne : ((m : Int) == 0) = false := by simp; omega
      have HQ := Lib.hid (heq.out.symm.trans (ordG_step c m l out hl.len hlt h2)).symm
      have HK := Lib.hid hk
      clear hcells heq hk
      go_wp2_with (first
        | (at_builtin; refine wl_app_own Tryd.underlying23 elem3 w.heap.size (.tmp 18) (.tmp 23) rfl rfl rfl rfl (hout.alloc _) (isL_one _ _ _) (by simp; omega) (by omega) ?_))
      intro o2 co2 w2 hout2 hg2 hb2 hv2
      have hl4 := (hl.alloc (.cells #[.int .i64 (l.getD ((c - 1) % (m : Int)).toNat 0)] 3)).grown hg2 hsep
      have hs2 : Sep (some ⟨b, of, none⟩) o2 := (hsep.symm.via hv2 (by rintro x hx; obtain rfl := Option.some.inj hx; simp; omega)).symm
      have hb4 := (hb.alloc hsz (.cells #[.int .i64 (l.getD ((c - 1) % (m : Int)).toNat 0)] 3)).trans hb2
      have hoL := hout2.lt
      clear hg2 hv2 hsep hb2 hcell hout hl hbl
      go_wp2_with (go_at_call 72; refine (gone_any _ _ _ _ _ _ hl4 i0 i1 (by omega)).mono ?_; rintro e w3 ⟨a3, c3, rfl, hl5, hb5, hv5⟩)
      go_roundw
      case rel => exact ⟨k + 1, m - 1, a3, c3, o2, co2, _, _, by have := HK.out; omega, rfl, rfl, hl5, hout2.below hb5, hb4.trans (hb5.mono hb4.size), hs2.via hv5 (fun x hx => (hoL x hx).2), HQ⟩
      case measure => simp [lenOf]; omega
    · obtain rfl : m = 0 := by omega
      have hq : out = ordL r.toNat c.toNat := by have := heq.out; simpa [ordG] using this
      have hk' : k = r.toNat := by omega
      have HQ := Lib.hid hq
      have HK := Lib.hid hk'
      clear hq hk' hk heq
      go_wp2
      go_ret
      obtain rfl : k = r.toNat := HK.out
      obtain rfl : out = ordL r.toNat c.toNat := HQ.out
      exact ⟨o, co, rfl, hout, hb⟩
theorem Order_ok (r c : Int) (w : World) (h0 : 1 ≤ r) (h1 : r ≤ 20) (h2 : 1 ≤ c) (h3 : c ≤ 1000000000) :
    Calls Tryd.prog 48 #[.int .i64 r, .int .i64 c] w fun e w' => ∃ a c', e = .returned (.tuple #[.slice a r.toNat c', .int .i64 0]) ∧ OwnL w' 3 w.heap.size a r.toNat c' (ordL r.toNat c.toNat) ∧ Below w.heap.size w w' := by
  go_enter Tryd.func48, Tryd.ntmps48
  go_wp2_with (first | (go_at_call 92; refine (bounded_ok _ _ _ h0 h1 h2 h3).mono ?_; rintro e w' ⟨rfl, rfl⟩) | (go_at_call 93; refine (ordered_any _ _ _ h0 h1 h2 h3).mono ?_; rintro e w1 ⟨a, ca, rfl, hown, hb⟩))
  go_ret2
  exact ⟨a, ca, rfl, hown, hb⟩
end Go.Proofs.YtpfaoagddgcmbaaDoor
namespace Go.Proofs.YtpfaoagddgcmbaaDoor
open Go.RowKit Bench06
set_option maxHeartbeats 400000 in
set_option maxRecDepth 100000 in
theorem try_any (f : Nat) (p1 p2 : Addr) (p : Nat → Bool) (w : World) (hcf : ∀ (args : Array Value) (w : World), (callFunc f args).run Tryd.prog w = .ok (.enter f args) w)
    (HC : Hid (∀ (k : Int) (wr : World), 1 ≤ k → k ≤ 1000 → Below w.heap.size w wr → Calls Tryd.prog f #[.int .i64 k, .pointer (some p1), .pointer (some p2)] wr fun e w' => e = .returned (.bool (p k.toNat)) ∧ Below wr.heap.size wr w')) :
    Calls Tryd.prog 69 #[.func (.func f) #[] #[.pointer (some p1), .pointer (some p2)]] w fun e w' => e = .returned (.tuple #[.int .i64 (tryL p).1, .int .i64 (tryL p).2]) ∧ Below w.heap.size w w' := by
  go_enter Tryd.func69, Tryd.ntmps69
  go_wp2
  go_loopw [5] (fun vi wr => ∃ (k : Nat), k ≤ 1000 ∧ vi = .int .i64 k ∧ Below w.heap.size w wr ∧ Hid (tryG p (1000 - k) k = tryL p)) (fun vi _ => 1000 - (intOf vi).toNat)
  case atStart => exact ⟨0, by omega, rfl, Below.refl _ _, Lib.hid rfl⟩
  case round =>
    obtain ⟨k, hk, rfl, hb, heq⟩ := hrel
    by_cases hlt : k < 1000
    · have hstep := heq.out
      rw [show 1000 - k = (1000 - (k + 1)) + 1 by omega, tryG] at hstep
      have hcall := HC.out ((k : Int) + 1) wr (by omega) (by omega) hb
      have hp : ((k : Int) + 1).toNat = k + 1 := by omega
      rw [hp] at hcall
      have HQ := Lib.hid hcall
      clear hcall hp heq
      cases hpk : p (k + 1) with
      | true =>
        rw [hpk] at HQ hstep
        rw [if_pos rfl] at hstep
        have HS := Lib.hid hstep
        clear hstep hpk
        go_wp2_with fail
        refine HQ.out.mono ?_
        rintro e w1 ⟨rfl, hb1⟩
        go_wp2
        go_ret2
        exact ⟨ret_ii (by rw [← HS.out]) (by rw [← HS.out]), hb.trans (hb1.mono hb.size)⟩
      | false =>
        rw [hpk] at HQ hstep
        rw [if_neg (by simp)] at hstep
        have HS := Lib.hid hstep
        clear hstep hpk
        go_wp2_with fail
        refine HQ.out.mono ?_
        rintro e w1 ⟨rfl, hb1⟩
        go_wp2
        go_roundw
        case rel => exact ⟨k + 1, by omega, by go_num, hb.trans (hb1.mono hb.size), HS⟩
        case measure => simp [intOf]; omega
    · obtain rfl : k = 1000 := by omega
      have HS : Hid (tryL p = (0, 12)) := Lib.hid heq.out.symm
      clear heq
      go_wp2
      go_ret2
      exact ⟨ret_ii (by rw [HS.out]) (by rw [HS.out]), hb⟩
set_option maxHeartbeats 800000 in
theorem firstq_any (r k : Int) (p1 p2 : Addr) (ah : Option Addr) (nh ch : Nat) (lh : List Int) (w : World) (h0 : 1 ≤ r) (h1 : r ≤ 20) (h2 : 1 ≤ k) (h3 : k ≤ 1000) (hn : nh ≤ r.toNat) (hl : IsL w ah nh ch lh)
    (c1 : w.cell? p1 = some (.int .i64 r)) (c2 : w.cell? p2 = some (.slice ah nh ch)) (_b1 : p1.block < w.heap.size) (b2 : p2.block < w.heap.size) :
    Calls Tryd.prog 70 #[.int .i64 k, .pointer (some p1), .pointer (some p2)] w fun e w' => e = .returned (.bool (firstP r lh k.toNat)) ∧ Below w.heap.size w w' := by
  have hlen := Lib.hid hl.len
  have hcap := hl.cap
  have hle := hl.le
  go_enter Tryd.func70, Tryd.ntmps70
  go_wp2_with (go_at_call 71; refine (full_any _ _ (by omega) h1).mono ?_; rintro e w1 ⟨a0, c0, rfl, hown0, hb0⟩; have c2' := (hb0.cell b2).trans c2)
  have hl0 := hown0.isL
  clear hown0
  go_loopw [5, 11] (fun vb vi wr => ∃ (i : Nat) (a : Option Addr) (ca : Nat) (l : List Int), i ≤ nh ∧ vi = .int .i64 i ∧ vb = .slice a (r.toNat - i) ca ∧ IsL wr a (r.toNat - i) ca l ∧ Below w.heap.size w wr ∧ Hid (firstG lh k.toNat (nh - i) l = firstP r lh k.toNat)) (fun _ vi _ => nh - (intOf vi).toNat)
  case atStart => exact ⟨0, a0, c0, _, by omega, rfl, rfl, hl0, hb0, Lib.hid (by rw [firstP, hlen.out]; rfl)⟩
  case round =>
    obtain ⟨i, a, ca, l, hi, rfl, rfl, hlr, hbr, heq⟩ := hrel
    by_cases hlt : i < nh
    · generalize hm : r.toNat - i = m at *
      have hm0 : 0 < m := by omega
      have hm1 : m ≤ 20 := by omega
      have HM := Lib.hid hm
      clear hm
      obtain ⟨b, of, rfl, hbl, hcells⟩ := hlr.cells hm0
      have hl2 := hlr.le
      have hl3 := hlr.cap
      have i0 := Int.emod_nonneg (k - 1) (show (m : Int) ≠ 0 by omega)
      have i1 := Int.emod_lt_of_pos (k - 1) (show (0 : Int) < (m : Int) by omega)
      have hcell := hcells ((k - 1) % (m : Int)).toNat (by omega)
      have hne : ((m : Int) == 0) = false := by simp; omega
      have c2r := (hbr.cell b2).trans c2
      have hlhr := hl.below hbr
      have hmk : (k.toNat - 1) % l.length = ((k - 1) % (m : Int)).toNat := by
        rw [hlr.len]
        have : (k - 1) = ((k.toNat - 1 : Nat) : Int) := by omega
        rw [this, ← Int.natCast_emod]; rfl
      have hstep := heq.out
      rw [show nh - i = (nh - (i + 1)) + 1 by omega, firstG, hmk] at hstep
      by_cases hin : l.getD ((k - 1) % (m : Int)).toNat 0 ∈ lh
      · rw [if_pos hin] at hstep
        have HS := Lib.hid hstep
        have HI := Lib.hid hin
        clear hstep hin hmk heq hcells
        generalize l.getD ((k - 1) % (m : Int)).toNat 0 = x at *
        go_wp2
        go_quiet ((go_at_call 44; exact Calls.quiet_of_same ((contains_yes _ _ _ _ _ _ (hlhr.drewN _) HI.out).mono (fun e w' h => ⟨h.1, h.2.symm⟩))))
        have hl6 : IsL (wr.drewN nq) (some ⟨b, of, none⟩) m ca l := hlr.below ((Below.refl _ _).trans ⟨rfl, rfl, rfl, Nat.le_refl _, fun _ _ => rfl⟩)
        have hb6 : Below w.heap.size w (wr.drewN nq) := hbr.trans ⟨rfl, rfl, rfl, Nat.le_refl _, fun _ _ => rfl⟩
        clear hcell hlr hbr hlhr c2r hbl
        generalize wr.drewN nq = wq at *
        go_wp2_with (go_at_call 72; refine (gone_any _ _ _ _ _ _ hl6 i0 i1 hm1).mono ?_; rintro e w3 ⟨a3, c3, rfl, hl5, hb5, hv5⟩)
        go_roundw
        case rel => exact ⟨i + 1, a3, c3, _, by omega, by go_num, by rw [show r.toNat - (i + 1) = m - 1 by have := HM.out; omega], by rw [show r.toNat - (i + 1) = m - 1 by have := HM.out; omega]; exact hl5, hb6.trans (hb5.mono hb6.size), HS⟩
        case measure => simp [intOf]; omega
      · rw [if_neg hin] at hstep
        have HS := Lib.hid hstep
        have HI := Lib.hid hin
        clear hstep hin hmk heq hcells
        generalize l.getD ((k - 1) % (m : Int)).toNat 0 = x at *
        go_wp2
        go_quiet ((go_at_call 44; exact Calls.quiet_of_same ((contains_no _ _ _ _ _ _ (hlhr.drewN _) HI.out).mono (fun e w' h => ⟨h.1, h.2.symm⟩))))
        go_wp2
        go_ret
        exact ⟨ret_b HS.out, hbr.trans ⟨rfl, rfl, rfl, Nat.le_refl _, fun _ _ => rfl⟩⟩
    · obtain rfl : i = nh := by omega
      have HS : Hid (true = firstP r lh k.toNat) := Lib.hid (by rw [← heq.out, Nat.sub_self]; rfl)
      clear heq
      go_wp2
      go_ret
      exact ⟨ret_b HS.out, hbr⟩
end Go.Proofs.YtpfaoagddgcmbaaDoor
namespace Go.Proofs.YtpfaoagddgcmbaaDoor
open Go.RowKit Bench06
def firstL (r : Int) (home : List Int) : Int × Int := if homeL r home = 0 then tryL (firstP r home) else (0, homeL r home)
set_option maxHeartbeats 1600000 in
theorem First_ok (r : Int) (a : Option Addr) (n c : Nat) (l : List Int) (w : World) (h0 : 1 ≤ r) (h1 : r ≤ 20) (hl : IsL w a n c l) :
    Calls Tryd.prog 29 #[.int .i64 r, .slice a n c] w fun e w' => e = .returned (.tuple #[.int .i64 (firstL r l).1, .int .i64 (firstL r l).2]) ∧ Below w.heap.size w w' := by
  have hlen := Lib.hid hl.len
  have hcap := hl.cap
  have hle := hl.le
  go_enter Tryd.func29, Tryd.ntmps29
  go_wp2_with (go_at_call 68; refine (within_yes _ _ _ _ h0 h1).mono ?_; rintro e w' ⟨rfl, rfl⟩)
  have hb : Below w.heap.size w ((w.alloc (.cells #[.int .i64 r] 3)).alloc (.cells #[.slice a n c] 23)) := ((Below.refl w.heap.size w).alloc (Nat.le_refl _) _).alloc (by simp) _
  have k1 : ((w.alloc (.cells #[.int .i64 r] 3)).alloc (.cells #[.slice a n c] 23)).cell? ⟨w.heap.size, 0, none⟩ = some (.int .i64 r) := by go_cell
  have k2 : ((w.alloc (.cells #[.int .i64 r] 3)).alloc (.cells #[.slice a n c] 23)).cell? ⟨w.heap.size + 1, 0, none⟩ = some (.slice a n c) := by go_cell
  have ksz : w.heap.size + 1 < ((w.alloc (.cells #[.int .i64 r] 3)).alloc (.cells #[.slice a n c] 23)).heap.size := by simp
  have hl2 := hl.below hb
  generalize hp : w.heap.size = p at *
  have HP := Lib.hid hp
  clear hp
  generalize ((w.alloc (.cells #[.int .i64 r] 3)).alloc (.cells #[.slice a n c] 23)) = w2 at *
  go_loop [6, 14] (fun vb vi => ∃ (i : Nat) (b : Int), i ≤ n ∧ vi = .int .i64 i ∧ vb = .int .i64 b ∧ Hid (homeG r b (l.drop i) = homeL r l)) (fun _ vi => n - (intOf vi).toNat)
  case atStart => exact ⟨0, -1, by omega, rfl, rfl, Lib.hid rfl⟩
  case round =>
    obtain ⟨i, b, hi, rfl, rfl, heq⟩ := hrel
    by_cases hlt : i < n
    · obtain ⟨bb, of, rfl, hbl, hcells⟩ := hl2.cells (by omega)
      have hcell := hcells i hlt
      have hstep := heq.out
      rw [drop_getD l i (by rw [hlen.out]; exact hlt), homeG] at hstep
      clear hcells heq
      generalize l.getD i 0 = x at *
      by_cases g1 : 0 ≤ x ∧ x ≤ r - 1
      · rw [if_neg (by simpa using g1)] at hstep
        by_cases g2 : x ≤ b
        · rw [if_pos g2] at hstep
          have HS : Hid (firstL r l = (0, 7)) := Lib.hid (by rw [firstL, ← hstep]; rfl)
          clear hstep
          go_wp2_with (go_at_call 68; refine (within_yes _ _ _ _ g1.1 g1.2).mono ?_; rintro e w' ⟨rfl, rfl⟩)
          go_ret2
          exact ⟨ret_ii (by rw [HS.out]) (by rw [HS.out]), by rw [HP.out]; exact hb⟩
        · rw [if_neg g2] at hstep
          have HS := Lib.hid hstep
          clear hstep
          go_wp2_with (go_at_call 68; refine (within_yes _ _ _ _ g1.1 g1.2).mono ?_; rintro e w' ⟨rfl, rfl⟩)
          go_round
          case rel => exact ⟨i + 1, x, by omega, by go_num, rfl, HS⟩
          case measure => simp [intOf]; omega
      · rw [if_pos g1] at hstep
        have HS : Hid (firstL r l = (0, 2)) := Lib.hid (by rw [firstL, ← hstep]; rfl)
        have G := Lib.hid g1
        clear hstep g1
        go_wp2_with (go_at_call 68; refine (within_no _ _ _ _ G.out).mono ?_; rintro e w' ⟨rfl, rfl⟩)
        go_ret2
        exact ⟨ret_ii (by rw [HS.out]) (by rw [HS.out]), by rw [HP.out]; exact hb⟩
    · have hz : homeL r l = 0 := by rw [← heq.out, List.drop_of_length_le (by rw [hlen.out]; omega)]; rfl
      have HS : Hid (firstL r l = tryL (firstP r l)) := Lib.hid (by rw [firstL, if_pos hz])
      have hn := homeG_len r l (-1) (by omega) hz
      rw [hlen.out] at hn
      clear heq hz
      go_wp2_with fail
      refine (try_any 70 _ _ (firstP r l) _ (fun _ _ => by simp [go_sem]) (Lib.hid (fun k wr hk1 hk2 hbr => ?_))).mono ?_
      · refine firstq_any r k _ _ a n c l wr h0 h1 hk1 hk2 (by omega) (hl2.below hbr) ?_ ?_ ?_ ?_
        · rw [hbr.cell (p := ⟨p, 0, none⟩) (by simp; omega)]; exact k1
        · rw [hbr.cell (p := ⟨p + 1, 0, none⟩) (by simp; omega)]; exact k2
        · have := hbr.size; simp; omega
        · have := hbr.size; simp; omega
      · rintro e w3 ⟨rfl, hb3⟩
        have hb4 := hb.trans (hb3.mono (by omega))
        go_wp2
        go_ret2
        exact ⟨ret_ii (by rw [HS.out]) (by rw [HS.out]), by rw [HP.out]; exact hb4⟩
end Go.Proofs.YtpfaoagddgcmbaaDoor
