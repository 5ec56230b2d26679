/- Chapter 06: the walk of BenchSeated. -/
import Derived.Test.YthocenkedncoeaaWj
import Derived.Test.YthocenkedncoeaaWl
import Derived.Test.YthocenkedncoeaaLib2
namespace Go.Proofs.Ythocenkedncoeaa
open Go.RowKit Bench06

theorem who_at (n k p : Nat) (w : World) (n0 : 1 ≤ n) (n1 : n ≤ 20) (k0 : 1 ≤ k) (k1 : k ≤ 1000) (hp : p < n) :
    Calls Try.prog 20 #[.int .i64 n, .int .i64 k, .int .i64 p] w fun e w' => e = .returned (.tuple #[.int .i64 ((ordL n k).getD p 0), .int .i64 0]) ∧ w = w' :=
  (Who_ok n k p w (by omega) (by omega) (by omega) (by omega) (by omega) (by omega)).mono fun e w' ⟨he, hw⟩ => ⟨he.trans (ret_i2 (by rw [Int.toNat_natCast, Int.toNat_natCast, who_eq n k p k0 hp])), hw⟩
theorem when_at (n k p : Nat) (x : Int) (w : World) (n0 : 1 ≤ n) (n1 : n ≤ 20) (k0 : 1 ≤ k) (k1 : k ≤ 1000) (hp : p < n) (hx : (ordL n k).getD p 0 = x) (h0 : 0 ≤ x) (h1 : x < n) :
    Calls Try.prog 18 #[.int .i64 n, .int .i64 k, .int .i64 x] w fun e w' => e = .returned (.tuple #[.int .i64 p, .int .i64 0]) ∧ w = w' :=
  (When_ok n k x w (by omega) (by omega) (by omega) (by omega) h0 (by omega)).mono fun e w' ⟨he, hw⟩ => ⟨he.trans (ret_i2 (by
    obtain ⟨m, rfl⟩ := Int.eq_ofNat_of_zero_le h0
    rw [Int.toNat_natCast, when_eq n k m k0 (by omega), ← hx, idxI_own _ (ordL_nodup n k) p (by rw [ordL_length]; exact hp)])), hw⟩
theorem counted_at (n k : Nat) (x : Int) (w : World) (n0 : 1 ≤ n) (n1 : n ≤ 20) (k0 : 1 ≤ k) (k1 : k ≤ 1000) (h0 : 0 ≤ x) (h1 : x < n) :
    Calls Try.prog 23 #[.int .i64 n, .int .i64 k, .int .i64 x] w fun e w' => e = .returned (.tuple #[.int .i64 (cntG k n (rng n) x), .int .i64 0]) ∧ w = w' :=
  (Counted_ok n k x w (by omega) (by omega) (by omega) (by omega) h0 (by omega)).mono fun e w' ⟨he, hw⟩ => ⟨he.trans (ret_i2 (by
    obtain ⟨m, rfl⟩ := Int.eq_ofNat_of_zero_le h0
    rw [Int.toNat_natCast, counted_eq n m k (by omega) (by omega)])), hw⟩
theorem last_at (n k : Nat) (w : World) (n0 : 1 ≤ n) (n1 : n ≤ 20) (k0 : 1 ≤ k) (k1 : k ≤ 1000) :
    Calls Try.prog 15 #[.int .i64 n, .int .i64 k] w fun e w' => e = .returned (.tuple #[.int .i64 ((ordL n k).getD (n - 1) 0), .int .i64 0]) ∧ w = w' :=
  (Last_ok n k w (by omega) (by omega) (by omega) (by omega)).mono fun e w' ⟨he, hw⟩ => ⟨he.trans (ret_i2 (by rw [Int.toNat_natCast, last_eq n k k0 n0])), hw⟩
theorem sumI_take (f : Int → Int) (l : List Int) (i : Nat) (h : i < l.length) : sumI f (l.take (i + 1)) = sumI f (l.take i) + f (l.getD i 0) := by
  rw [take_succ_getD l i h, sumI_append]; simp [sumI]

set_option maxHeartbeats 4000000 in
set_option maxRecDepth 100000 in
theorem BenchSeated_any (a0 a1 : Int) (h0 : (Lit.int .u8 a0).wf = true) (h1 : (Lit.int .u8 a1).wf = true) (w : World) :
    Calls Try.prog 8 #[.int .u8 a0, .int .u8 a1] w fun e w' => e = .returned (.bool true) ∧ Below w.heap.size w w' := by
  have b0 : 0 ≤ a0 ∧ a0 ≤ 255 := by simp [Lit.wf, IntKind.min, IntKind.max, IntKind.signed, IntKind.bits] at h0; omega
  have b1 : 0 ≤ a1 ∧ a1 ≤ 255 := by simp [Lit.wf, IntKind.min, IntKind.max, IntKind.signed, IntKind.bits] at h1; omega
  obtain ⟨b00, b01⟩ := b0
  obtain ⟨b10, b11⟩ := b1
  clear h0 h1
  obtain ⟨n, hn⟩ : ∃ n : Nat, 1 + a0 % 20 = (n : Int) := ⟨(1 + a0 % 20).toNat, by omega⟩
  have n0 : 1 ≤ n := by omega
  have n1 : n ≤ 20 := by omega
  obtain ⟨k, hk⟩ : ∃ k : Nat, 1 + a1 = (k : Int) := ⟨(1 + a1).toNat, by omega⟩
  have k0 : 1 ≤ k := by omega
  have k1 : k ≤ 256 := by omega
  go_enter Try.func8, Try.ntmps8
  go_wp2_with fail
  refine (counts_any n k _ n0 n1 k0 (by omega)).mono ?_
  rintro e w1 ⟨ao, co, at_, T, rfl, lo1, lt1, hT, bw1⟩
  have HT := Lib.hid hT
  clear hT hn hk
  go_wp2_with fail
  refine (Order_ok _ _ _ (by omega) (by omega) (by omega) (by omega)).mono ?_
  rintro e w2 ⟨al, cl, rfl, ol, b2⟩
  rw [Int.toNat_natCast, Int.toNat_natCast] at ol
  rw [Int.toNat_natCast]
  have ll := ol.isL
  have lo2 := lo1.below b2
  have lt2 := lt1.below b2
  have k2 := chain bw1 b2
  clear ol bw1 b2 lo1 lt1
  go_wp2_with fail
  refine (last_at n k _ n0 n1 k0 (by omega)).mono ?_
  rintro e w3 ⟨rfl, rfl⟩
  obtain ⟨xl, hxl⟩ : ∃ xl, ordL n k = xl := ⟨_, rfl⟩
  have hz : ∀ i, i < n → 0 ≤ xl.getD i 0 ∧ xl.getD i 0 < n := fun i hi => by
    rw [← hxl]
    have hm : (ordL n k).getD i 0 ∈ ordL n k := by
      have : i < (ordL n k).length := by rw [ordL_length]; exact hi
      simp [List.getD, this]
    exact (mem_rng n _).1 (ordL_mem n k _ hm)
  have hxlen : xl.length = n := by rw [← hxl]; exact ordL_length n k
  have hsum := sum_ord n k k0
  have hfair := fun i p (hip : i < p) (hp : p < n) => fair n k i p k0 hip hp
  rw [hxl] at ll lo2 hsum ⊢
  simp only [hxl] at hfair
  obtain ⟨zl, hzl⟩ : ∃ z, xl.getD (n - 1) 0 = z := ⟨_, rfl⟩
  rw [hzl]
  have HZL := Lib.hid hzl
  clear hzl
  have HXl := Lib.hid hxl
  have HZ := Lib.hid hz
  have HS := Lib.hid hsum
  have HF := Lib.hid hfair
  clear hxl hz hsum hfair
  go_wp2_with fail
  refine (same_yes _ _ _ _ _ _ _ _ _ ll lo2 rfl).mono ?_
  rintro e w4 ⟨rfl, b4⟩
  have lo4 := lo2.below b4
  have lt4 := lt2.below b4
  have k4 := chain k2 b4
  clear lo2 lt2 ll k2 b4
  obtain ⟨bo, oo, rfl, hbo, hco⟩ := lo4.cells (by omega)
  obtain ⟨bt, ot, rfl, hbt, hct⟩ := lt4.cells (by omega)
  have hcle := lo4.le
  have hccap := lo4.cap
  have hcz := hco (n - 1) (by omega)
  have HCO := Lib.hid hco
  have HCT := Lib.hid hct
  clear hco hct
  rw [HZL.out] at hcz
  go_wp2
  go_loop [13, 72] (fun vs vi => ∃ (i : Nat) (s : Int), i ≤ n ∧ vi = .int .i64 i ∧ vs = .int .i64 s ∧ Hid (s = sumI (cntG k n (rng n)) (xl.take i)) ∧ 0 ≤ s ∧ s ≤ (i : Int) * 6000) (fun _ vi => n - (intOf vi).toNat)
  case atStart => exact ⟨0, 0, by omega, rfl, rfl, Lib.hid (by simp [sumI]), by omega, by omega⟩
  case round =>
    obtain ⟨i, s, hi, rfl, rfl, hs, hs0, hs1⟩ := hrel
    by_cases hin : i < n
    · have hci := HCO.out i hin
      obtain ⟨hx0, hx1⟩ := HZ.out i hin
      obtain ⟨x, hx⟩ := Int.eq_ofNat_of_zero_le hx0
      have hxo := HXl.out
      have hord : (ordL n k).getD i 0 = (x : Int) := by rw [hxo]; exact hx
      rw [hx] at hci hx0 hx1
      have hxn : x < n := by omega
      have hcx := HCT.out x hxn
      have hTx := HT.out x hxn
      rw [hTx] at hcx
      have hc0 := cntG_nonneg k k0 n (rng n) x
      have hc1 := cntG_le k k0 n (rng n) x
      have hc2 : (n : Int) * ((k : Int) + 1) ≤ 20 * 257 := Int.mul_le_mul (by omega) (by omega) (by omega) (by omega)
      have hs2 : s + cntG k n (rng n) x = sumI (cntG k n (rng n)) (xl.take (i + 1)) := by rw [sumI_take _ _ _ (by rw [hxlen]; exact hin), hx, hs.out]
      have hfi := fun j (hj : j < i) => HF.out j i hj hin
      rw [hx] at hfi
      have hWho := fun w => who_at n k i w n0 n1 k0 (by omega) hin
      rw [hord] at hWho
      have hWhen := fun w => when_at n k i x w n0 n1 k0 (by omega) hin hord hx0 hx1
      have hCnt := fun w => counted_at n k x w n0 n1 k0 (by omega) hx0 hx1
      obtain ⟨c, hc⟩ : ∃ c, cntG k n (rng n) x = c := ⟨_, rfl⟩
      rw [hc] at hcx hc0 hc1 hs2 hfi hCnt
      have HW := Lib.hid hWho
      have HWn := Lib.hid hWhen
      have HCn := Lib.hid hCnt
      have HFi := Lib.hid hfi
      have HS2 := Lib.hid hs2
      have hc5 : c ≤ 5140 := by omega
      clear hWho hWhen hCnt hfi hs2 hord hxo hTx hc hx hc1 hc2 hs
      go_wp2_with (first
        | (go_at_call 20; refine (HW.out _).mono ?_; rintro e w' ⟨rfl, rfl⟩)
        | (go_at_call 18; refine (HWn.out _).mono ?_; rintro e w' ⟨rfl, rfl⟩)
        | (go_at_call 23; refine (HCn.out _).mono ?_; rintro e w' ⟨rfl, rfl⟩))
      go_loop [133] (fun vj => ∃ j : Nat, j ≤ i ∧ vj = .int .i64 j) (fun vj => i - (intOf vj).toNat)
      case atStart => exact ⟨0, by omega, rfl⟩
      case round =>
        obtain ⟨j, hj, rfl⟩ := hrel
        by_cases hji : j < i
        · have hcj := HCO.out j (by omega)
          obtain ⟨ho0, ho1⟩ := HZ.out j (by omega)
          have hfj := HFi.out j hji
          obtain ⟨o, ho⟩ := Int.eq_ofNat_of_zero_le ho0
          rw [ho] at hcj ho0 ho1 hfj
          have hco2 := HCT.out o (by omega)
          rw [HT.out o (by omega)] at hco2
          have hd0 := cntG_nonneg k k0 n (rng n) o
          generalize cntG k n (rng n) o = t at *
          have htd : decide (c + 1 < t) = false := by simp; omega
          clear ho
          go_wp2
          go_round
          case rel => exact ⟨j + 1, by omega, by go_num⟩
          case measure => simp [intOf]; omega
        · go_wp2
          go_round
          case rel => exact ⟨i + 1, s + c, by omega, by go_num, rfl, HS2, by omega, by omega⟩
          case measure => simp [intOf]; omega
    · obtain rfl : i = n := by omega
      have hS := HS.out
      have hsv := hs.out
      rw [List.take_of_length_le (by omega), hS] at hsv
      have hmul : (i : Int) * (k : Int) ≤ 20 * 256 := Int.mul_le_mul (by omega) (by omega) (by omega) (by omega)
      have hmul0 : 0 ≤ (i : Int) * (k : Int) := Int.mul_nonneg (by omega) (by omega)
      have hsq : (s == (i : Int) * (k : Int)) = true := by rw [hsv]; simp
      clear hS hsv hs
      go_wp2_with fail
      refine (works_any _).mono ?_
      rintro e w9 ⟨rfl, b9⟩
      have k9 := chain k4 b9
      go_wp2
      go_ret
      exact ⟨rfl, k9⟩
end Go.Proofs.Ythocenkedncoeaa
