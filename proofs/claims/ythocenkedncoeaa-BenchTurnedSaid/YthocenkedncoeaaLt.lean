/- Chapter 06: the walk of BenchTurned. -/
import Derived.Test.YthocenkedncoeaaWj
import Derived.Test.YthocenkedncoeaaPt
import Derived.Test.YthocenkedncoeaaLib2
namespace Go.Proofs.Ythocenkedncoeaa
open Go.RowKit Bench06

set_option maxHeartbeats 4000000 in
set_option maxRecDepth 100000 in
theorem BenchTurned_any (a0 a1 : Int) (h0 : (Lit.int .u8 a0).wf = true) (h1 : (Lit.int .u32 a1).wf = true) (w : World) :
    Calls Try.prog 9 #[.int .u8 a0, .int .u32 a1] w fun e w' => e = .returned (.bool true) ∧ Below w.heap.size w w' := by
  have b0 : 0 ≤ a0 ∧ a0 ≤ 255 := by simp [Lit.wf, IntKind.min, IntKind.max, IntKind.signed, IntKind.bits] at h0; omega
  have b1 : 0 ≤ a1 ∧ a1 ≤ 4294967295 := by simp [Lit.wf, IntKind.min, IntKind.max, IntKind.signed, IntKind.bits] at h1; omega
  obtain ⟨b00, b01⟩ := b0
  obtain ⟨b10, b11⟩ := b1
  clear h0 h1
  obtain ⟨n, hn⟩ : ∃ n : Nat, 1 + a0 % 20 = (n : Int) := ⟨(1 + a0 % 20).toNat, by omega⟩
  have n0 : 1 ≤ n := by omega
  have n1 : n ≤ 20 := by omega
  obtain ⟨L0, L1⟩ := lcmTo_le n n1
  obtain ⟨L, hL⟩ : ∃ L, lcmTo n = L := ⟨_, rfl⟩
  have hturn := fun k h1 h2 => ordL_turned n k h1 h2
  have hper := fun k h => ordL_period n k 3 h
  have hcnt := fun k h1 h2 => countL_ord n k h1 h2
  rw [hL] at L0 L1 hturn hper hcnt
  obtain ⟨k, hk⟩ : ∃ k : Nat, 1 + a1 % (L : Int) = (k : Int) := ⟨(1 + a1 % (L : Int)).toNat, by have := Int.emod_nonneg a1 (show (L : Int) ≠ 0 by omega); omega⟩
  have k0 : 1 ≤ k := by have := Int.emod_nonneg a1 (show (L : Int) ≠ 0 by omega); omega
  have k1 : k ≤ L := by have := Int.emod_lt_of_pos a1 (show (0 : Int) < (L : Int) by omega); omega
  have T := Lib.hid (hturn k k0 k1)
  have HPer := Lib.hid (hper k k0)
  have HCnt := Lib.hid (hcnt k k0 k1)
  have HLcm := Lib.hid hL
  have HChk := Lib.hid (checkL_ord n k n0 n1)
  have HRem := Lib.hid (remL_ord n k k0)
  have HLen := Lib.hid (ordL_length n k)
  have hLn : ((L : Int) == 0) = false := by simp; omega
  have hm0 : 0 ≤ a1 % (L : Int) := by omega
  have hm1 : a1 % (L : Int) < (L : Int) := by omega
  have hdL1 : decide ((L : Int) < 1) = false := by simp; omega
  have hdL2 : decide (232792560 < (L : Int)) = false := by simp; omega
  clear hturn hper hcnt hL
  go_enter Try.func9, Try.ntmps9
  go_wp2_with fail
  refine (Orders_ok _ _ (by omega) (by omega)).mono ?_
  rintro e w1 ⟨rfl, b1⟩
  rw [Int.toNat_natCast, HLcm.out]
  go_wp2_with fail
  refine (Order_ok _ _ _ (by omega) (by omega) (by omega) (by omega)).mono ?_
  rintro e w2 ⟨al, cl, rfl, ol, b2⟩
  rw [Int.toNat_natCast, Int.toNat_natCast] at ol
  rw [Int.toNat_natCast]
  have ll := ol.isL
  have k2 := chain b1 b2
  clear ol b1 b2
  have hkt : ((L : Int) + 1 - (k : Int)).toNat = L + 1 - k := by omega
  have HKT := Lib.hid hkt
  clear hkt
  go_wp2_with fail
  refine (Order_ok _ _ _ (by omega) (by omega) (by omega) (by omega)).mono ?_
  rintro e w3 ⟨am, cm, rfl, om, b3⟩
  rw [Int.toNat_natCast, HKT.out] at om
  rw [Int.toNat_natCast]
  have lm := om.isL
  have ll3 := ll.below b3
  have k3 := chain k2 b3
  clear om ll k2 b3
  generalize hOl : ordL n k = xl at *
  generalize hOm : ordL n (L + 1 - k) = xm at *
  have HOl := Lib.hid hOl
  clear hOl hOm
  have hlle := ll3.le
  have hlcap := ll3.cap
  have hmle := lm.le
  have hmcap := lm.cap
  go_wp2
  go_loopw [78] (fun vi wr => ∃ i : Nat, i ≤ n ∧ vi = .int .i64 i ∧ IsL wr al n cl xl ∧ Below w.heap.size w wr ∧ IsL wr am n cm xm) (fun vi _ => n - (intOf vi).toNat)
  case atStart => exact ⟨0, by omega, rfl, ll3, k3, lm⟩
  case round =>
    obtain ⟨i, hi, rfl, hl4, k4, hm4⟩ := hrel
    by_cases hin : i < n
    · obtain ⟨bl, fl, hal, hbl, hcl⟩ := hl4.cells (by omega)
      obtain ⟨bm, fm, ham, hbm, hcm⟩ := hm4.cells (by omega)
      subst hal ham
      have cl1 := hcl i hin
      have cm1 := hcm i hin
      have ht := T.out i hin
      have hmem : 0 ≤ xl.getD i 0 ∧ xl.getD i 0 < n := by
        have h := ordL_mem n k (xl.getD i 0) (by rw [HOl.out]; have := hl4.len; simp [List.getD, show i < xl.length by omega])
        exact (mem_rng _ _).1 h
      clear hcl hcm
      generalize xl.getD i 0 = x at *
      generalize xm.getD i 0 = y at *
      subst ht
      have q1 : (i : Int) < (n : Int) := by omega
      obtain ⟨m1, m2⟩ := hmem
      have hwa : IntKind.i64.wrap ((n : Int) - 1) = (n : Int) - 1 := IntWalk.i64_in _ (by omega)
      have hwb : IntKind.i64.wrap ((n : Int) - 1 - x) = (n : Int) - 1 - x := IntWalk.i64_in _ (by omega)
      have hbe : ((n : Int) - 1 - x != (n : Int) - 1 - x) = false := by simp
      go_wp2
      go_quiet (fail)
      go_wp2
      go_roundw
      case rel => exact ⟨i + 1, by omega, by go_num, hl4.drewN _, belowN k4 _, hm4.drewN _⟩
      case measure => simp [intOf]; omega
    · clear hm4 lm T
      have hle' : (n : Int) ≤ (i : Int) := by omega
      go_wp2_with fail
      refine (Count_ok _ _ _ _ _ hl4 HChk.out).mono ?_
      rintro e w5 ⟨rfl, b5⟩
      rw [HCnt.out]
      have k5 := chain k4 b5
      have l5 := hl4.below b5
      clear k4 b5 hl4 k3 ll3
      go_wp2_with fail
      refine (Remainders_ok _ _ _ _ _ l5 HChk.out).mono ?_
      rintro e w6 ⟨ar, cr, rfl, or6, b6⟩
      have r6 := or6.isL
      have k6 := chain k5 b6
      have l6 := l5.below b6
      clear k5 b6 l5 or6
      go_wp2_with (go_at_call 31; refine (Check_any _ _ _ _ _ l6).mono ?_; rintro e w' ⟨rfl, rfl⟩; rw [HChk.out])
      have hrle := r6.le
      have hrcap := r6.cap
      go_loop [128] (fun vi => ∃ i : Nat, i ≤ n ∧ vi = .int .i64 i) (fun vi => n - (intOf vi).toNat)
      case atStart => exact ⟨0, by omega, rfl⟩
      case round =>
        obtain ⟨j, hj, rfl⟩ := hrel
        by_cases hjn : j < n
        · obtain ⟨br, fr, har, hbr, hcr⟩ := r6.cells (by omega)
          subst har
          have cr1 := hcr j hjn
          have hv : (remL xl).getD j 0 = (k : Int) % ((n : Int) - (j : Int)) := by
            have := HRem.out j hjn
            rw [this, Int.natCast_emod]; congr 1; omega
          have HV := Lib.hid hv
          have e0 := Int.emod_nonneg (k : Int) (show (n : Int) - (j : Int) ≠ 0 by omega)
          have e1 := Int.emod_lt_of_pos (k : Int) (show (0 : Int) < (n : Int) - (j : Int) by omega)
          have hnz : ((n : Int) - (j : Int) == 0) = false := by simp; omega
          rw [HV.out] at cr1
          have hbe : ((k : Int) % ((n : Int) - (j : Int)) != (k : Int) % ((n : Int) - (j : Int))) = false := by simp
          clear hcr hv
          go_wp2
          go_round
          case rel => exact ⟨j + 1, by omega, by go_num⟩
          case measure => simp [intOf]; omega
        · have hkt3 : ((k : Int) + 3 * (L : Int)).toNat = k + 3 * L := by omega
          have HK3 := Lib.hid hkt3
          clear hkt3
          go_wp2_with fail
          refine (Order_ok _ _ _ (by omega) (by omega) (by omega) (by omega)).mono ?_
          rintro e w8 ⟨ao, co, rfl, oo, b8⟩
          rw [Int.toNat_natCast, HK3.out, HPer.out] at oo
          rw [Int.toNat_natCast]
          have lo := oo.isL
          have l8 := l6.below b8
          have k8 := chain k6 b8
          clear k6 b8 l6 oo r6
          go_wp2_with fail
          refine (same_yes _ _ _ _ _ _ _ _ _ lo l8 rfl).mono ?_
          rintro e w9 ⟨rfl, b9⟩
          have k9 := chain k8 b9
          go_wp2_with fail
          refine (works_any _).mono ?_
          rintro e w10 ⟨rfl, b10⟩
          have k10 := chain k9 b10
          clear k8 k9 b9 b10
          go_wp2
          go_ret
          exact ⟨rfl, k10⟩
end Go.Proofs.Ythocenkedncoeaa
