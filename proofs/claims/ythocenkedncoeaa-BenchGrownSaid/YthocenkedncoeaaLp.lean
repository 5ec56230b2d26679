/- Chapter 06: the walk of BenchGrown. -/
import Derived.Test.YthocenkedncoeaaWj
import Derived.Test.YthocenkedncoeaaPt
import Derived.Test.YthocenkedncoeaaLib2
namespace Go.Proofs.Ythocenkedncoeaa
open Go.RowKit Bench06

set_option maxHeartbeats 4000000 in
set_option maxRecDepth 100000 in
theorem len_any (n : Int) (w : World) (h0 : 1 ≤ n) (h1 : n ≤ 19) :
    Calls Try.prog 43 #[.int .u64 n] w fun e w' => e = .returned (.int .i64 ((Nat.log2 n.toNat : Nat) + 1 : Int)) ∧ w = w' := by
  have : n = 1 ∨ n = 2 ∨ n = 3 ∨ n = 4 ∨ n = 5 ∨ n = 6 ∨ n = 7 ∨ n = 8 ∨ n = 9 ∨ n = 10 ∨ n = 11 ∨ n = 12 ∨ n = 13 ∨ n = 14 ∨ n = 15 ∨ n = 16 ∨ n = 17 ∨ n = 18 ∨ n = 19 := by omega
  clear h0 h1
  rcases this with rfl | rfl | rfl | rfl | rfl | rfl | rfl | rfl | rfl | rfl | rfl | rfl | rfl | rfl | rfl | rfl | rfl | rfl | rfl
  all_goals
    go_enter Try.func43, Try.ntmps43
    go_wp2
    go_ret
    exact ⟨ret_i (by decide +kernel), rfl⟩

set_option maxHeartbeats 8000000 in
set_option maxRecDepth 100000 in
theorem BenchGrown_any (a0 a1 : Int) (h0 : (Lit.int .u8 a0).wf = true) (h1 : (Lit.int .u32 a1).wf = true) (w : World) :
    Calls Try.prog 12 #[.int .u8 a0, .int .u32 a1] w fun e w' => e = .returned (.bool true) ∧ Below w.heap.size w w' := by
  have b0 : 0 ≤ a0 ∧ a0 ≤ 255 := by simp [Lit.wf, IntKind.min, IntKind.max, IntKind.signed, IntKind.bits] at h0; omega
  have b1 : 0 ≤ a1 ∧ a1 ≤ 4294967295 := by simp [Lit.wf, IntKind.min, IntKind.max, IntKind.signed, IntKind.bits] at h1; omega
  obtain ⟨b00, b01⟩ := b0
  obtain ⟨b10, b11⟩ := b1
  clear h0 h1
  obtain ⟨n, hn⟩ : ∃ n : Nat, 1 + a0 % 19 = (n : Int) := ⟨(1 + a0 % 19).toNat, by omega⟩
  obtain ⟨k, hk⟩ : ∃ k : Nat, 1 + a1 % 1000000000 = (k : Int) := ⟨(1 + a1 % 1000000000).toNat, by omega⟩
  have n0 : 1 ≤ n := by omega
  have n1 : n ≤ 19 := by omega
  have k0 : 1 ≤ k := by omega
  have k1 : k ≤ 1000000000 := by omega
  obtain ⟨hl2, hs4⟩ := last_two n n0 n1
  have hone := Lib.hid (ordL_one n n1)
  have hlb := lastTo_bd k (n - 1)
  have hlast : lastTo k n = (lastTo k (n - 1) + (k : Int) % ((n : Int) + 1)) % ((n : Int) + 1) := by
    obtain ⟨m, rfl⟩ : ∃ m, n = m + 1 := ⟨n - 1, by omega⟩
    rw [lastTo, Nat.add_sub_cancel, Int.add_emod_emod]
    congr 1
  obtain ⟨lb0, lb1⟩ := hlb
  have e0 := Int.emod_nonneg (k : Int) (show (n : Int) + 1 ≠ 0 by omega)
  have e1 := Int.emod_lt_of_pos (k : Int) (show (0 : Int) < (n : Int) + 1 by omega)
  generalize hz : lastTo k (n - 1) = z at *
  have HZ := Lib.hid hz
  have HLast := Lib.hid hlast
  have f0 := Int.emod_nonneg (z + (k : Int) % ((n : Int) + 1)) (show (n : Int) + 1 ≠ 0 by omega)
  have f1 := Int.emod_lt_of_pos (z + (k : Int) % ((n : Int) + 1)) (show (0 : Int) < (n : Int) + 1 by omega)
  clear hlast hz
  have hd1 : decide (z < 0) = false := by simp; omega
  have hd2 : decide ((n : Int) ≤ z) = false := by simp; omega
  have hnz : ((n : Int) + 1 == 0) = false := by simp; omega
  have hbe1 : ((z + (k : Int) % ((n : Int) + 1)) % ((n : Int) + 1) != (z + (k : Int) % ((n : Int) + 1)) % ((n : Int) + 1)) = false := by simp
  have h2n : ((n : Int)).toNat = n := by omega
  have h2k : ((k : Int)).toNat = k := by omega
  have h2n1 : ((n : Int) + 1).toNat - 1 = n := by omega
  have H2 := Lib.hid (And.intro h2n h2n1)
  clear h2n h2k h2n1
  generalize hs : Nat.log2 n = s at *
  have HS := Lib.hid hs
  clear hs
  have hcases : s = 0 ∨ s = 1 ∨ s = 2 ∨ s = 3 ∨ s = 4 := by omega
  clear hs4
  rcases hcases with rfl | rfl | rfl | rfl | rfl
  all_goals
    simp only [Int.reducePow] at hl2
    have HL2 := Lib.hid hl2
    clear hl2
    go_enter Try.func12, Try.ntmps12
    go_wp2_with fail
    refine (Last_ok _ _ _ (by omega) (by omega) (by omega) (by omega)).mono ?_
    rintro e w' ⟨rfl, rfl⟩
    rw [H2.out.1, HZ.out]
    go_wp2_with fail
    refine (Last_ok _ _ _ (by omega) (by omega) (by omega) (by omega)).mono ?_
    rintro e w' ⟨rfl, rfl⟩
    rw [H2.out.2, HLast.out]
    go_wp2_with fail
    refine (Last_ok _ _ _ (by omega) (by omega) (by omega) (by omega)).mono ?_
    rintro e w' ⟨rfl, rfl⟩
    rw [H2.out.1, HL2.out]
    go_wp2_with fail
    refine (Order_ok _ _ _ (by omega) (by omega) (by omega) (by omega)).mono ?_
    rintro e w2 ⟨ao, co, rfl, oo, b2⟩
    have lo := oo.isL
    rw [H2.out.1, show (1 : Int).toNat = 1 from rfl, hone.out] at lo
    rw [H2.out.1]
    clear oo
    go_wp2_with (go_at_call 43; refine (len_any _ _ (by omega) (by omega)).mono ?_; rintro e w' ⟨rfl, rfl⟩; rw [H2.out.1, HS.out])
    have hlle := lo.le
    have hlcap := lo.cap
    go_loop [104] (fun vi => ∃ i : Nat, i ≤ n ∧ vi = .int .i64 i) (fun vi => n - (intOf vi).toNat)
    case atStart => exact ⟨0, by omega, rfl⟩
    case round =>
      obtain ⟨j, hj, rfl⟩ := hrel
      by_cases hjn : j < n
      · obtain ⟨br, fr, har, hbr, hcr⟩ := lo.cells (by omega)
        subst har
        have cr1 := hcr j hjn
        rw [getD_rng n j hjn] at cr1
        have hbe : ((j : Int) != (j : Int)) = false := by simp
        clear hcr
        go_wp2
        go_round
        case rel => exact ⟨j + 1, by omega, by go_num⟩
        case measure => simp [intOf]; omega
      · go_wp2_with (go_at_call 22; refine (works_any _).mono ?_; rintro e w10 ⟨rfl, b10⟩)
        go_ret
        exact ⟨rfl, chain b2 b10⟩
end Go.Proofs.Ythocenkedncoeaa
