/- Law of chapter 11: StoreRows. -/
import Derived.Test.YtjedmiegcbdedaaWv
import Derived.Test.YtjedmiegcbdedaaPb
namespace Go.Proofs.Ytjedmiegcbdedaa
open Go.RowKit Store11

set_option maxHeartbeats 1000000 in
set_option maxRecDepth 100000 in
theorem into1_any (n k : Int) (w : World) (hn : 1 ≤ n ∧ n ≤ 9) (hk : 0 ≤ k ∧ k ≤ 100) : Calls Try.prog 43 #[.int .i64 n, .int .i64 k] w fun e w' => e = .returned (.int .i64 (intoV n k)) ∧ Below w.heap.size w w' := by
  by_cases h1 : 1 ≤ k ∧ k ≤ n
  · have HE : Hid (intoE n k = 0) := Lib.hid (by rw [intoE, if_pos ⟨hn, h1⟩])
    have d1 : decide (k < 1) = false := by simp; omega
    have d2 : decide (n < k) = false := by simp; omega
    go_enter Try.func43, Try.ntmps43
    go_wp2_with (go_at_call 25; refine (Into_any _ _ _).mono ?_; rintro e w1 ⟨rfl, hb⟩)
    go_ret
    exact ⟨rfl, hb⟩
  · have HE : Hid (intoE n k = 1) := Lib.hid (by rw [intoE, if_neg (fun h => h1 h.2)])
    have HV : Hid (intoV n k = 0) := Lib.hid (by rw [intoV, if_neg (fun h => h1 h.2)])
    by_cases h2 : k < 1
    · have d1 : decide (k < 1) = true := by simpa using h2
      clear h1
      go_enter Try.func43, Try.ntmps43
      go_wp2_with (go_at_call 25; refine (Into_any _ _ _).mono ?_; rintro e w1 ⟨rfl, hb⟩; rw [HE.out, HV.out])
      go_ret
      exact ⟨ret_i HV.out.symm, hb⟩
    · have d1 : decide (k < 1) = false := by simp; omega
      have d2 : decide (n < k) = true := by simp; omega
      clear h1
      go_enter Try.func43, Try.ntmps43
      go_wp2_with (go_at_call 25; refine (Into_any _ _ _).mono ?_; rintro e w1 ⟨rfl, hb⟩; rw [HE.out, HV.out])
      go_ret
      exact ⟨ret_i HV.out.symm, hb⟩

theorem into1_c (n k v : Int) (w : World) (hv : intoV n k = v) (hn : 1 ≤ n ∧ n ≤ 9) (hk : 0 ≤ k ∧ k ≤ 100) : Calls Try.prog 43 #[.int .i64 n, .int .i64 k] w fun e w' => e = .returned (.int .i64 v) ∧ Below w.heap.size w w' := by
  subst hv; exact into1_any n k w hn hk

set_option maxHeartbeats 4000000 in
set_option maxRecDepth 100000 in
theorem StoreRows_u (b m : Int) (w : World) (hb : 0 ≤ b ∧ b ≤ 255) (hm : 0 ≤ m ∧ m ≤ 255) : Calls Try.prog 6 #[.int .u8 b, .int .u8 m] w fun e w' => e = .returned (.bool true) ∧ Below w.heap.size w w' := by
  obtain ⟨n, hn, hn8⟩ : ∃ n : Nat, 2 + b % 8 = (n : Int) + 2 ∧ n < 8 := ⟨(b % 8).toNat, by omega, by omega⟩
  obtain ⟨k, hk, hkn⟩ : ∃ k : Nat, 1 + m % ((n : Int) + 2) = (k : Int) + 1 ∧ k < n + 2 := by
    have h1 := Int.emod_nonneg m (show (n : Int) + 2 ≠ 0 by omega)
    have h2 := Int.emod_lt_of_pos m (show 0 < (n : Int) + 2 by omega)
    exact ⟨(m % ((n : Int) + 2)).toNat, by omega, by omega⟩
  obtain ⟨V1, h1⟩ : ∃ V, intoV ((n : Int) + 2 - 1) (k : Int) = V := ⟨_, rfl⟩
  obtain ⟨V2, h2⟩ : ∃ V, intoV ((n : Int) + 2 - 1) ((k : Int) + 1) = V := ⟨_, rfl⟩
  obtain ⟨p, hp⟩ : ∃ p, ((k : Int) + 1) * V2 = p := ⟨_, rfl⟩
  have e9 : (n : Int) + 2 - 1 = (n : Int) + 1 := by omega
  have h0 : intoV ((n : Int) + 2) ((k : Int) + 1) = V1 + p := by
    rw [into_step n hn8 k hkn, ← hp, ← h1, ← h2, e9]
  have s1 := into_small (n + 1) (by omega) k (by omega)
  have s0 := into_small (n + 2) (by omega) (k + 1) (by omega)
  have s2 := into_small (n + 1) (by omega) (k + 1) (by omega)
  rw [show ((n + 1 : Nat) : Int) = (n : Int) + 2 - 1 by omega] at s1 s2
  rw [show ((n + 2 : Nat) : Int) = (n : Int) + 2 by omega] at s0
  rw [show ((k + 1 : Nat) : Int) = (k : Int) + 1 by omega] at s0 s2
  rw [h1] at s1
  rw [h2] at s2
  rw [h0] at s0
  have hp0 : 0 ≤ p := by rw [← hp]; exact Int.mul_nonneg (by omega) s2.1
  have hne : ((V1 + p) != (V1 + p)) = false := by simp
  have H0 := Lib.hid h0
  have H1 := Lib.hid h1
  have H2 := Lib.hid h2
  have hz : ((n : Int) + 2 == 0) = false := by simp; omega
  have HC : Hid (countV ((n : Int) + 2) = sumI (n + 2) (n + 2)) := Lib.hid (sumI_count n hn8)
  have HCE : Hid (countE ((n : Int) + 2) = 0) := Lib.hid (by rw [countE, if_pos (by omega)])
  clear h0 h1 h2 e9
  have k0 := Below.refl w.heap.size w
  go_enter Try.func6, Try.ntmps6
  go_wp2_with fail
  refine (into1_c ((n : Int) + 2) ((k : Int) + 1) _ _ H0.out (by omega) (by omega)).mono ?_
  rintro e w1 ⟨rfl, b1⟩
  have k1 := k0.trans (b1.mono k0.size)
  go_wp2_with fail
  refine (into1_c ((n : Int) + 2 - 1) (k : Int) _ _ H1.out (by omega) (by omega)).mono ?_
  rintro e w2 ⟨rfl, b2⟩
  have k2 := k1.trans (b2.mono k1.size)
  go_wp2_with fail
  refine (into1_c ((n : Int) + 2 - 1) ((k : Int) + 1) _ _ H2.out (by omega) (by omega)).mono ?_
  rintro e w3 ⟨rfl, b3⟩
  have k3 := k2.trans (b3.mono k2.size)
  clear k0 b1 b2 b3 k1 k2
  go_wp2_with fail
  go_loopw [8, 9] (fun vs vi wr => ∃ i : Nat, i ≤ n + 2 ∧ vi = .int .i64 ((i : Int) + 1) ∧ vs = .int .i64 (sumI (n + 2) i) ∧ Below w.heap.size w wr) (fun _ vi _ => 20 - (intOf vi).toNat)
  case atStart => exact ⟨0, by omega, rfl, rfl, k3⟩
  case round =>
    clear k3
    obtain ⟨i, hi, rfl, rfl, hb1⟩ := hrel
    have hs := sumI_small (n + 2) (by omega) i (by omega)
    by_cases hlt : i < n + 2
    · have hst : sumI (n + 2) (i + 1) = sumI (n + 2) i + intoV ((n : Int) + 2) ((i : Int) + 1) := rfl
      have hv := into_small (n + 2) (by omega) (i + 1) (by omega)
      rw [show ((n + 2 : Nat) : Int) = (n : Int) + 2 by omega, show ((i + 1 : Nat) : Int) = (i : Int) + 1 by omega] at hv
      obtain ⟨V, hV⟩ : ∃ V, intoV ((n : Int) + 2) ((i : Int) + 1) = V := ⟨_, rfl⟩
      rw [hV] at hst hv
      have HV := Lib.hid hV
      have HST := Lib.hid hst
      clear hV hst
      generalize sumI (n + 2) i = S at *
      go_wp2_with fail
      refine (into1_c ((n : Int) + 2) ((i : Int) + 1) _ _ HV.out (by omega) (by omega)).mono ?_
      rintro e w4 ⟨rfl, b4⟩
      have k4 := hb1.trans (b4.mono hb1.size)
      go_wp2
      go_roundw
      case rel => exact ⟨i + 1, by omega, by go_num, by rw [HST.out], k4⟩
      case measure => simp [intOf]; omega
    · obtain rfl : i = n + 2 := by omega
      have hc0 : sumI (n + 2) (n + 2) = countV ((n : Int) + 2) := HC.out.symm
      rw [hc0] at hs ⊢
      clear hc0
      generalize hCC : countV ((n : Int) + 2) = CC at *
      have HCC := Lib.hid hCC
      clear hCC
      go_wp2_with (go_at_call 23; refine (Count_c _ ((n : Int) + 2) HCC.out HCE.out).mono ?_; rintro e w5 ⟨rfl, b5⟩)
      have k5 := hb1.trans (b5.mono hb1.size)
      have o1 : OwnL (w5.alloc (.cells #[.int .i64 1] 3)) 3 w.heap.size (some ⟨w5.heap.size, 0, none⟩) 1 1 (flatK 0) := own_lit w5 3 w.heap.size k5.size [1] _ 1 rfl rfl (by omega)
      have b1 : Below w.heap.size w (w5.alloc (.cells #[.int .i64 1] 3)) := k5.alloc k5.size _
      clear b5 hb1
      go_loopw [12, 13] (fun vf vn wr => ∃ (m : Nat) (a : Option Addr) (c : Nat), m ≤ n + 2 ∧ vn = .int .i64 ((m : Int) + 1) ∧ vf = .slice a (m + 1) c ∧ Hid (OwnL wr 3 w.heap.size a (m + 1) c (flatK m)) ∧ Below w.heap.size w wr) (fun _ vn _ => 20 - (intOf vn).toNat)
      case atStart => exact ⟨0, _, 1, by omega, rfl, rfl, Lib.hid o1, b1⟩
      case round =>
        clear o1 b1 k5
        obtain ⟨m, a, c, hm, rfl, rfl, hO, hb⟩ := hrel
        by_cases hlt : m < n + 2
        · have hd : decide (((m : Nat) : Int) + 1 ≤ (n : Int) + 2) = true := by simp; omega
          have HFV : Hid (flatV ((m : Int) + 1) = sumK (flatK m) (m + 1) (m + 1)) := Lib.hid (flatV_step m (by omega))
          have HCE2 : Hid (countE ((m : Int) + 1) = 0) := Lib.hid (by rw [countE, if_pos (by omega)])
          obtain ⟨FV, hFV⟩ : ∃ FV, flatV ((m : Int) + 1) = FV := ⟨_, rfl⟩
          have HFV2 := Lib.hid hFV
          have hfv := flatV_small m (by omega)
          rw [hFV] at hfv
          clear hFV
          go_wp2_with (go_at_call 37; refine (Flat_c _ ((m : Int) + 1) HFV2.out HCE2.out).mono ?_; rintro e w6 ⟨rfl, b6⟩)
          have hO2 := Lib.hid (hO.out.below (b6.mono (Nat.le_refl _)))
          have hb2 := hb.trans (b6.mono hb.size)
          clear hO hb b6
          obtain ⟨g, rfl⟩ := hO2.out.gen.addr (by omega)
          obtain ⟨hc1, hc2⟩ := hO2.out.gen.caps
          have hmi : (m : Int) ≤ 9 := by omega
          go_loopw [16, 76] (fun vs vk wr => ∃ k : Nat, k ≤ m + 1 ∧ vk = .int .i64 (k : Int) ∧ vs = .int .i64 (sumK (flatK m) (m + 1) k) ∧ Hid (OwnL wr 3 w.heap.size (some ⟨g, 0, none⟩) (m + 1) c (flatK m)) ∧ Below w.heap.size w wr) (fun _ vk _ => m + 1 - (intOf vk).toNat)
          case atStart => exact ⟨0, by omega, rfl, rfl, hO2, hb2⟩
          case round =>
            clear hO2 hb2
            obtain ⟨k, hk, rfl, rfl, hO, hb⟩ := hrel
            have hs := sumK_small m (by omega) k (by omega)
            by_cases hkm : k < m + 1
            · obtain ⟨j, hj⟩ : ∃ j, m = k + j := ⟨m - k, by omega⟩
              have hs2 : sumK (flatK m) (m + 1) (k + 1) = sumK (flatK m) (m + 1) k + (flatK m).getD k 0 * (flatK m).getD j 0 := by
                rw [sumK, show m + 1 - 1 - k = j by omega]
              have v1 := flatK_small m (by omega) k (by omega)
              have v2 := flatK_small m (by omega) j (by omega)
              have hsn := sumK_small m (by omega) (k + 1) (by omega)
              obtain ⟨x1, _⟩ := hO.out.gen.cell k 0 (by omega)
              obtain ⟨x2, _⟩ := hO.out.gen.cell j 0 (by omega)
              rw [hs2] at hsn
              have HS := Lib.hid hs2
              generalize (flatK m).getD k 0 = y1 at *
              generalize (flatK m).getD j 0 = y2 at *
              obtain ⟨s, hse⟩ : ∃ s, sumK (flatK m) (m + 1) k = s := ⟨_, rfl⟩
              obtain ⟨p, hp⟩ : ∃ p, y1 * y2 = p := ⟨_, rfl⟩
              have hpb : 0 ≤ p ∧ p ≤ 100000 := by
                have := Int.mul_nonneg v1.1 v2.1
                rw [hse, hp] at hsn; rw [hse] at hs; rw [hp] at this
                omega
              rw [hse] at hs hsn ⊢
              rw [hp] at hsn
              have w1 : IntKind.i64.wrap p = p := IntWalk.i64_in _ (by omega)
              have w2 : IntKind.i64.wrap (s + p) = s + p := IntWalk.i64_in _ (by omega)
              have w3 : IntKind.i64.wrap ((m : Nat) : Int) = ((m : Nat) : Int) := IntWalk.i64_in _ (by omega)
              have w4 : IntKind.i64.wrap (((m : Nat) : Int) - ((k : Nat) : Int)) = ((j : Nat) : Int) := by rw [IntWalk.i64_in _ (by omega)]; omega
              have i1' : ((k : Nat) : Int) < ((m : Nat) : Int) + 1 := by omega
              have i2' : ((j : Nat) : Int) < ((m : Nat) : Int) + 1 := by omega
              have HSE : Hid (sumK (flatK m) (m + 1) (k + 1) = s + p) := Lib.hid (by rw [HS.out, hse, hp])
              have j1 : j < m + 1 := by omega
              have hO2 : Hid (∀ nq, OwnL (wr.drewN nq) 3 w.heap.size (some ⟨g, 0, none⟩) (m + 1) c (flatK m)) := Lib.hid fun nq => hO.out.drewN nq
              clear hj hse hs2 HS hO
              go_wp2_with fail
              go_quiet (fail)
              have hO3 := Lib.hid (hO2.out nq)
              have hb3 := belowN hb nq
              clear w1 w2 w3 w4 hO2 hb
              go_wp2
              go_roundw
              case rel => first | exact ⟨k + 1, by omega, by go_num, by rw [HSE.out], hO3, hb3⟩ | ((repeat apply Exists.intro); exact ⟨⟨k + 1, by omega, by go_num, by rw [HSE.out], hO3, hb3⟩, rfl⟩)
              case measure => simp [intOf]; omega
            · obtain rfl : k = m + 1 := by omega
              have HS : Hid (flatK (m + 1) = flatK m ++ [FV]) := Lib.hid (by rw [← HFV2.out, HFV.out]; rfl)
              have he : sumK (flatK m) (m + 1) (m + 1) = FV := by rw [← HFV2.out, HFV.out]
              rw [he] at hs ⊢
              have hff : (FV != FV) = false := by simp
              have ho := hO.out
              clear hO he
              have hsz := hb.size
              go_wp2_with (at_builtin; refine wl_app_own Try.underlying22 elem3 w.heap.size (.tmp 97) (.tmp 99) rfl rfl rfl rfl (ho.alloc _) (isL_one _ _ _) (by simp; omega) (by omega) ?_)
              intro a2 c2 w4 ho2 hg2 hb2 hv2
              have hO4 : Hid (OwnL w4 3 w.heap.size a2 (m + 1 + 1) c2 (flatK (m + 1))) := Lib.hid (by rw [HS.out]; exact ho2)
              have hb4 := (hb.alloc hsz (.cells #[.int .i64 FV] 3)).trans hb2
              clear hg2 hb2 hv2 ho ho2 hb
              go_wp2
              go_roundw
              case rel => first | exact ⟨m + 1, a2, c2, by omega, by go_num, rfl, hO4, hb4⟩ | ((repeat apply Exists.intro); exact ⟨⟨m + 1, a2, c2, by omega, by go_num, rfl, hO4, hb4⟩, rfl⟩)
              case measure => simp [intOf]; omega
        · obtain rfl : m = n + 2 := by omega
          have hcc : (CC == CC) = true := by simp
          clear hO
          go_wp2_with (go_at_call 15; refine (works_any _).mono ?_; rintro e w7 ⟨rfl, b7⟩)
          go_ret
          exact ⟨rfl, hb.trans (b7.mono hb.size)⟩
theorem u8_bounds {x : Int} (h : (Lit.int .u8 x).wf = true) : 0 ≤ x ∧ x ≤ 255 := by
  simp [Lit.wf, IntKind.min, IntKind.max, IntKind.signed, IntKind.bits] at h; omega
theorem StoreRows_any (a0 a1 : Int) (w0 : (Lit.int .u8 a0).wf = true) (w1 : (Lit.int .u8 a1).wf = true) (w : World) : Calls Try.prog 6 #[.int .u8 a0, .int .u8 a1] w fun e w' => e = .returned (.bool true) ∧ Below w.heap.size w w' :=
  StoreRows_u a0 a1 w (u8_bounds w0) (u8_bounds w1)
end Go.Proofs.Ytjedmiegcbdedaa
