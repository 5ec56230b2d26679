/- TopCoded: the law. -/
import Derived.Test.YtpfaoagddgcmbaaDoorTc
namespace Go.Proofs.YtpfaoagddgcmbaaDoor
open Go.RowKit Dock01 Grade03
set_option maxRecDepth 100000
theorem way_test (i : Nat) (t : Int) (h1 : 1 ≤ i) (h7 : i ≤ 7) (ht : 0 ≤ t ∧ t ≤ 49) : ((i : Int) * ((i : Int) - 1) / 2 - t != wrap64 (wrap64 ((wrap64 ((i : Int) * ((i : Int) - 1))).tdiv 2) - t)) = false := by
  have : i = 1 ∨ i = 2 ∨ i = 3 ∨ i = 4 ∨ i = 5 ∨ i = 6 ∨ i = 7 := by omega
  rcases this with rfl | rfl | rfl | rfl | rfl | rfl | rfl <;> simp [wrap64] <;> omega
set_option maxHeartbeats 8000000 in
theorem TopCoded_any (bx y0 y1 y2 y3 y4 y5 y6 : Int) (w : World) (hT : Tab w) (hb0 : 0 ≤ bx ∧ bx < 256) (hb : ∀ i, 0 ≤ ([y0, y1, y2, y3, y4, y5, y6] : List Int).getD i 0 ∧ ([y0, y1, y2, y3, y4, y5, y6] : List Int).getD i 0 < 256) :
    Calls Tryd.prog 4 #[.int .u8 bx, .agg #[U8 y0, U8 y1, U8 y2, U8 y3, U8 y4, U8 y5, U8 y6]] w fun e w' => e = .returned (.bool true) ∧ Below w.heap.size w w' := by
  obtain ⟨hb00, hb01⟩ := hb0
  have m1 := Int.emod_nonneg bx (b := 7) (by omega)
  have m2 := Int.emod_lt_of_pos bx (b := 7) (by omega)
  obtain ⟨n, hn⟩ : ∃ n : Nat, 1 + bx % 7 = (n : Int) := ⟨(1 + bx % 7).toNat, by omega⟩
  have n1 : 1 ≤ n := by omega
  have n7 : n ≤ 7 := by omega
  have w1 : IntKind.i64.wrap (1 + bx % 7) = (n : Int) := by rw [hn]; exact IntWalk.i64_in _ (by omega)
  have HT := Lib.hid hT
  have D := Lib.hid (fun w => dealt_any n y0 y1 y2 y3 y4 y5 y6 w hb n7)
  obtain ⟨dO, dL⟩ := deal_ord n [y0, y1, y2, y3, y4, y5, y6]
  have HCF := Lib.hid (cod_facts dO dL n1 n7)
  have HO := Lib.hid dO
  have HLN := Lib.hid dL
  clear m1 m2 hn hT hb dO dL
  go_enter Tryd.func4, Tryd.ntmps4
  go_wp2_with fail
  refine (D.out _).mono ?_
  rintro e w2 ⟨a, c, rfl, hl0, b2⟩
  have k2 : Below w.heap.size w w2 := ((Below.refl _ w).alloc (Nat.le_refl _) _).trans (b2.mono (by simp))
  have hl := hl0.isL
  generalize dealL n [y0, y1, y2, y3, y4, y5, y6] = l at *
  have hck : chkE l = 0 := chkE_zero.2 ⟨HO.out, by rw [HLN.out]; exact n1, by rw [HLN.out]; exact n7⟩
  clear D b2 hl0
  go_wp2_with fail
  refine (Code_any _ _ _ l _ hl).mono ?_
  rintro e w3 ⟨ac, mc, cc, rfl, hc, b3⟩
  rw [hck]
  unfold codE at hc
  rw [if_pos hck] at hc
  obtain rfl : mc = n := by rw [← hc.len, HCF.out.len]
  have hl3 := hl.below b3
  have k3 := k2.trans (b3.mono k2.size)
  have hcl := hc.le
  clear hl k2 b3 hck
  have HI1 : Hid (InL (codeL l) ((mc : Int) - 1)) := Lib.hid HCF.out.inl
  have HI2 : Hid (InL l ((mc : Int) - 1)) := Lib.hid (fun i hi => by have := HO.out.lo i hi; rw [HLN.out] at this; omega)
  have q0 : ((mc : Int) != (mc : Int)) = false := by simp
  go_wp2_with fail
  refine (Serves_yes ac mc cc mc (codeL l) w3 (HT.out.below k3) hc n1 (by omega) (Nat.le_refl _) HI1.out HCF.out.srv).mono ?_
  rintro e w4 ⟨rfl, b4⟩
  have hl4 := hl3.below b4
  have hc4 := hc.below b4
  have k4 := k3.trans (b4.mono k3.size)
  clear hl3 hc k3 b4
  go_wp2_with fail
  refine (Way_dock ac mc cc mc (codeL l) w4 (HT.out.below k4) hc4 n1 (by omega) (Nat.le_refl _) HI1.out).mono ?_
  rintro e w5 ⟨rfl, b5⟩
  have hl5 := hl4.below b5
  have k5 := k4.trans (b5.mono k4.size)
  clear hl4 hc4 k4 b5
  rw [HCF.out.way]
  go_wp2_with fail
  have H5 := Lib.hid hl5
  clear hl5
  go_loopw [66, 12] (fun vi vt wr => ∃ i : Nat, i ≤ mc ∧ vi = .int .i64 (i : Int) ∧ vt = .int .i64 (trnA l i) ∧ Below w5.heap.size w5 wr) (fun vi _ _ => mc - (intOf vi).toNat)
  case atStart => exact ⟨0, by omega, rfl, rfl, Below.refl _ _⟩
  case round =>
    obtain ⟨i, hi, rfl, rfl, kr⟩ := hrel
    have w9 : IntKind.i64.wrap ((i : Int) + 1) = (i : Int) + 1 := IntWalk.i64_in _ (by omega)
    by_cases hlt : i < mc
    · have q1 : (i : Int) < (mc : Int) := by omega
      have hA := trnA_bound l i (by omega)
      go_wp2_with fail
      go_loopw [70, 12] (fun vk vt wr => ∃ k : Nat, k ≤ i ∧ vk = .int .i64 (k : Int) ∧ vt = .int .i64 (trnA l i + trnR l i k) ∧ Below w5.heap.size w5 wr) (fun vk _ _ => i - (intOf vk).toNat)
      case atStart => exact ⟨0, by omega, rfl, by simp [trnR], kr⟩
      case round =>
        clear kr
        obtain ⟨k, hk, rfl, rfl, kr⟩ := hrel
        have w8 : IntKind.i64.wrap ((k : Int) + 1) = (k : Int) + 1 := IntWalk.i64_in _ (by omega)
        have hR := trnR_bound l i k
        by_cases hkt : k < i
        · have q2 : (k : Int) < (i : Int) := by omega
          have q3 : (k : Int) < (mc : Int) := by omega
          obtain ⟨b', o', rfl, hbl, hcell⟩ := (H5.out.below kr).cells (by omega)
          have c1 := hcell k (by omega)
          have c2 := hcell i hlt
          have hRn : trnR l i (k + 1) = trnR l i k + if l.getD i 0 < l.getD k 0 then 1 else 0 := rfl
          by_cases hq : l.getD i 0 < l.getD k 0
          · have e3 : trnA l i + trnR l i k + 1 = trnA l i + trnR l i (k + 1) := by rw [hRn, if_pos hq]; omega
            have w7 : IntKind.i64.wrap (trnA l i + trnR l i k + 1) = trnA l i + trnR l i k + 1 := IntWalk.i64_in _ (by omega)
            have HE3 := Lib.hid e3
            generalize l.getD i 0 = vi at *
            generalize l.getD k 0 = vk at *
            clear hcell hRn e3
            go_wp2
            go_quiet (fail)
            go_wp2_with fail
            exact ⟨⟨k + 1, by omega, by go_num, by rw [HE3.out], belowN kr _⟩, by simp [intOf]; omega⟩
          · have e3 : trnA l i + trnR l i k = trnA l i + trnR l i (k + 1) := by rw [hRn, if_neg hq]; omega
            have HE3 := Lib.hid e3
            have hq2 : decide (l.getD i 0 < l.getD k 0) = false := by simpa using hq
            generalize l.getD i 0 = vi at *
            generalize l.getD k 0 = vk at *
            clear hcell hRn e3
            go_wp2
            go_quiet (fail)
            go_wp2_with fail
            exact ⟨⟨k + 1, by omega, by go_num, by rw [HE3.out], belowN kr _⟩, by simp [intOf]; omega⟩
        · obtain rfl : k = i := by omega
          have e3 : trnA l k + trnR l k k = trnA l (k + 1) := rfl
          have HE3 := Lib.hid e3
          clear e3
          go_wp2_with fail
          exact ⟨⟨k + 1, by omega, by go_num, by rw [HE3.out], kr⟩, by simp [intOf]; omega⟩
    · obtain rfl : i = mc := by omega
      have hl6 := H5.out.below kr
      have k6 := k5.trans (kr.mono k5.size)
      have hA := trnA_bound l i n7
      clear kr H5 k5
      go_wp2_with fail
      refine (Park_any a i c i l _ (HT.out.below k6) hl6 n1 (by omega) (Nat.le_refl _) HI2.out).mono ?_
      rintro e w7 ⟨ap, cp, rfl, hp, b7⟩
      rw [HCF.out.park] at hp
      have hp7 := hp.isL
      have hl7 := hl6.below b7
      have k7 := k6.trans (b7.mono k6.size)
      clear hl6 k6 b7 hp
      go_wp2_with fail
      refine (Lucky_any a i c i l _ (HT.out.below k7) hl7 n1 (by omega) (Nat.le_refl _) HI2.out).mono ?_
      rintro e w8 ⟨rfl, b8⟩
      rw [HCF.out.luck]
      have hl8 := hl7.below b8
      have hp8 := hp7.below b8
      have k8 := k7.trans (b8.mono k7.size)
      clear hl7 hp7 k7 b8
      go_wp2_with fail
      have hnd : l.Nodup := HO.out.nodup
      refine (Ways_any a i c i l _ hl8 n1 (by omega) (Nat.le_refl _) HI2.out hnd).mono ?_
      rintro e w9 ⟨rfl, b9⟩
      rw [HCF.out.ways]
      have hl9 := hl8.below b9
      have hp9 := hp8.below b9
      have k9 := k8.trans (b9.mono k8.size)
      clear hl8 hp8 k8 b9
      go_wp2_with fail
      refine (same_yes _ _ _ _ _ _ l l _ hp9 hl9 rfl).mono ?_
      rintro e w10 ⟨rfl, b10⟩
      have hl10 := hl9.below b10
      have k10 := k9.trans (b10.mono k9.size)
      clear hl9 hp9 k9 b10
      have hz := way_test i (trnA l i) n1 n7 ⟨hA.1, by omega⟩
      have H10 := Lib.hid hl10
      clear hl10
      go_wp2_with fail
      go_loopw [138, 19] (fun vi vt wr => ∃ j : Nat, j ≤ i ∧ vi = .int .i64 (j : Int) ∧ vt = .int .i64 (wantK l j : Int) ∧ Below w10.heap.size w10 wr) (fun vi _ _ => i - (intOf vi).toNat)
      case atStart => exact ⟨0, by omega, rfl, rfl, Below.refl _ _⟩
      case round =>
        obtain ⟨j, hj, rfl, rfl, kr⟩ := hrel
        have w9 : IntKind.i64.wrap ((j : Int) + 1) = (j : Int) + 1 := IntWalk.i64_in _ (by omega)
        by_cases hlt : j < i
        · have q1 : (j : Int) < (i : Int) := by omega
          obtain ⟨b', o', ha, hbl, hcell⟩ := (H10.out.below kr).cells (by omega)
          have c1 := hcell j hlt
          have hx0 := HI2.out j (by rw [HLN.out]; exact hlt)
          obtain ⟨x, hx⟩ : ∃ x : Nat, l.getD j 0 = (x : Int) := ⟨(l.getD j 0).toNat, by omega⟩
          have hwn : wantK l (j + 1) = wantK l j * runF l j x 8 1 := by rw [wantK, hx, Int.toNat_natCast]
          have hmono := wantK_mono l (j + 1) (i - (j + 1))
          rw [show j + 1 + (i - (j + 1)) = i by omega] at hmono
          have hsm := HCF.out.small
          have HWN := Lib.hid hwn
          rw [hx] at c1 hx0
          clear hcell hx hwn
          subst ha
          go_wp2_with fail
          go_loopw [22] (fun vm wr => ∃ m f : Nat, vm = .int .i64 (m : Int) ∧ Hid (runF l j x f m = runF l j x 8 1) ∧ m + f = 9 ∧ m ≤ x + 1 ∧ Below w10.heap.size w10 wr) (fun vm _ => 9 - (intOf vm).toNat)
          case atStart => exact ⟨1, 8, rfl, Lib.hid rfl, rfl, by omega, kr⟩
          case round =>
            clear kr c1
            obtain ⟨m, f, rfl, hM, hmf, hmx, kr⟩ := hrel
            have w8 : IntKind.i64.wrap ((m : Int) + 1) = (m : Int) + 1 := IntWalk.i64_in _ (by omega)
            have w7 : IntKind.i64.wrap ((x : Int) - (m : Int)) = (x : Int) - (m : Int) := IntWalk.i64_in _ (by omega)
            by_cases hle : m ≤ x
            · have q2 : (m : Int) ≤ (x : Int) := by omega
              obtain ⟨f', rfl⟩ : ∃ f', f = f' + 1 := ⟨f - 1, by omega⟩
              by_cases hin : ((x : Int) - (m : Int)) ∈ l.take j
              · have hM2 : Hid (runF l j x f' (m + 1) = runF l j x 8 1) := Lib.hid (by rw [← hM.out, runF, if_pos ⟨hle, hin⟩])
                have HB := Lib.hid (before_any _ i c l ((x : Int) - (m : Int)) j wr (H10.out.below kr) (by omega) (by omega) true (by simpa using hin))
                clear hM hin
                go_wp2_with fail
                refine HB.out.mono ?_
                rintro e w11 ⟨rfl, b11⟩
                have k11 := kr.trans (b11.mono kr.size)
                go_wp2_with fail
                exact ⟨⟨m + 1, f', by go_num, hM2, by omega, by omega, k11⟩, by simp [intOf]; omega⟩
              · have hM2 : runF l j x 8 1 = m := by rw [← hM.out, runF_end _ _ (fun h => hin h.2)]
                have HB := Lib.hid (before_any _ i c l ((x : Int) - (m : Int)) j wr (H10.out.below kr) (by omega) (by omega) false (by simpa using hin))
                have hw := HWN.out
                rw [hM2] at hw
                have w6 : IntKind.i64.wrap ((wantK l j : Int) * (m : Int)) = (wantK l (j + 1) : Int) := by
                  rw [hw, ← Int.natCast_mul]; exact IntWalk.i64_in _ (by rw [← hw]; omega)
                clear hM hin hM2 hw hmono hsm
                go_wp2_with fail
                refine HB.out.mono ?_
                rintro e w11 ⟨rfl, b11⟩
                have k11 := kr.trans (b11.mono kr.size)
                go_wp2_with fail
                exact ⟨⟨j + 1, by omega, by go_num, rfl, k11⟩, by simp [intOf]; omega⟩
            · have hM2 : runF l j x 8 1 = m := by rw [← hM.out, runF_end _ _ (fun h => hle h.1)]
              have hw := HWN.out
              rw [hM2] at hw
              have w6 : IntKind.i64.wrap ((wantK l j : Int) * (m : Int)) = (wantK l (j + 1) : Int) := by
                rw [hw, ← Int.natCast_mul]; exact IntWalk.i64_in _ (by rw [← hw]; omega)
              have q2 : ¬ (m : Int) ≤ (x : Int) := by omega
              have q3 : decide ((m : Int) ≤ (x : Int)) = false := by simpa using q2
              clear hM hM2 hw hmono hsm
              go_wp2_with fail
              exact ⟨⟨j + 1, by omega, by go_num, rfl, kr⟩, by simp [intOf]; omega⟩
        · obtain rfl : j = i := by omega
          have k11 := k10.trans (kr.mono k10.size)
          have q4 : ((wantK l j : Int) == (wantK l j : Int)) = true := by simp
          go_wp2_with fail
          refine (gradesWork_any _ (HT.out.below k11)).mono ?_
          rintro e w12 ⟨rfl, b12⟩
          have k12 := k11.trans (b12.mono k11.size)
          go_wp2_with fail
          go_ret
          exact ⟨rfl, k12⟩
end Go.Proofs.YtpfaoagddgcmbaaDoor
