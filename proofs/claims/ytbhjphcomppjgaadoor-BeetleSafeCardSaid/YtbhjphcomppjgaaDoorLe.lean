/- Law of chapter 9: BeetleSafe. -/
import Derived.Test.YtbhjphcomppjgaaDoorVf
import Derived.Test.YtbhjphcomppjgaaDoorPr
namespace Go.Proofs.YtbhjphcomppjgaaDoor
open Go.RowKit Beetle09
theorem take_all {p : Nat → Bool} {l : List Nat} {i : Nat} (hi : i < l.length) : (l.take (i + 1)).all p = ((l.take i).all p && p (l.getD i 0)) := by
  rw [List.take_succ_eq_append_getElem hi, List.all_append, show l.getD i 0 = l[i] by simp [List.getD, hi]]
  simp
set_option maxHeartbeats 32000000 in
set_option maxRecDepth 100000 in
theorem BeetleSafe_any (p q x y : Nat) (w : World) (hp : p < 256) (hq : q < 256) (hx : x < 4294967296) (hy : y < 4294967296) (hT : Tab w) : Calls Tryd.prog 11 #[floV p q x y] w fun e w' => e = .returned (.bool true) ∧ Below w.heap.size w w' := by
  have HM := Lib.hid (made3_any p q x y true (w.alloc (.cells (floL p q x y).toArray 58)) hp hq hx hy)
  have HMO := Lib.hid (mk_open (p := p) (q := q) (x := x) (y := y) (b := true) (M := 3) (by decide) (by decide))
  have HTT := Lib.hid hT
  clear hT
  go_enter Tryd.func11, Tryd.ntmps11
  go_wp2_with fail
  refine HM.out.mono ?_
  rintro e w1 ⟨aS, nS, cS, aC, nC, cC, rfl, hS, hF, hb⟩
  obtain ⟨R, hR⟩ : ∃ R, mkN p 3 = R := ⟨_, rfl⟩
  obtain ⟨C, hC⟩ : ∃ C, mkN q 3 = C := ⟨_, rfl⟩
  rw [hR, hC] at hS hF HMO
  simp only [hR, hC]
  obtain ⟨sk, hsk⟩ : ∃ sk, mkS (R * C) x = sk := ⟨_, rfl⟩
  obtain ⟨zk, hzk⟩ : ∃ zk, mkZ true (R * C) x y = zk := ⟨_, rfl⟩
  rw [hsk] at hS HMO
  rw [hzk] at hF HMO
  simp only [hsk, hzk]
  have H0 := Lib.hid HMO.out.1
  have HOP := Lib.hid HMO.out.2
  have n25 := HOP.out.sd.n25
  have hR5 := HOP.out.sd.r5
  have hC5 := HOP.out.sd.c5
  have hs25 := HOP.out.s25
  have hz25 := HOP.out.z25
  have HL0 := Lib.hid (LwS.start (R := R) (C := C) hS hF HTT.out hb)
  clear HM HMO hS hF hb HTT hR hC hsk hzk
  obtain ⟨gS, hgS⟩ : ∃ g, w1.heap.size = g := ⟨_, rfl⟩
  obtain ⟨N, hN⟩ : ∃ N, R * C = N := ⟨_, rfl⟩
  have m1 : (R : Int) * (C : Int) = (N : Int) := by rw [← hN]; simp
  have n25' : N ≤ 25 := by rw [← hN]; exact n25
  obtain ⟨V, al, hal, hal2, hV1, hV0, g1, g2, g3, g4, g5⟩ := all_facts N n25'
  have HAL : Hid (al = 2 ^ (R * C) - 1) := Lib.hid (by rw [hN]; exact hal)
  clear hal
  go_wp2_with fail
  rw [hgS] at HL0
  obtain ⟨W, hW⟩ : ∃ W, ((w1.alloc (.cells #[.int .i64 (R : Int), .int .i64 (C : Int), .slice aS nS cS, .slice aC nC cC] 24)).alloc (.cells #[.int .i64 (R : Int), .int .i64 (C : Int)] 60)) = W := ⟨_, rfl⟩
  rw [hW] at HL0 ⊢
  clear hW hgS
  have hWs := HL0.out.lt
  have HQ25 := Lib.hid (lt25 (fin_lt (z := zk) HOP.out.rs.lt) n25)
  refine (lspread_any R C sk zk W HOP.out.sd HOP.out.rs.lt HOP.out.rz.lt).mono ?_
  rintro e Wp ⟨rfl, b2⟩
  obtain ⟨q, hq⟩ : ∃ q, fin R C zk sk = q := ⟨_, rfl⟩
  have HQ := Lib.hid hq
  rw [hq] at HQ25 ⊢
  have hq25 := HQ25.out
  obtain ⟨x1, hx1⟩ : ∃ x, al &&& (4294967295 - q) = x := ⟨_, rfl⟩
  have f1 : bits .andNot .u32 (al : Int) (q : Int) = (x1 : Int) := by rw [u32_andNot_nat al q (by omega) (by omega), hx1]
  have hx125 : x1 < 2 ^ 25 := by rw [← hx1]; exact Nat.lt_of_le_of_lt Nat.and_le_left (by omega)
  have hx1N : x1 < 2 ^ (R * C) := by rw [← hx1]; exact Nat.lt_of_le_of_lt Nat.and_le_left (by rw [HAL.out]; have := Nat.two_pow_pos (R * C); omega)
  have HPVa : Hid (provE (R : Int) (C : Int) (li (els 25 sk).reverse) (li (els 25 zk)) (li (els 25 x1)) = 0) := Lib.hid (by
    rw [prov_set HOP.out H0.out hx1N, if_pos]
    refine okB_rest fun i hi => ?_
    rw [← hx1, HAL.out, HQ.out]
    exact rest_mask n25 hq25 hi)
  have hTa := Lib.hid (HL0.out.to b2)
  have t0 := val hTa.out.st 0 rfl
  have t1 := val hTa.out.st 1 rfl
  have t2 := val hTa.out.st 2 rfl
  have t3 := val hTa.out.st 3 rfl
  clear hx1 hx1N hq HQ25
  have H48a : Hid (∀ w', GoodW Wp w' → Calls Tryd.prog 48 #[.int .u32 (x1 : Int)] w' fun e w2 => ∃ a c, e = .returned (.slice a (pcN 25 x1) c) ∧ IsL w2 a (pcN 25 x1) c (li (els 25 x1)) ∧ GoodW Wp w2) := Lib.hid fun w' h => (bits_any x1 w' (by omega)).mono fun _ _ ⟨a, c, he, hO, hb⟩ => ⟨a, c, he, hO.isL, h.to hb⟩
  have H24a : Hid (∀ a n c w', GoodW Wp w' → IsL w' a n c (li (els 25 x1)) → Calls Tryd.prog 24 #[stV (R : Int) (C : Int) aS aC nS cS nC cC, .slice a n c] w' fun e w2 => e = .returned (.int .i64 0) ∧ GoodW Wp w2) := Lib.hid fun a n c w' h hI => (Proves_c (hTa.out.to h).iS (hTa.out.to h).iF hI (hTa.out.to h).tab HPVa.out).mono fun _ _ ⟨he, hb⟩ => ⟨he, h.to hb⟩
  have HGa : GoodW Wp Wp.drew := (Below.refl _ _).drew
  obtain ⟨Pa, hPa⟩ : ∃ P, pcN 25 x1 = P := ⟨_, rfl⟩
  rw [hPa] at H48a
  clear hPa
  go_wp2_with fail
  go_region_held3 (fun w' => w'.cell? ⟨gS, 0, none⟩ = some (.int .i64 (R : Int)) ∧ w'.cell? ⟨gS, 1, none⟩ = some (.int .i64 (C : Int)) ∧ w'.cell? ⟨gS, 2, none⟩ = some (.slice aS nS cS) ∧ w'.cell? ⟨gS, 3, none⟩ = some (.slice aC nC cC)) (first | go_keep | exact ⟨hG.cell t0, hG.cell t1, hG.cell t2, hG.cell t3⟩)
    (first
      | ((go_at_call 48; with_reducible refine (H48a.out _ ?_).mono ?_; assumption; rintro e w5 ⟨xx, cx, rfl, hI, hG⟩))
      | ((go_at_call 24; with_reducible refine (H24a.out _ _ _ _ ?_ ?_).mono ?_; assumption; assumption; rintro e w5 ⟨rfl, hG⟩)))
  have hk5 : Below W.heap.size W w5 := b2.trans (Below.mono hG b2.size)
  have HMK : Hid (∀ o, o < 2 ^ 25 → (al &&& (4294967295 - o)) &&& (4294967295 - zk) = co R C o zk) := Lib.hid fun o ho => by rw [HAL.out]; exact co_mask n25 ho hz25
  have HNR := Lib.hid (fun (r n : Nat) (w : World) (hr : r < 2 ^ 25) (hn : n < R * C) => near_any R C r n w HOP.out.sd hr hn)
  have HOK : Hid (∀ o, o ≤ al → okB R C sk zk o = (decide (o &&& sk = 0) && (els 25 (o &&& (4294967295 - zk))).all fun n => decide (cnt R C (co R C o zk) n ≤ 1))) := Lib.hid fun o ho => okB_law (by rw [HAL.out] at ho; have := Nat.two_pow_pos (R * C); omega) n25 hz25
  have HPS : Hid (∀ o, o ≤ al → provE (R : Int) (C : Int) (li (els 25 sk).reverse) (li (els 25 zk)) (li (els 25 o)) = if okB R C sk zk o then 0 else 14) := Lib.hid fun o ho => prov_set HOP.out H0.out (by rw [HAL.out] at ho; have := Nat.two_pow_pos (R * C); omega)
  have HME : Hid (∀ o, o ≤ al → okB R C sk zk o = true → o &&& q = 0) := Lib.hid fun o ho h => by rw [← HQ.out]; exact okB_meet HOP.out.rs.lt (by rw [HAL.out] at ho; have := Nat.two_pow_pos (R * C); omega) HOP.out.dj h
  have HLTN : Hid (∀ o, o ≤ al → o < 2 ^ (R * C)) := Lib.hid fun o ho => by rw [HAL.out] at ho; have := Nat.two_pow_pos (R * C); omega
  clear hTa t0 t1 t2 t3 H48a H24a HGa hG b2 f1 hx125 HPVa g1 g2 g3 g4 g5 m1 hV1 hV0 hI
  go_wp2_with fail
  go_loopw [9] (fun vo wr => ∃ o : Nat, o ≤ al + 1 ∧ vo = .int .u32 (o : Int) ∧ Below W.heap.size W wr) (fun vo _ => al + 1 - (intOf vo).toNat)
  case atStart => exact ⟨0, by omega, rfl, hk5⟩
  case round =>
    clear hk5
    obtain ⟨o, ho, rfl, hb⟩ := hrel
    have hT := Lib.hid (HL0.out.to hb)
    by_cases hlt : o ≤ al
    · have d0 : decide ((o : Int) ≤ (al : Int)) = true := by simp; omega
      have q0 : (o : Int) ≤ (al : Int) := by omega
      have ho25 : o < 2 ^ 25 := by omega
      have u1 : IntKind.u32.wrap ((o : Int) + 1) = (o : Int) + 1 := by rw [wrap_u32']; omega
      have u2 : ((o : Int) + 1) % 4294967296 = (o : Int) + 1 := by omega
      obtain ⟨y0, hy0⟩ : ∃ y, o &&& sk = y := ⟨_, rfl⟩
      have f0 : bits .and .u32 (o : Int) (sk : Int) = (y0 : Int) := by rw [u32_and_nat o sk (by omega) (by omega), hy0]
      obtain ⟨x2, hx2⟩ : ∃ x, o &&& (4294967295 - zk) = x := ⟨_, rfl⟩
      have f2 : bits .andNot .u32 (o : Int) (zk : Int) = (x2 : Int) := by rw [u32_andNot_nat o zk (by omega) (by omega), hx2]
      have hx2o : x2 ≤ o := by rw [← hx2]; exact Nat.and_le_left
      obtain ⟨x3, hx3⟩ : ∃ x, al &&& (4294967295 - o) = x := ⟨_, rfl⟩
      have f3 : bits .andNot .u32 (al : Int) (o : Int) = (x3 : Int) := by rw [u32_andNot_nat al o (by omega) (by omega), hx3]
      have hx3a : x3 ≤ al := by rw [← hx3]; exact Nat.and_le_left
      obtain ⟨x4, hx4⟩ : ∃ x, x3 &&& (4294967295 - zk) = x := ⟨_, rfl⟩
      have f4 : bits .andNot .u32 (x3 : Int) (zk : Int) = (x4 : Int) := by rw [u32_andNot_nat x3 zk (by omega) (by omega), hx4]
      have hx4a : x4 ≤ x3 := by rw [← hx4]; exact Nat.and_le_left
      have HCO : Hid (co R C o zk = x4) := Lib.hid (by rw [← HMK.out o ho25, hx3, hx4])
      have hok := HOK.out o hlt
      rw [HCO.out, hx2] at hok
      obtain ⟨B0, hB0⟩ : ∃ B, decide (o &&& sk = 0) = B := ⟨_, rfl⟩
      have e0 : ((y0 : Int) == 0) = B0 := by rw [← hB0, hy0, Bool.eq_iff_iff, beq_iff_eq, decide_eq_true_eq]; omega
      rw [hB0] at hok
      have hPx := pcN_le 25 x2
      have HLx := Lib.hid (els_len 25 x2)
      have HMx : Hid (∀ i, i < (els 25 x2).length → (els 25 x2).getD i 0 < R * C) := Lib.hid fun i hi => by
        have : (els 25 x2).getD i 0 ∈ els 25 x2 := by rw [List.getD, List.getElem?_eq_getElem hi]; exact List.getElem_mem hi
        exact bit_lt (Nat.lt_of_le_of_lt hx2o (HLTN.out o hlt)) (mem_els.1 this).2
      have HBI := Lib.hid (bits_any x2 wr (by omega))
      obtain ⟨L, hL⟩ : ∃ L, els 25 x2 = L := ⟨_, rfl⟩
      obtain ⟨P, hPe⟩ : ∃ P, pcN 25 x2 = P := ⟨_, rfl⟩
      rw [hL] at hok
      rw [hL, hPe] at HLx HBI
      rw [hL] at HMx
      rw [hPe] at hPx
      have HKO := Lib.hid hok
      clear hy0 hx2 hx3 hx4 hB0 hL hPe hok
      obtain ⟨Wo, rfl⟩ : ∃ W, W = wr := ⟨_, rfl⟩
      go_wp2_with fail
      refine HBI.out.mono ?_
      rintro e w6 ⟨aB, cB, rfl, hB, b6⟩
      have HB6 := Lib.hid hB.isL
      have hcB := hB.isL.cap
      have hlB := hB.isL.le
      clear hB HBI
      go_wp2_with fail
      go_loopw [53, 10] (fun vi vB wr => ∃ (i : Nat) (B : Bool), i ≤ P ∧ vi = .int .i64 (i : Int) ∧ vB = .bool B ∧ Hid (B = (B0 && (L.take i).all fun n => decide (cnt R C x4 n ≤ 1))) ∧ Hid (IsL wr aB P cB (li L)) ∧ Below Wo.heap.size Wo wr) (fun vi _ _ => P - (intOf vi).toNat)
      case atStart => exact ⟨0, B0, by omega, rfl, rfl, Lib.hid (by simp), HB6, b6⟩
      case round =>
        clear HB6 b6
        obtain ⟨i, B, hi, rfl, rfl, hBB, hLI, hbo⟩ := hrel
        have hbw : Below W.heap.size W wr := hb.trans (hbo.mono hb.size)
        have hTi := Lib.hid (HL0.out.to hbw)
        by_cases hltP : i < P
        · have q1 : (i : Int) < (P : Int) := by omega
          obtain ⟨bb, oo, rfl, _, hc⟩ := hLI.out.cells (by omega)
          have y1 := hc i hltP
          rw [li_get] at y1
          have hvN := HMx.out i (by rw [HLx.out]; exact hltP)
          have HTA := Lib.hid (take_all (p := fun n => decide (cnt R C x4 n ≤ 1)) (l := L) (i := i) (by rw [HLx.out]; exact hltP))
          obtain ⟨v, hv⟩ : ∃ v, L.getD i 0 = v := ⟨_, rfl⟩
          rw [hv] at y1 hvN HTA
          clear hc hv
          cases B with
          | false =>
            have HB2 : Hid (false = (B0 && (L.take (i + 1)).all fun n => decide (cnt R C x4 n ≤ 1))) := Lib.hid (by rw [HTA.out, ← Bool.and_assoc, ← hBB.out]; rfl)
            clear hBB HTA
            go_wp2_with fail
            go_roundw
            case rel => first | exact ⟨i + 1, false, by omega, by go_num, rfl, HB2, hLI, hbo⟩ | ((repeat apply Exists.intro); exact ⟨⟨i + 1, false, by omega, by go_num, rfl, HB2, hLI, hbo⟩, rfl⟩)
            case measure => (simp [intOf] <;> omega)
          | true =>
            have HC := Lib.hid (HNR.out x4 v)
            have hc4 := cnt_le4 R C x4 v
            have HB2 : Hid (decide (cnt R C x4 v ≤ 1) = (B0 && (L.take (i + 1)).all fun n => decide (cnt R C x4 n ≤ 1))) := Lib.hid (by rw [HTA.out, ← Bool.and_assoc, ← hBB.out]; rfl)
            obtain ⟨c, hc⟩ : ∃ c, cnt R C x4 v = c := ⟨_, rfl⟩
            rw [hc] at HC hc4 HB2
            have hx425 : x4 < 2 ^ 25 := by omega
            have z0 := val hTi.out.pl 0 rfl
            have z1 := val hTi.out.pl 1 rfl
            clear hBB HTA hc
            by_cases h2 : c < 2
            · have c1 : decide ((c : Int) < 2) = true := by simp; omega
              have HB3 : Hid (true = (B0 && (L.take (i + 1)).all fun n => decide (cnt R C x4 n ≤ 1))) := Lib.hid (by rw [← HB2.out]; exact (decide_eq_true (by omega)).symm)
              clear HB2
              go_wp2_with fail
              refine (HC.out _ hx425 hvN).mono ?_
              rintro e w8 ⟨rfl, b8⟩
              have hLI8 := Lib.hid (hLI.out.below b8)
              have hb8 : Below Wo.heap.size Wo w8 := hbo.trans (b8.mono hbo.size)
              clear b8 hLI z0 z1
              go_wp2_with fail
              go_roundw
              case rel => first | exact ⟨i + 1, true, by omega, by go_num, rfl, HB3, hLI8, hb8⟩ | ((repeat apply Exists.intro); exact ⟨⟨i + 1, true, by omega, by go_num, rfl, HB3, hLI8, hb8⟩, rfl⟩)
              case measure => (simp [intOf] <;> omega)
            · have c1 : decide ((c : Int) < 2) = false := by simp; omega
              have HB3 : Hid (false = (B0 && (L.take (i + 1)).all fun n => decide (cnt R C x4 n ≤ 1))) := Lib.hid (by rw [← HB2.out]; exact (decide_eq_false (by omega)).symm)
              clear HB2
              go_wp2_with fail
              refine (HC.out _ hx425 hvN).mono ?_
              rintro e w8 ⟨rfl, b8⟩
              have hLI8 := Lib.hid (hLI.out.below b8)
              have hb8 : Below Wo.heap.size Wo w8 := hbo.trans (b8.mono hbo.size)
              clear b8 hLI z0 z1
              go_wp2_with fail
              go_roundw
              case rel => first | exact ⟨i + 1, false, by omega, by go_num, rfl, HB3, hLI8, hb8⟩ | ((repeat apply Exists.intro); exact ⟨⟨i + 1, false, by omega, by go_num, rfl, HB3, hLI8, hb8⟩, rfl⟩)
              case measure => (simp [intOf] <;> omega)
        · obtain rfl : i = P := by omega
          have HBK : Hid (okB R C sk zk o = B) := Lib.hid (by rw [HKO.out, hBB.out, List.take_of_length_le (by rw [HLx.out]; exact Nat.le_refl _)])
          have HPSo := HPS.out o hlt
          have HMEo := HME.out o hlt
          rw [HBK.out] at HPSo HMEo
          obtain ⟨y5, hy5⟩ : ∃ y, o &&& q = y := ⟨_, rfl⟩
          have f5 : bits .and .u32 (o : Int) (q : Int) = (y5 : Int) := by rw [u32_and_nat o q (by omega) (by omega), hy5]
          rw [hy5] at HMEo
          obtain ⟨Wi, rfl⟩ : ∃ W, W = wr := ⟨_, rfl⟩
          have t0 := val hTi.out.st 0 rfl
          have t1 := val hTi.out.st 1 rfl
          have t2 := val hTi.out.st 2 rfl
          have t3 := val hTi.out.st 3 rfl
          have hTb := hTi
          clear hy5 hBB hLI hbo hT f0 f2 f3 f4
          cases B with
          | true =>
            obtain rfl : y5 = 0 := HMEo rfl
            have HPVb : Hid (provE (R : Int) (C : Int) (li (els 25 sk).reverse) (li (els 25 zk)) (li (els 25 o)) = 0) := Lib.hid (by rw [HPSo]; rfl)
            clear HPSo HMEo
            have H48b : Hid (∀ w', GoodW Wi w' → Calls Tryd.prog 48 #[.int .u32 (o : Int)] w' fun e w2 => ∃ a c, e = .returned (.slice a (pcN 25 o) c) ∧ IsL w2 a (pcN 25 o) c (li (els 25 o)) ∧ GoodW Wi w2) := Lib.hid fun w' h => (bits_any o w' (by omega)).mono fun _ _ ⟨a, c, he, hO, hb⟩ => ⟨a, c, he, hO.isL, h.to hb⟩
            have H24b : Hid (∀ a n c w', GoodW Wi w' → IsL w' a n c (li (els 25 o)) → Calls Tryd.prog 24 #[stV (R : Int) (C : Int) aS aC nS cS nC cC, .slice a n c] w' fun e w2 => e = .returned (.int .i64 0) ∧ GoodW Wi w2) := Lib.hid fun a n c w' h hI => (Proves_c (hTb.out.to h).iS (hTb.out.to h).iF hI (hTb.out.to h).tab HPVb.out).mono fun _ _ ⟨he, hb⟩ => ⟨he, h.to hb⟩
            have HGb : GoodW Wi Wi.drew := (Below.refl _ _).drew
            obtain ⟨Pb, hPb⟩ : ∃ P, pcN 25 o = P := ⟨_, rfl⟩
            rw [hPb] at H48b
            clear hPb
            go_wp2_with fail
            go_region_held3 (fun w' => w'.cell? ⟨gS, 0, none⟩ = some (.int .i64 (R : Int)) ∧ w'.cell? ⟨gS, 1, none⟩ = some (.int .i64 (C : Int)) ∧ w'.cell? ⟨gS, 2, none⟩ = some (.slice aS nS cS) ∧ w'.cell? ⟨gS, 3, none⟩ = some (.slice aC nC cC)) (first | go_keep | exact ⟨hG.cell t0, hG.cell t1, hG.cell t2, hG.cell t3⟩)
              (first
                | ((go_at_call 48; with_reducible refine (H48b.out _ ?_).mono ?_; assumption; rintro e w5 ⟨xx, cx, rfl, hI, hG⟩))
                | ((go_at_call 24; with_reducible refine (H24b.out _ _ _ _ ?_ ?_).mono ?_; assumption; assumption; rintro e w5 ⟨rfl, hG⟩)))
            all_goals
              have hb9 : Below W.heap.size W w5 := hbw.trans (Below.mono hG hbw.size)
              clear H48b H24b HGb hG hTb t0 t1 t2 t3
              go_wp2_with fail
              go_roundw
              case rel => first | exact ⟨o + 1, by omega, by go_num, hb9⟩ | ((repeat apply Exists.intro); exact ⟨⟨o + 1, by omega, by go_num, hb9⟩, rfl⟩)
              case measure => (simp [intOf] <;> omega)
          | false =>
            have HPVb : Hid (provE (R : Int) (C : Int) (li (els 25 sk).reverse) (li (els 25 zk)) (li (els 25 o)) = 14) := Lib.hid (by rw [HPSo]; rfl)
            clear HPSo HMEo
            have H48b : Hid (∀ w', GoodW Wi w' → Calls Tryd.prog 48 #[.int .u32 (o : Int)] w' fun e w2 => ∃ a c, e = .returned (.slice a (pcN 25 o) c) ∧ IsL w2 a (pcN 25 o) c (li (els 25 o)) ∧ GoodW Wi w2) := Lib.hid fun w' h => (bits_any o w' (by omega)).mono fun _ _ ⟨a, c, he, hO, hb⟩ => ⟨a, c, he, hO.isL, h.to hb⟩
            have H24b : Hid (∀ a n c w', GoodW Wi w' → IsL w' a n c (li (els 25 o)) → Calls Tryd.prog 24 #[stV (R : Int) (C : Int) aS aC nS cS nC cC, .slice a n c] w' fun e w2 => e = .returned (.int .i64 14) ∧ GoodW Wi w2) := Lib.hid fun a n c w' h hI => (Proves_c (hTb.out.to h).iS (hTb.out.to h).iF hI (hTb.out.to h).tab HPVb.out).mono fun _ _ ⟨he, hb⟩ => ⟨he, h.to hb⟩
            have HGb : GoodW Wi Wi.drew := (Below.refl _ _).drew
            obtain ⟨Pb, hPb⟩ : ∃ P, pcN 25 o = P := ⟨_, rfl⟩
            rw [hPb] at H48b
            clear hPb
            go_wp2_with fail
            go_region_held3 (fun w' => w'.cell? ⟨gS, 0, none⟩ = some (.int .i64 (R : Int)) ∧ w'.cell? ⟨gS, 1, none⟩ = some (.int .i64 (C : Int)) ∧ w'.cell? ⟨gS, 2, none⟩ = some (.slice aS nS cS) ∧ w'.cell? ⟨gS, 3, none⟩ = some (.slice aC nC cC)) (first | go_keep | exact ⟨hG.cell t0, hG.cell t1, hG.cell t2, hG.cell t3⟩)
              (first
                | ((go_at_call 48; with_reducible refine (H48b.out _ ?_).mono ?_; assumption; rintro e w5 ⟨xx, cx, rfl, hI, hG⟩))
                | ((go_at_call 24; with_reducible refine (H24b.out _ _ _ _ ?_ ?_).mono ?_; assumption; assumption; rintro e w5 ⟨rfl, hG⟩)))
            all_goals
              have hb9 : Below W.heap.size W w5 := hbw.trans (Below.mono hG hbw.size)
              clear H48b H24b HGb hG hTb t0 t1 t2 t3
              go_wp2_with fail
              go_roundw
              case rel => first | exact ⟨o + 1, by omega, by go_num, hb9⟩ | ((repeat apply Exists.intro); exact ⟨⟨o + 1, by omega, by go_num, hb9⟩, rfl⟩)
              case measure => (simp [intOf] <;> omega)
    · have d0 : decide ((o : Int) ≤ (al : Int)) = false := by simp; omega
      have d0b : ¬ o ≤ al := hlt
      go_wp2_with fail
      refine (works_any _ hT.out.tab).mono ?_
      rintro e w7 ⟨rfl, b7⟩
      have hk := (hT.out.to b7).below
      go_wp2
      go_ret
      exact ⟨rfl, hk⟩
end Go.Proofs.YtbhjphcomppjgaaDoor
