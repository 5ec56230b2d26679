/- Law of chapter 9: BeetleKept. -/
import Derived.Test.YtbhjphcomppjgaaDoorVf
import Derived.Test.YtbhjphcomppjgaaDoorVi
namespace Beetle09
theorem bestK_no {gd : Nat → Bool} {k : Nat} (h : gd k = false) : bestK gd (k + 1) = bestK gd k := by rw [bestK, h]; rfl
theorem bestK_first {gd : Nat → Bool} {k : Nat} (h : gd k = true) (h2 : bestK gd k = none) : bestK gd (k + 1) = some (els 25 k) := by rw [bestK, h, if_pos rfl, h2]
theorem bestK_less {gd : Nat → Bool} {k : Nat} {b : List Nat} (h : gd k = true) (h2 : bestK gd k = some b) (h3 : lessB (els 25 k) b = true) : bestK gd (k + 1) = some (els 25 k) := by rw [bestK, h, if_pos rfl, h2]; simp only [h3]; rfl
theorem bestK_keep {gd : Nat → Bool} {k : Nat} {b : List Nat} (h : gd k = true) (h2 : bestK gd k = some b) (h3 : lessB (els 25 k) b = false) : bestK gd (k + 1) = some b := by rw [bestK, h, if_pos rfl, h2]; simp only [h3]; rfl
end Beetle09
namespace Go.Proofs.YtbhjphcomppjgaaDoor
open Go.RowKit Beetle09
set_option maxHeartbeats 32000000 in
set_option maxRecDepth 100000 in
theorem BeetleKept_any (p q x y u : Nat) (w : World) (hp : p < 256) (hq : q < 256) (hx : x < 4294967296) (hy : y < 4294967296) (hu : u < 256) (hT : Tab w) : Calls Tryd.prog 15 #[floV p q x y, .int .u8 (u : Int)] w fun e w' => e = .returned (.bool true) ∧ Below w.heap.size w w' := by
  have HM := Lib.hid (made3_any p q x y true (w.alloc (.cells (floL p q x y).toArray 58)) hp hq hx hy)
  have HMO := Lib.hid (mk_open (p := p) (q := q) (x := x) (y := y) (b := true) (M := 3) (by decide) (by decide))
  have HTT := Lib.hid hT
  clear hT
  go_enter Tryd.func15, Tryd.ntmps15
  go_wp2_with fail
  refine HM.out.mono ?_
  rintro e w1 ⟨aS, nS, cS, aC, nC, cC, rfl, hS, hF, hb⟩
  obtain ⟨R, hR⟩ : ∃ R, mkN p 3 = R := ⟨_, rfl⟩
  obtain ⟨C, hC⟩ : ∃ C, mkN q 3 = C := ⟨_, rfl⟩
  rw [hR, hC] at hS hF HMO
  simp only [hR, hC]
  obtain ⟨sk, hsk⟩ : ∃ sk, mkS (R * C) x = sk := ⟨_, rfl⟩
  obtain ⟨zk, hzk⟩ : ∃ zk, mkZ true (R * C) x y = zk := ⟨_, rfl⟩
  rw [hsk] at hS HMO
  rw [hzk] at hF HMO
  simp only [hsk, hzk]
  have H0 := Lib.hid HMO.out.1
  have HOP := Lib.hid HMO.out.2
  have n25 := HOP.out.sd.n25
  have hR5 := HOP.out.sd.r5
  have hC5 := HOP.out.sd.c5
  have hs25 := HOP.out.s25
  have hz25 := HOP.out.z25
  have HL0 := Lib.hid (LwS.start (R := R) (C := C) hS hF HTT.out hb)
  clear HM HMO hS hF hb HTT hR hC hsk hzk
  obtain ⟨gS, hgS⟩ : ∃ g, w1.heap.size = g := ⟨_, rfl⟩
  obtain ⟨N, hN⟩ : ∃ N, R * C = N := ⟨_, rfl⟩
  have m1 : (R : Int) * (C : Int) = (N : Int) := by rw [← hN]; simp
  have n25' : N ≤ 25 := by rw [← hN]; exact n25
  have hN1 : 1 ≤ N := by rw [← hN]; exact HOP.out.sd.n1
  obtain ⟨V, al, hal, hal2, hV1, hV0, g1, g2, g3, g4, g5⟩ := all_facts N n25'
  have HALN : Hid (al = 2 ^ N - 1) := Lib.hid hal
  have HN := Lib.hid hN
  have i1 : IntKind.i64.wrap (u : Int) = (u : Int) := IntWalk.i64_in _ (by omega)
  have i2 : (u : Int) % (N : Int) = ((u % N : Nat) : Int) := by simp
  have i3 : ((N : Int) == 0) = false := by simp; omega
  have i4 : (0 : Int) < (N : Int) := by omega
  have i5 : ¬ (N : Int) = 0 := by omega
  have hnN := Nat.mod_lt u hN1
  obtain ⟨n, hn⟩ : ∃ n, u % N = n := ⟨_, rfl⟩
  rw [hn] at i2 hnN
  have hn25 : n < 25 := by omega
  obtain ⟨V2, hVV, hV21, k1, k2, k3⟩ := pow_facts n hn25
  obtain ⟨p1, hp1⟩ : ∃ p, al &&& (4294967295 - sk) = p := ⟨_, rfl⟩
  obtain ⟨p2, hp2⟩ : ∃ p, p1 &&& (4294967295 - zk) = p := ⟨_, rfl⟩
  obtain ⟨fr, hfr⟩ : ∃ f, p2 &&& (4294967295 - V2) = f := ⟨_, rfl⟩
  have hp1l : p1 ≤ al := by rw [← hp1]; exact Nat.and_le_left
  have hp2l : p2 ≤ p1 := by rw [← hp2]; exact Nat.and_le_left
  have hfrl : fr ≤ p2 := by rw [← hfr]; exact Nat.and_le_left
  have j1 : bits .andNot .u32 (al : Int) (sk : Int) = (p1 : Int) := by rw [u32_andNot_nat al sk (by omega) (by omega), hp1]
  have j2 : bits .andNot .u32 (p1 : Int) (zk : Int) = (p2 : Int) := by rw [u32_andNot_nat p1 zk (by omega) (by omega), hp2]
  have j3 : bits .andNot .u32 (p2 : Int) (V2 : Int) = (fr : Int) := by rw [u32_andNot_nat p2 V2 (by omega) (by omega), hfr]
  have HFR : Hid (kpF R C sk zk n = fr) := Lib.hid (by rw [kpF, del, ← hVV, allS, hN, ← hal, hp1, hp2, hfr])
  have hfr25 : fr < 2 ^ 25 := by omega
  clear hal hN hn hp1 hp2 hfr hVV hp1l hp2l hfrl
  go_wp2_with fail
  rw [hgS] at HL0
  obtain ⟨W, hW⟩ : ∃ W, ((w1.alloc (.cells #[.int .i64 (R : Int), .int .i64 (C : Int), .slice aS nS cS, .slice aC nC cC] 24)).alloc (.cells #[.int .i64 (R : Int), .int .i64 (C : Int)] 60)) = W := ⟨_, rfl⟩
  rw [hW] at HL0 ⊢
  clear hW hgS
  simp only [i2]
  have hWs := HL0.out.lt
  have HSPR := Lib.hid (fun (z2 : Nat) (w : World) (hz : z2 < 2 ^ (R * C)) => lspread_any R C sk z2 w HOP.out.sd HOP.out.rs.lt hz)
  have HLT : Hid (∀ o, o ≤ al → o < 2 ^ (R * C)) := Lib.hid fun o ho => by rw [HALN.out] at ho; rw [HN.out]; have := Nat.two_pow_pos N; omega
  have HKL := Lib.hid (kept_law HOP.out.sd HOP.out.rs.lt HOP.out.rz.lt HOP.out.dj (x := n) (by rw [HN.out]; exact hnN))
  have HTOP : Hid (al + 1 = 2 ^ (R * C)) := Lib.hid (by rw [HALN.out, HN.out]; have := Nat.two_pow_pos N; omega)
  have HKE : Hid (keepE (R : Int) (C : Int) (li (els 25 sk).reverse) (li (els 25 zk)) (n : Int) = if lostB R C sk zk n = true then 12 else 0) := Lib.hid (by
    rw [HOP.out.keep H0.out, if_neg (by rw [HN.out]; omega), Int.toNat_natCast])
  have HKP : Hid (keepE (R : Int) (C : Int) (li (els 25 sk).reverse) (li (els 25 zk)) (n : Int) = 0 → keepL (R : Int) (C : Int) (li (els 25 sk).reverse) (li (els 25 zk)) (n : Int) = li (kpL R C sk zk n)) := Lib.hid (fun h => by
    rw [HOP.out.keepl _ h, Int.toNat_natCast])
  have HGD : Hid (∀ o, kgd R C sk zk n o = (decide (o &&& (4294967295 - fr) = 0) && !(fin R C (zk ||| o) sk).testBit n)) := Lib.hid fun o => by rw [kgd, HFR.out]
  have HF25 : Hid (∀ z2, fin R C z2 sk < 2 ^ 25) := Lib.hid fun z2 => lt25 (fin_lt HOP.out.rs.lt) n25
  obtain ⟨gd, hgd⟩ : ∃ f, kgd R C sk zk n = f := ⟨_, rfl⟩
  rw [hgd] at HKL HGD
  clear g1 g2 g3 g4 g5 i1 i2 i3 i4 i5 j1 j2 j3 k1 k2 k3 m1 hV0 hV1 hV21 hgd
  go_loopw [14, 12, 13] (fun vo vf vw wr => ∃ (o : Nat) (bw : Option (List Nat)) (aW : Option Addr) (nW cW : Nat), o ≤ al + 1 ∧ vo = .int .u32 (o : Int) ∧ vf = .bool bw.isSome ∧ vw = .slice aW nW cW ∧ Hid (bestK gd o = bw) ∧ Hid (IsL wr aW nW cW (li (bw.getD []))) ∧ Below W.heap.size W wr) (fun vo _ _ _ => al + 1 - (intOf vo).toNat)
  case atStart => exact ⟨0, none, none, 0, 0, by omega, rfl, rfl, rfl, Lib.hid rfl, Lib.hid (IsL.nilL _), Below.refl _ _⟩
  case round =>
    obtain ⟨o, bw, aW, nW, cW, ho, rfl, rfl, rfl, hK, hW, hb⟩ := hrel
    have hT := Lib.hid (HL0.out.to hb)
    by_cases hlt : o ≤ al
    · have d0 : decide ((o : Int) ≤ (al : Int)) = true := by simp; omega
      have q0 : (o : Int) ≤ (al : Int) := by omega
      have ho25 : o < 2 ^ 25 := by omega
      have u1 : IntKind.u32.wrap ((o : Int) + 1) = (o : Int) + 1 := by rw [wrap_u32']; omega
      have u2 : ((o : Int) + 1) % 4294967296 = (o : Int) + 1 := by omega
      have HG := Lib.hid (HGD.out o)
      obtain ⟨y6, hy6⟩ : ∃ y, o &&& (4294967295 - fr) = y := ⟨_, rfl⟩
      have f6 : bits .andNot .u32 (o : Int) (fr : Int) = (y6 : Int) := by rw [u32_andNot_nat o fr (by omega) (by omega), hy6]
      rw [hy6] at HG
      have hPo := pcN_le 25 o
      have HLo := Lib.hid (els_len 25 o)
      have HBI := Lib.hid (bits_any o wr (by omega))
      obtain ⟨P, hPe⟩ : ∃ P, pcN 25 o = P := ⟨_, rfl⟩
      rw [hPe] at hPo HLo HBI
      clear hy6 hPe
      go_wp2_with fail
      refine HBI.out.mono ?_
      rintro e w5 ⟨aB, cB, rfl, hB, b5⟩
      have hb5 : Below W.heap.size W w5 := hb.trans (b5.mono hb.size)
      have hB5 := Lib.hid hB.isL
      have hW5 := Lib.hid (hW.out.below b5)
      have hcB := hB.isL.cap
      have hlB := hB.isL.le
      have hT5 := Lib.hid (HL0.out.to hb5)
      clear HBI hB b5 hW hT
      by_cases h6 : y6 = 0
      · subst h6
        obtain ⟨z2, hz2⟩ : ∃ z, zk ||| o = z := ⟨_, rfl⟩
        have f7 : bits .or .u32 (zk : Int) (o : Int) = (z2 : Int) := by rw [u32_or_nat zk o (by omega) (by omega), hz2]
        have hz2N : z2 < 2 ^ (R * C) := by rw [← hz2]; exact Nat.or_lt_two_pow HOP.out.rz.lt (HLT.out o hlt)
        have HZN := Lib.hid hz2N
        have HC := Lib.hid (HSPR.out z2)
        have hq25 := HF25.out z2
        rw [hz2] at HG
        obtain ⟨qq, hqq⟩ : ∃ q, fin R C z2 sk = q := ⟨_, rfl⟩
        rw [hqq] at HG HC hq25
        obtain ⟨Vq, dq, eq, hVq, hVq1, r1, r2, r3, r4⟩ := shr_facts qq n (by omega) hn25
        obtain ⟨B, hBq⟩ : ∃ B, qq.testBit n = B := ⟨_, rfl⟩
        rw [hBq] at r4 HG
        have z0 := val hT5.out.pl 0 rfl
        have z1 := val hT5.out.pl 1 rfl
        clear hz2 hz2N hqq hBq hVq
        cases B with
        | true =>
          have HN2 : Hid (bestK gd (o + 1) = bw) := Lib.hid (by rw [bestK_no (by rw [HG.out]; rfl)]; exact hK.out)
          go_wp2_with fail
          refine (HC.out _ HZN.out).mono ?_
          rintro e w6 ⟨rfl, b6⟩
          have hb6 : Below W.heap.size W w6 := hb5.trans (b6.mono hb5.size)
          have hW6 := Lib.hid (hW5.out.below b6)
          clear b6 hW5 hB5 z0 z1 HC hK
          go_wp2_with fail
          go_roundw
          case rel => first | exact ⟨o + 1, bw, aW, nW, cW, by omega, by go_num, rfl, rfl, HN2, hW6, hb6⟩ | ((repeat apply Exists.intro); exact ⟨⟨o + 1, bw, aW, nW, cW, by omega, by go_num, rfl, rfl, HN2, hW6, hb6⟩, rfl⟩)
          case measure => (simp [intOf] <;> omega)
        | false =>
          have HGT : Hid (gd o = true) := Lib.hid (by rw [HG.out]; rfl)
          cases bw with
          | none =>
            have HN2 : Hid (bestK gd (o + 1) = some (els 25 o)) := Lib.hid (bestK_first HGT.out hK.out)
            go_wp2_with fail
            refine (HC.out _ HZN.out).mono ?_
            rintro e w6 ⟨rfl, b6⟩
            have hb6 : Below W.heap.size W w6 := hb5.trans (b6.mono hb5.size)
            have hB6 : Hid (IsL w6 aB P cB (li ((some (els 25 o)).getD []))) := Lib.hid (hB5.out.below b6)
            clear b6 hW5 hB5 z0 z1 HC hK
            go_wp2_with fail
            go_roundw
            case rel => first | exact ⟨o + 1, some (els 25 o), aB, P, cB, by omega, by go_num, rfl, rfl, HN2, hB6, hb6⟩ | ((repeat apply Exists.intro); exact ⟨⟨o + 1, some (els 25 o), aB, P, cB, by omega, by go_num, rfl, rfl, HN2, hB6, hb6⟩, rfl⟩)
            case measure => (simp [intOf] <;> omega)
          | some bb =>
            have hnW : nW = bb.length := by rw [← hW5.out.len, li_len]; rfl
            have HNW := Lib.hid hnW
            have hcW := hW5.out.cap
            have hlW := hW5.out.le
            clear hnW
            by_cases l1 : P < nW
            · have v1 : decide ((P : Int) < (nW : Int)) = true := by simp; omega
              have HN2 : Hid (bestK gd (o + 1) = some (els 25 o)) := Lib.hid (bestK_less HGT.out hK.out (by rw [lessB, HLo.out, ← HNW.out, decide_eq_true l1, Bool.true_or]))
              go_wp2_with fail
              refine (HC.out _ HZN.out).mono ?_
              rintro e w6 ⟨rfl, b6⟩
              have hb6 : Below W.heap.size W w6 := hb5.trans (b6.mono hb5.size)
              have hB6 : Hid (IsL w6 aB P cB (li ((some (els 25 o)).getD []))) := Lib.hid (hB5.out.below b6)
              clear b6 hW5 hB5 z0 z1 HC hK
              go_wp2_with fail
              go_roundw
              case rel => first | exact ⟨o + 1, some (els 25 o), aB, P, cB, by omega, by go_num, rfl, rfl, HN2, hB6, hb6⟩ | ((repeat apply Exists.intro); exact ⟨⟨o + 1, some (els 25 o), aB, P, cB, by omega, by go_num, rfl, rfl, HN2, hB6, hb6⟩, rfl⟩)
              case measure => (simp [intOf] <;> omega)
            · have v1 : decide ((P : Int) < (nW : Int)) = false := by simp; omega
              have v1b : decide (P < nW) = false := decide_eq_false l1
              by_cases l2 : P = nW
              · subst l2
                have v2 : ((P : Int) == (P : Int)) = true := by simp
                obtain ⟨E, hE⟩ : ∃ E, cmpL (li (els 25 o)) (li bb) = E := ⟨_, rfl⟩
                have HCM : Hid (∀ w' : World, IsL w' aB P cB (li (els 25 o)) → IsL w' aW P cW (li bb) → Calls Tryd.prog 52 #[.slice aB P cB, .slice aW P cW] w' fun e w2 => e = .returned (.int .i64 E) ∧ w' = w2) := Lib.hid fun w' h1 h2 => by rw [← hE]; exact Compare_any aB aW P cB P cW _ _ w' h1 h2
                have HLB : Hid (lessB (els 25 o) bb = decide (E < 0)) := Lib.hid (by rw [lessB, HLo.out, ← HNW.out, hE]; simp)
                have hEb := cmpL_bd (li (els 25 o)) (li bb)
                rw [hE] at hEb
                obtain ⟨hE1, hE2⟩ := hEb
                clear hE
                by_cases l3 : E < 0
                · have v3 : decide (E < 0) = true := by simpa using l3
                  have HN2 : Hid (bestK gd (o + 1) = some (els 25 o)) := Lib.hid (bestK_less HGT.out hK.out (by rw [HLB.out, v3]))
                  go_wp2_with fail
                  refine (HC.out _ HZN.out).mono ?_
                  rintro e w6 ⟨rfl, b6⟩
                  have hb6 : Below W.heap.size W w6 := hb5.trans (b6.mono hb5.size)
                  have hB6 : Hid (IsL w6 aB P cB (li ((some (els 25 o)).getD []))) := Lib.hid (hB5.out.below b6)
                  have hW6 := Lib.hid (hW5.out.below b6)
                  clear b6 hW5 hB5 z0 z1 HC hK
                  go_wp2_with fail
                  refine (HCM.out _ hB6.out hW6.out).mono ?_
                  rintro e w7 ⟨rfl, rfl⟩
                  clear hW6
                  go_wp2_with fail
                  go_roundw
                  case rel => first | exact ⟨o + 1, some (els 25 o), aB, P, cB, by omega, by go_num, rfl, rfl, HN2, hB6, hb6⟩ | ((repeat apply Exists.intro); exact ⟨⟨o + 1, some (els 25 o), aB, P, cB, by omega, by go_num, rfl, rfl, HN2, hB6, hb6⟩, rfl⟩)
                  case measure => (simp [intOf] <;> omega)
                · have v3 : decide (E < 0) = false := by simpa using l3
                  have HN2 : Hid (bestK gd (o + 1) = some bb) := Lib.hid (bestK_keep HGT.out hK.out (by rw [HLB.out, v3]))
                  go_wp2_with fail
                  refine (HC.out _ HZN.out).mono ?_
                  rintro e w6 ⟨rfl, b6⟩
                  have hb6 : Below W.heap.size W w6 := hb5.trans (b6.mono hb5.size)
                  have hB6 := Lib.hid (hB5.out.below b6)
                  have hW6 : Hid (IsL w6 aW P cW (li ((some bb).getD []))) := Lib.hid (hW5.out.below b6)
                  clear b6 hW5 hB5 z0 z1 HC hK
                  go_wp2_with fail
                  refine (HCM.out _ hB6.out hW6.out).mono ?_
                  rintro e w7 ⟨rfl, rfl⟩
                  clear hB6
                  go_wp2_with fail
                  go_roundw
                  case rel => first | exact ⟨o + 1, some bb, aW, P, cW, by omega, by go_num, rfl, rfl, HN2, hW6, hb6⟩ | ((repeat apply Exists.intro); exact ⟨⟨o + 1, some bb, aW, P, cW, by omega, by go_num, rfl, rfl, HN2, hW6, hb6⟩, rfl⟩)
                  case measure => (simp [intOf] <;> omega)
              · have v2 : ((P : Int) == (nW : Int)) = false := by simp; omega
                have HN2 : Hid (bestK gd (o + 1) = some bb) := Lib.hid (bestK_keep HGT.out hK.out (by rw [lessB, HLo.out, ← HNW.out, decide_eq_false l1, decide_eq_false l2]; rfl))
                go_wp2_with fail
                refine (HC.out _ HZN.out).mono ?_
                rintro e w6 ⟨rfl, b6⟩
                have hb6 : Below W.heap.size W w6 := hb5.trans (b6.mono hb5.size)
                have hW6 : Hid (IsL w6 aW nW cW (li ((some bb).getD []))) := Lib.hid (hW5.out.below b6)
                clear b6 hW5 hB5 z0 z1 HC hK
                go_wp2_with fail
                go_roundw
                case rel => first | exact ⟨o + 1, some bb, aW, nW, cW, by omega, by go_num, rfl, rfl, HN2, hW6, hb6⟩ | ((repeat apply Exists.intro); exact ⟨⟨o + 1, some bb, aW, nW, cW, by omega, by go_num, rfl, rfl, HN2, hW6, hb6⟩, rfl⟩)
                case measure => (simp [intOf] <;> omega)
      · have v6 : ((y6 : Int) != 0) = true := by simp; omega
        have v6b : ((y6 : Int) == 0) = false := by simp; omega
        have HN2 : Hid (bestK gd (o + 1) = bw) := Lib.hid (by rw [bestK_no (by rw [HG.out, decide_eq_false h6]; rfl)]; exact hK.out)
        clear hB5 hK HG h6
        go_wp2_with fail
        go_roundw
        case rel => first | exact ⟨o + 1, bw, aW, nW, cW, by omega, by go_num, rfl, rfl, HN2, hW5, hb5⟩ | ((repeat apply Exists.intro); exact ⟨⟨o + 1, bw, aW, nW, cW, by omega, by go_num, rfl, rfl, HN2, hW5, hb5⟩, rfl⟩)
        case measure => (simp [intOf] <;> omega)
    · obtain rfl : o = al + 1 := by omega
      have d0 : decide (((al + 1 : Nat) : Int) ≤ (al : Int)) = false := by simp; omega
      have d0b : ¬ al + 1 ≤ al := by omega
      have hbw : bw = if lostB R C sk zk n = true then none else some (kpL R C sk zk n) := by rw [← HKL.out, ← HTOP.out]; exact hK.out.symm
      have t0 := val hT.out.st 0 rfl
      have t1 := val hT.out.st 1 rfl
      have t2 := val hT.out.st 2 rfl
      have t3 := val hT.out.st 3 rfl
      cases hl : lostB R C sk zk n with
      | true =>
        rw [hl, if_pos rfl] at hbw
        have HV : Hid (keepE (R : Int) (C : Int) (li (els 25 sk).reverse) (li (els 25 zk)) (n : Int) = 12) := Lib.hid (by rw [HKE.out, hl]; rfl)
        have HV2 : Hid (keepL (R : Int) (C : Int) (li (els 25 sk).reverse) (li (els 25 zk)) (n : Int) = []) := Lib.hid (keepl_bad (by rw [HV.out]; decide))
        subst hbw
        clear hl hlt
        go_wp2_with fail
        refine (Keep_c hT.out.iS hT.out.iF hT.out.tab (n : Int) HV.out HV2.out).mono ?_
        rintro e w5 ⟨ak, nk, ck, rfl, hk, b5⟩
        obtain rfl : 0 = nk := hk.len
        have HT5 := Lib.hid (hT.out.to b5)
        clear t0 t1 t2 t3 hT hk b5
        go_wp2_with fail
        refine (works_any _ HT5.out.tab).mono ?_
        rintro e w7 ⟨rfl, b7⟩
        have hk := (HT5.out.to b7).below
        go_wp2
        go_ret
        exact ⟨rfl, hk⟩
      | false =>
        rw [hl, if_neg (by simp)] at hbw
        have HV : Hid (keepE (R : Int) (C : Int) (li (els 25 sk).reverse) (li (els 25 zk)) (n : Int) = 0) := Lib.hid (by rw [HKE.out, hl]; rfl)
        have HV2 := Lib.hid (HKP.out HV.out)
        subst hbw
        clear hl hlt
        go_wp2_with fail
        refine (Keep_c hT.out.iS hT.out.iF hT.out.tab (n : Int) HV.out HV2.out).mono ?_
        rintro e w5 ⟨ak, nk, ck, rfl, hk, b5⟩
        have HT5 := Lib.hid (hT.out.to b5)
        have hW5 := hW.out.below b5
        clear t0 t1 t2 t3 hT b5
        go_wp2_with fail
        refine (same_c hk hW5).mono ?_
        rintro e w6 ⟨rfl, b6⟩
        have HT6 := Lib.hid (HT5.out.to b6)
        clear HT5
        go_wp2_with fail
        refine (works_any _ HT6.out.tab).mono ?_
        rintro e w7 ⟨rfl, b7⟩
        have hk := (HT6.out.to b7).below
        go_wp2
        go_ret
        exact ⟨rfl, hk⟩
end Go.Proofs.YtbhjphcomppjgaaDoor
