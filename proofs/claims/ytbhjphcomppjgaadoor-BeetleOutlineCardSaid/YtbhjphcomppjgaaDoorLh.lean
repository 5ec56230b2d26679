/- Law of chapter 9: BeetleOutline. -/
import Derived.Test.YtbhjphcomppjgaaDoorVf
import Derived.Test.YtbhjphcomppjgaaDoorVi
import Derived.Test.YtbhjphcomppjgaaDoorPu
namespace Go.Proofs.YtbhjphcomppjgaaDoor
open Go.RowKit Beetle09
set_option maxHeartbeats 32000000 in
set_option maxRecDepth 100000 in
theorem BeetleOutline_any (p q x y : Nat) (w : World) (hp : p < 256) (hq : q < 256) (hx : x < 4294967296) (hy : y < 4294967296) (hT : Tab w) : Calls Tryd.prog 13 #[floV p q x y] w fun e w' => e = .returned (.bool true) ∧ Below w.heap.size w w' := by
  have HM := Lib.hid (made5_any p q x y true (w.alloc (.cells (floL p q x y).toArray 58)) hp hq hx hy)
  have HMO := Lib.hid (mk_open (p := p) (q := q) (x := x) (y := y) (b := true) (M := 5) (by decide) (by decide))
  have HTT := Lib.hid hT
  clear hT
  go_enter Tryd.func13, Tryd.ntmps13
  go_wp2_with fail
  refine HM.out.mono ?_
  rintro e w1 ⟨aS, nS, cS, aC, nC, cC, rfl, hS, hF, hb⟩
  obtain ⟨R, hR⟩ : ∃ R, mkN p 5 = R := ⟨_, rfl⟩
  obtain ⟨C, hC⟩ : ∃ C, mkN q 5 = C := ⟨_, rfl⟩
  rw [hR, hC] at hS hF HMO
  simp only [hR, hC]
  obtain ⟨sk, hsk⟩ : ∃ sk, mkS (R * C) x = sk := ⟨_, rfl⟩
  obtain ⟨zk, hzk⟩ : ∃ zk, mkZ true (R * C) x y = zk := ⟨_, rfl⟩
  rw [hsk] at hS HMO
  rw [hzk] at hF HMO
  simp only [hsk, hzk]
  have H0 := Lib.hid HMO.out.1
  have HOP := Lib.hid HMO.out.2
  have n25 := HOP.out.sd.n25
  have hR5 := HOP.out.sd.r5
  have hC5 := HOP.out.sd.c5
  have hs25 := HOP.out.s25
  have hz25 := HOP.out.z25
  have HL0 := Lib.hid (LwS.start (R := R) (C := C) hS hF HTT.out hb)
  clear HM HMO hS hF hb HTT hR hC hsk hzk
  obtain ⟨gS, hgS⟩ : ∃ g, w1.heap.size = g := ⟨_, rfl⟩
  go_wp2_with fail
  rw [hgS] at HL0
  obtain ⟨W, hW⟩ : ∃ W, ((w1.alloc (.cells #[.int .i64 (R : Int), .int .i64 (C : Int), .slice aS nS cS, .slice aC nC cC] 24)).alloc (.cells #[.int .i64 (R : Int), .int .i64 (C : Int)] 60)) = W := ⟨_, rfl⟩
  rw [hW] at HL0 ⊢
  clear hW hgS
  have hWs := HL0.out.lt
  have HSD := Lib.hid HOP.out.sd
  have HOX := Lib.hid (HOP.out.out1 H0.out)
  have HOY := Lib.hid (HOP.out.out2 H0.out)
  have HLE := Lib.hid (outl_fin (z := zk) (s := sk) HOP.out.sd)
  have HFN := Lib.hid (fin_lt (R := R) (C := C) (z := zk) HOP.out.rs.lt)
  have HSPR := Lib.hid (fun (s z : Nat) (w : World) (hs : s < 2 ^ (R * C)) (hz : z < 2 ^ (R * C)) => lspread_any R C s z w HOP.out.sd hs hz)
  have HOU := Lib.hid (fun (s : Nat) (w : World) (hs : s < 2 ^ (R * C)) => loutline_any R C s w HOP.out.sd hs)
  have HPF := Lib.hid (fun (o : Nat) (ho : o < 2 ^ (R * C)) => plan_first (o := o) HOP.out.sd ho)
  have HPO := Lib.hid (plL_ok HOP.out.sd)
  have HPG := Lib.hid (fun (i : Nat) (hi : i < (Beetle09.plL R C).length) => plL_get HOP.out.sd hi)
  have HPA := Lib.hid (fun (i : Nat) (hi : i + 1 < (Beetle09.plL R C).length) => plL_asc HOP.out.sd hi)
  have HTK := Lib.hid (fun (i : Nat) (hi : i < (Beetle09.plL R C).length) => setL_take hi)
  have HPS : Hid (setL (Beetle09.plL R C) < 2 ^ (R * C)) := Lib.hid (setL_lt fun i hi => (mem_els.1 (HPO.out.2.1.subset hi)).1)
  have hR1 := HOP.out.sd.r1
  have hC1 := HOP.out.sd.c1
  have HLC : Hid (∀ w : World, Calls Tryd.prog 26 #[.int .i64 (R : Int), .int .i64 (C : Int)] w fun e w' => e = .returned (.tuple #[.int .i64 ((leastN R C : Nat) : Int), .int .i64 0]) ∧ w = w') := Lib.hid fun w => Least_c w (by rw [sd_sdB HSD.out, if_pos rfl, leastN]; omega) (by rw [sd_sdB HSD.out, if_pos rfl])
  have HPC : Hid (∀ w : World, Tab w → Calls Tryd.prog 28 #[.int .i64 (R : Int), .int .i64 (C : Int)] w (LP 0 (li (Beetle09.plL R C)) w)) := Lib.hid fun w hT => Plant_c hT (by rw [sd_sdB HSD.out, if_pos rfl]) (by rw [plantE, sd_sdB HSD.out, if_pos rfl]; rfl)
  obtain ⟨lN, hlN⟩ : ∃ l, leastN R C = l := ⟨_, rfl⟩
  have hl5 : lN ≤ 5 := by rw [← hlN]; exact leastN_le HSD.out
  have HLN : Hid (leastN R C = lN) := Lib.hid hlN
  have e1 : ((R : Int) + (C : Int) + 1) / 2 = (lN : Int) := by rw [← hlN, leastN]; omega
  rw [hlN] at HLC HPF HPO
  obtain ⟨N, hN⟩ : ∃ N, R * C = N := ⟨_, rfl⟩
  have HN := Lib.hid hN
  have m1 : (R : Int) * (C : Int) = (N : Int) := by rw [← hN]; simp
  have n25' : N ≤ 25 := by rw [← hN]; exact n25
  obtain ⟨V, al, hal, hal2, hV1, hV0, g1, g2, g3, g4, g5⟩ := all_facts N n25'
  have HAL : Hid (allS R C = al) := Lib.hid (by rw [allS, hN, hal])
  have HALN : Hid (∀ o, o ≤ al → o < 2 ^ (R * C)) := Lib.hid fun o ho => by rw [hN]; have := Nat.two_pow_pos N; omega
  have HF25 : Hid (∀ s z, s < 2 ^ (R * C) → fin R C z s < 2 ^ 25) := Lib.hid fun s z h => lt25 (fin_lt h) n25
  rw [HAL.out] at HPF
  obtain ⟨X, hX⟩ : ∃ X, outl R C sk = X := ⟨_, rfl⟩
  obtain ⟨Y, hY⟩ : ∃ Y, outl R C (fin R C zk sk) = Y := ⟨_, rfl⟩
  obtain ⟨fq, hfq⟩ : ∃ q, fin R C zk sk = q := ⟨_, rfl⟩
  have HX := Lib.hid hX
  have HY : Hid (outl R C fq = Y) := Lib.hid (by rw [← hfq]; exact hY)
  have HFQ := Lib.hid hfq
  rw [hX] at HOX HLE
  rw [hY] at HOY HLE
  rw [hfq] at HFN
  have tX : (X != X) = false := by simp
  have tY : (Y != Y) = false := by simp
  have tXY : decide (X < Y) = false := by have := HLE.out; simp; omega
  have t0 := val HL0.out.st 0 rfl
  have t1 := val HL0.out.st 1 rfl
  have t2 := val HL0.out.st 2 rfl
  have t3 := val HL0.out.st 3 rfl
  clear hal hN hlN hX hY hfq
  refine (Outline_c HL0.out.iS HL0.out.iF HL0.out.tab H0.out HOX.out HOY.out).mono ?_
  rintro e Wp ⟨rfl, b2⟩
  have HL2 := Lib.hid (HL0.out.to b2)
  clear t0 t1 t2 t3
  have z0 := val HL2.out.pl 0 rfl
  have z1 := val HL2.out.pl 1 rfl
  have H51a : Hid (∀ w', GoodW Wp w' → Calls Tryd.prog 51 #[plV R C, .int .u32 (sk : Int)] w' fun e w2 => e = .returned (.int .i64 X) ∧ GoodW Wp w2) := Lib.hid fun w' h => (HOU.out sk w' HOP.out.rs.lt).mono fun _ _ ⟨he, hb⟩ => ⟨by rw [he, HX.out], h.to hb⟩
  have H51b : Hid (∀ w', GoodW Wp w' → Calls Tryd.prog 51 #[plV R C, .int .u32 (fq : Int)] w' fun e w2 => e = .returned (.int .i64 Y) ∧ GoodW Wp w2) := Lib.hid fun w' h => (HOU.out fq w' HFN.out).mono fun _ _ ⟨he, hb⟩ => ⟨by rw [he, HY.out], h.to hb⟩
  have H49 : Hid (∀ w', GoodW Wp w' → Calls Tryd.prog 49 #[plV R C, .int .u32 (sk : Int), .int .u32 (zk : Int)] w' fun e w2 => e = .returned (.int .u32 (fq : Int)) ∧ GoodW Wp w2) := Lib.hid fun w' h => (HSPR.out sk zk w' HOP.out.rs.lt HOP.out.rz.lt).mono fun _ _ ⟨he, hb⟩ => ⟨by rw [he, HFQ.out], h.to hb⟩
  have HG0 : GoodW Wp Wp.drew := (Below.refl _ _).drew
  go_wp2_with fail
  go_region_held3 (fun w' => w'.cell? ⟨gS + 1, 0, none⟩ = some (.int .i64 (R : Int)) ∧ w'.cell? ⟨gS + 1, 1, none⟩ = some (.int .i64 (C : Int))) (first | go_keep | exact ⟨hG.cell z0, hG.cell z1⟩)
    (first
      | ((go_at_call 51; with_reducible refine (H51a.out _ ?_).mono ?_; assumption; rintro e w5 ⟨rfl, hG⟩))
      | ((go_at_call 51; with_reducible refine (H51b.out _ ?_).mono ?_; assumption; rintro e w5 ⟨rfl, hG⟩))
      | ((go_at_call 49; with_reducible refine (H49.out _ ?_).mono ?_; assumption; rintro e w5 ⟨rfl, hG⟩)))
  have b5 : Below W.heap.size W w5 := b2.trans (Below.mono hG b2.size)
  have HL5 := Lib.hid (HL0.out.to b5)
  clear z0 z1 HL2 b2 hG HG0 H51a H51b H49 tX tY tXY HOX HOY HX HY HLE HFN HOU
  have z0 := val HL5.out.pl 0 rfl
  have z1 := val HL5.out.pl 1 rfl
  go_wp2_with fail
  refine (HLC.out _).mono ?_
  rintro e w6 ⟨rfl, rfl⟩
  go_wp2_with fail
  refine (HPC.out _ HL5.out.tab).mono ?_
  rintro e w6 ⟨aL, nL, cL, rfl, hL6, b6⟩
  have hk6 : Below W.heap.size W w6 := b5.trans (b6.mono b5.size)
  have HI6 := Lib.hid hL6
  have hnL := hL6.len
  rw [li_len, HPO.out.2.2.1] at hnL
  obtain rfl : nL = lN := hnL.symm
  have hcL := hL6.cap
  have hlL := hL6.le
  have HL6 := Lib.hid (HL0.out.to hk6)
  have HPL : Hid ((Beetle09.plL R C).length = nL) := Lib.hid HPO.out.2.2.1
  clear z0 z1 HL5 b6 b5 hL6 hnL HLC HPC
  have z0 := val HL6.out.pl 0 rfl
  have z1 := val HL6.out.pl 1 rfl
  obtain ⟨W6, rfl⟩ : ∃ W, W = w6 := ⟨_, rfl⟩
  obtain ⟨PL, hPL⟩ : ∃ P, Beetle09.plL R C = P := ⟨_, rfl⟩
  rw [hPL] at HPG HPA HTK HPS HPL HI6 HPO
  simp only [hPL] at HPF
  have e2 : ((nL : Int) != (nL : Int)) = false := by simp
  clear hPL
  go_wp2_with fail
  go_loopw [104, 14] (fun vi vs wr => ∃ i q : Nat, i ≤ nL ∧ vi = .int .i64 (i : Int) ∧ vs = .int .u32 (q : Int) ∧ Hid (setL (PL.take i) = q ∧ q < 2 ^ 25) ∧ W6 = wr) (fun vi _ _ => nL - (intOf vi).toNat)
  case atStart => exact ⟨0, 0, by omega, rfl, rfl, Lib.hid ⟨rfl, by decide⟩, by first | trivial | rfl⟩
  case round =>
    obtain ⟨i, q, hi, rfl, rfl, hQ, rfl⟩ := hrel
    by_cases hlt : i < nL
    · have q0 : (i : Int) < (nL : Int) := by omega
      obtain ⟨b, off, rfl, _, hc⟩ := HI6.out.cells (by omega)
      have y1 := hc i hlt
      rw [li_get] at y1
      have hvN := HPG.out i (by rw [HPL.out]; exact hlt)
      have HT := Lib.hid (HTK.out i (by rw [HPL.out]; exact hlt))
      have hprev : 0 < i → ∃ u : Nat, W6.cell? ⟨b, off + (i - 1), none⟩ = some (.int .i64 (u : Int)) ∧ u < PL.getD i 0 := fun h => by
        have h2 := HPA.out (i - 1) (by rw [HPL.out]; omega)
        have h3 := hc (i - 1) (by omega)
        rw [li_get] at h3
        rw [show i - 1 + 1 = i by omega] at h2
        exact ⟨_, h3, h2⟩
      obtain ⟨v, hv⟩ : ∃ v, PL.getD i 0 = v := ⟨_, rfl⟩
      rw [hv] at y1 hvN HT hprev
      rw [HN.out] at hvN
      have hv25 : v < 25 := by omega
      obtain ⟨V1, r1, hr1, hr125, hV11, k2, k3, k4, k5⟩ := or_facts q v hQ.out.2 hv25
      have HQ2 : Hid (setL (PL.take (i + 1)) = r1 ∧ r1 < 2 ^ 25) := Lib.hid ⟨by rw [HT.out, hQ.out.1, hr1], hr125⟩
      have v0 : decide ((v : Int) < 0) = false := by simp
      have v1 : decide ((N : Int) ≤ (v : Int)) = false := by simp; omega
      have v1b : ¬ N ≤ v := by omega
      clear hc hv hr1 hr125 hQ HT
      by_cases hi0 : 0 < i
      · obtain ⟨u, hu1, hu2⟩ := hprev hi0
        have v2 : decide ((0 : Int) < (i : Int)) = true := by simp; omega
        have v3 : decide ((v : Int) ≤ (u : Int)) = false := by simp; omega
        have v3b : ¬ v ≤ u := by omega
        have v4 : (i : Int) - 1 = ((i - 1 : Nat) : Int) := by omega
        have v5 : i - 1 < nL := by omega
        obtain ⟨i', hi'⟩ : ∃ i', i - 1 = i' := ⟨_, rfl⟩
        rw [hi'] at hu1 v4 v5
        have v6 : (i' : Int) < (nL : Int) := by omega
        clear hprev hi' hu2
        go_wp2_with fail
        go_roundw
        case rel => first | exact ⟨i + 1, r1, by omega, by go_num, rfl, HQ2, by first | trivial | rfl⟩ | ((repeat apply Exists.intro); exact ⟨⟨i + 1, r1, by omega, by go_num, rfl, HQ2, by first | trivial | rfl⟩, rfl⟩)
        case measure => (simp [intOf] <;> omega)
      · have v2 : decide ((0 : Int) < (i : Int)) = false := by simp; omega
        clear hprev
        go_wp2_with fail
        go_roundw
        case rel => first | exact ⟨i + 1, r1, by omega, by go_num, rfl, HQ2, by first | trivial | rfl⟩ | ((repeat apply Exists.intro); exact ⟨⟨i + 1, r1, by omega, by go_num, rfl, HQ2, by first | trivial | rfl⟩, rfl⟩)
        case measure => (simp [intOf] <;> omega)
    · obtain rfl : i = nL := by omega
      have HQF : Hid (setL PL = q) := Lib.hid (by rw [← hQ.out.1, List.take_of_length_le (by rw [HPL.out]; exact Nat.le_refl _)])
      have HGQ : Hid (fin R C 0 q = al) := Lib.hid (by have := of_decide_eq_true HPO.out.2.2.2; rw [HQF.out, HAL.out] at this; exact this)
      have HQN : Hid (q < 2 ^ (R * C)) := Lib.hid (by rw [← HQF.out]; exact HPS.out)
      have HCQ := Lib.hid (fun w => HSPR.out q 0 w HQN.out (Nat.two_pow_pos _))
      rw [HGQ.out] at HCQ
      have e3 : ((al : Int) != (al : Int)) = false := by simp
      clear hQ
      go_wp2_with fail
      refine (HCQ.out _).mono ?_
      rintro e w7 ⟨rfl, b7⟩
      have hk7 : Below W.heap.size W w7 := hk6.trans (b7.mono hk6.size)
      have HI7 := Lib.hid (HI6.out.below b7)
      have HL7 := Lib.hid (HL0.out.to hk7)
      clear z0 z1 HL6 b7 hk6 HCQ HI6
      have z0 := val HL7.out.pl 0 rfl
      have z1 := val HL7.out.pl 1 rfl
      by_cases h12 : 12 < N
      · have v0 : decide ((12 : Int) < (N : Int)) = true := by simp; omega
        go_wp2_with fail
        refine (works_any _ HL7.out.tab).mono ?_
        rintro e w9 ⟨rfl, b9⟩
        have hk := (HL0.out.to (hk7.trans (b9.mono hk7.size))).below
        go_wp2
        go_ret
        exact ⟨rfl, hk⟩
      · have v0 : decide ((12 : Int) < (N : Int)) = false := by simp; omega
        obtain ⟨W7, rfl⟩ : ∃ W, W = w7 := ⟨_, rfl⟩
        go_wp2_with fail
        go_loopw [17] (fun vo wr => ∃ o : Nat, o ≤ al + 1 ∧ vo = .int .u32 (o : Int) ∧ Hid (IsL wr aL i cL (li PL)) ∧ Below W.heap.size W wr) (fun vo _ => al + 1 - (intOf vo).toNat)
        case atStart => exact ⟨0, by omega, rfl, HI7, hk7⟩
        case round =>
          clear HI7 hk7 z0 z1 HL7
          obtain ⟨o, ho, rfl, hI, hb⟩ := hrel
          have hT := Lib.hid (HL0.out.to hb)
          by_cases hlo : o ≤ al
          · have d0 : decide ((o : Int) ≤ (al : Int)) = true := by simp; omega
            have q0 : (o : Int) ≤ (al : Int) := by omega
            have u1' : IntKind.u32.wrap ((o : Int) + 1) = (o : Int) + 1 := by rw [wrap_u32']; omega
            have u2' : ((o : Int) + 1) % 4294967296 = (o : Int) + 1 := by omega
            have HON := Lib.hid (HALN.out o hlo)
            have HBI := Lib.hid (bits_any o wr (by omega))
            have hPo := pcN_le 25 o
            have HLo := Lib.hid (els_len 25 o)
            have HPFo := Lib.hid (HPF.out o HON.out)
            obtain ⟨E, hE⟩ : ∃ E, cmpL (li (els 25 o)) (li PL) = E := ⟨_, rfl⟩
            have HCM : Hid (∀ (a : Option Addr) (n c : Nat) (w' : World), IsL w' a n c (li (els 25 o)) → IsL w' aL i cL (li PL) → Calls Tryd.prog 52 #[.slice a n c, .slice aL i cL] w' fun e w2 => e = .returned (.int .i64 E) ∧ w' = w2) := Lib.hid fun a n c w' h1 h2 => by rw [← hE]; exact Compare_any a aL n c i cL _ _ w' h1 h2
            have hEb := cmpL_bd (li (els 25 o)) (li PL)
            rw [hE] at HPFo hEb
            obtain ⟨hE1, hE2⟩ := hEb
            obtain ⟨P, hPe⟩ : ∃ P, pcN 25 o = P := ⟨_, rfl⟩
            rw [hPe] at hPo HLo HBI
            rw [HLo.out] at HPFo
            have HCO := Lib.hid (fun w => HSPR.out o 0 w HON.out (Nat.two_pow_pos _))
            have hq25 := HF25.out o 0 HON.out
            obtain ⟨qo, hqo⟩ : ∃ q, fin R C 0 o = q := ⟨_, rfl⟩
            rw [hqo] at HPFo HCO hq25
            clear hE hPe hqo
            go_wp2_with fail
            refine HBI.out.mono ?_
            rintro e w8 ⟨aB, cB, rfl, hB, b8⟩
            have hb8 : Below W.heap.size W w8 := hb.trans (b8.mono hb.size)
            have hI8 := Lib.hid (hI.out.below b8)
            have hB8 := Lib.hid hB.isL
            have hcB := hB.isL.cap
            have hlB := hB.isL.le
            have hT8 := Lib.hid (HL0.out.to hb8)
            clear HBI hB b8 hI hT
            have z0 := val hT8.out.pl 0 rfl
            have z1 := val hT8.out.pl 1 rfl
            by_cases l1 : i < P
            · have v1 : decide ((i : Int) < (P : Int)) = true := by simp; omega
              clear HPFo hB8
              go_wp2_with fail
              go_roundw
              case rel => first | exact ⟨o + 1, by omega, by go_num, hI8, hb8⟩ | ((repeat apply Exists.intro); exact ⟨⟨o + 1, by omega, by go_num, hI8, hb8⟩, rfl⟩)
              case measure => (simp [intOf] <;> omega)
            · have v1 : decide ((i : Int) < (P : Int)) = false := by simp; omega
              have v1b : decide (i < P) = false := decide_eq_false l1
              by_cases l2 : P = i
              · subst l2
                have v2 : ((P : Int) == (P : Int)) = true := by simp
                by_cases l3 : 0 ≤ E
                · have v3 : decide (0 ≤ E) = true := by simpa using l3
                  go_wp2_with fail
                  refine (HCM.out _ _ _ _ hB8.out hI8.out).mono ?_
                  rintro e w9 ⟨rfl, rfl⟩
                  clear HPFo hB8
                  go_wp2_with fail
                  go_roundw
                  case rel => first | exact ⟨o + 1, by omega, by go_num, hI8, hb8⟩ | ((repeat apply Exists.intro); exact ⟨⟨o + 1, by omega, by go_num, hI8, hb8⟩, rfl⟩)
                  case measure => (simp [intOf] <;> omega)
                · have v3 : decide (0 ≤ E) = false := by simpa using l3
                  have hne := HPFo.out l1 (fun _ => by omega)
                  have v4 : ((qo : Int) == (al : Int)) = false := by simp; omega
                  go_wp2_with fail
                  refine (HCM.out _ _ _ _ hB8.out hI8.out).mono ?_
                  rintro e w9 ⟨rfl, rfl⟩
                  go_wp2_with fail
                  refine (HCO.out _).mono ?_
                  rintro e w10 ⟨rfl, b10⟩
                  have hb10 : Below W.heap.size W w10 := hb8.trans (b10.mono hb8.size)
                  have hI10 := Lib.hid (hI8.out.below b10)
                  clear HPFo hB8 hI8 b10 hb8 hT8 z0 z1 hne
                  go_wp2_with fail
                  go_roundw
                  case rel => first | exact ⟨o + 1, by omega, by go_num, hI10, hb10⟩ | ((repeat apply Exists.intro); exact ⟨⟨o + 1, by omega, by go_num, hI10, hb10⟩, rfl⟩)
                  case measure => (simp [intOf] <;> omega)
              · have v2 : ((P : Int) == (i : Int)) = false := by simp; omega
                have hne := HPFo.out l1 (fun h => absurd h l2)
                have v4 : ((qo : Int) == (al : Int)) = false := by simp; omega
                go_wp2_with fail
                refine (HCO.out _).mono ?_
                rintro e w10 ⟨rfl, b10⟩
                have hb10 : Below W.heap.size W w10 := hb8.trans (b10.mono hb8.size)
                have hI10 := Lib.hid (hI8.out.below b10)
                clear HPFo hB8 hI8 b10 hb8 hT8 z0 z1 hne
                go_wp2_with fail
                go_roundw
                case rel => first | exact ⟨o + 1, by omega, by go_num, hI10, hb10⟩ | ((repeat apply Exists.intro); exact ⟨⟨o + 1, by omega, by go_num, hI10, hb10⟩, rfl⟩)
                case measure => (simp [intOf] <;> omega)
          · have d0 : decide ((o : Int) ≤ (al : Int)) = false := by simp; omega
            have d0b : ¬ o ≤ al := hlo
            go_wp2_with fail
            refine (works_any _ hT.out.tab).mono ?_
            rintro e w9 ⟨rfl, b9⟩
            have hk := (HL0.out.to (hb.trans (b9.mono hb.size))).below
            go_wp2
            go_ret
            exact ⟨rfl, hk⟩
end Go.Proofs.YtbhjphcomppjgaaDoor
