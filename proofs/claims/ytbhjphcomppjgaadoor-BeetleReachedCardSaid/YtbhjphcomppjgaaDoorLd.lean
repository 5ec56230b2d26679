/- Law of chapter 9: BeetleReached. -/
import Derived.Test.YtbhjphcomppjgaaDoorVf
import Derived.Test.YtbhjphcomppjgaaDoorPq
namespace Go.Proofs.YtbhjphcomppjgaaDoor
open Go.RowKit Beetle09
set_option maxHeartbeats 32000000 in
set_option maxRecDepth 100000 in
theorem BeetleReached_any (p q x y : Nat) (w : World) (hp : p < 256) (hq : q < 256) (hx : x < 4294967296) (hy : y < 4294967296) (hT : Tab w) : Calls Tryd.prog 10 #[floV p q x y] w fun e w' => e = .returned (.bool true) ∧ Below w.heap.size w w' := by
  have HM := Lib.hid (made5_any p q x y true (w.alloc (.cells (floL p q x y).toArray 58)) hp hq hx hy)
  have HMO := Lib.hid (mk_open (p := p) (q := q) (x := x) (y := y) (b := true) (M := 5) (by decide) (by decide))
  have HTT := Lib.hid hT
  clear hT
  go_enter Tryd.func10, Tryd.ntmps10
  go_wp2_with fail
  refine HM.out.mono ?_
  rintro e w1 ⟨aS, nS, cS, aC, nC, cC, rfl, hS, hF, hb⟩
  obtain ⟨R, hR⟩ : ∃ R, mkN p 5 = R := ⟨_, rfl⟩
  obtain ⟨C, hC⟩ : ∃ C, mkN q 5 = C := ⟨_, rfl⟩
  rw [hR, hC] at hS hF HMO
  simp only [hR, hC]
  obtain ⟨sk, hsk⟩ : ∃ sk, mkS (R * C) x = sk := ⟨_, rfl⟩
  obtain ⟨zk, hzk⟩ : ∃ zk, mkZ true (R * C) x y = zk := ⟨_, rfl⟩
  rw [hsk] at hS HMO
  rw [hzk] at hF HMO
  simp only [hsk, hzk]
  have H0 := Lib.hid HMO.out.1
  have HOP := Lib.hid HMO.out.2
  have n25 := HOP.out.sd.n25
  have hR5 := HOP.out.sd.r5
  have hC5 := HOP.out.sd.c5
  have hs25 := HOP.out.s25
  have hz25 := HOP.out.z25
  have HL0 := Lib.hid (LwS.start (R := R) (C := C) hS hF HTT.out hb)
  clear HM HMO hS hF hb HTT hR hC hsk hzk
  obtain ⟨gS, hgS⟩ : ∃ g, w1.heap.size = g := ⟨_, rfl⟩
  go_wp2_with fail
  rw [hgS] at HL0
  obtain ⟨W, hW⟩ : ∃ W, ((w1.alloc (.cells #[.int .i64 (R : Int), .int .i64 (C : Int), .slice aS nS cS, .slice aC nC cC] 24)).alloc (.cells #[.int .i64 (R : Int), .int .i64 (C : Int)] 60)) = W := ⟨_, rfl⟩
  rw [hW] at HL0 ⊢
  clear hW hgS
  have hWs := HL0.out.lt
  have HRO : Hid (∀ n v, cal R C zk sk (R * C) n = v → 1 ≤ v → 2 ≤ cnt R C (befS R C zk sk v) n ∧ cnt R C (befS R C zk sk (v - 1)) n ≤ 1) := Lib.hid fun n v h1 h2 => reach_ok HOP.out.rs.lt h1 h2
  have HSPR := Lib.hid (fun (w : World) => lspread_any R C sk zk w HOP.out.sd HOP.out.rs.lt HOP.out.rz.lt)
  have HNR := Lib.hid (fun (r n : Nat) (w : World) (hr : r < 2 ^ 25) (hn : n < R * C) => near_any R C r n w HOP.out.sd hr hn)
  have HBL : Hid (∀ v, befS R C zk sk v < 2 ^ 25) := Lib.hid fun v => lt25 (befS_lt R C zk sk v) n25
  have HGT : Hid (∀ i, i < R * C → (daysL R C zk sk).getD i 0 = cal R C zk sk (R * C) i) := Lib.hid (fun i hi => daysL_get hi)
  have HDE := Lib.hid (HOP.out.days H0.out)
  have HSE := Lib.hid (HOP.out.spread H0.out)
  have HF25 := Lib.hid (lt25 (fin_lt (z := zk) HOP.out.rs.lt) n25)
  rw [← els_top (fin_lt (z := zk) HOP.out.rs.lt) n25] at HSE
  refine (ldays_any R C sk zk W HOP.out.sd HOP.out.rs.lt HOP.out.rz.lt).mono ?_
  rintro e w2 ⟨aw, cw, rfl, hw, b2⟩
  have hk2 := b2
  have HW2 := hw.isL
  have HT2 := Lib.hid (HL0.out.to b2)
  have z0 := val HT2.out.pl 0 rfl
  have z1 := val HT2.out.pl 1 rfl
  have t0 := val HT2.out.st 0 rfl
  have t1 := val HT2.out.st 1 rfl
  have t2 := val HT2.out.st 2 rfl
  have t3 := val HT2.out.st 3 rfl
  clear hw b2
  go_wp2_with fail
  refine (Days_c HT2.out.iS HT2.out.iF HT2.out.tab H0.out HDE.out).mono ?_
  rintro e w3 ⟨ad, nd, cd, rfl, hd, b3⟩
  have hk3 : Below W.heap.size W w3 := hk2.trans (b3.mono hk2.size)
  have HW3 := HW2.below b3
  have HT3 := Lib.hid (HL0.out.to hk3)
  clear z0 z1 t0 t1 t2 t3 HT2 HW2 hk2 b3
  have z0 := val HT3.out.pl 0 rfl
  have z1 := val HT3.out.pl 1 rfl
  have t0 := val HT3.out.st 0 rfl
  have t1 := val HT3.out.st 1 rfl
  have t2 := val HT3.out.st 2 rfl
  have t3 := val HT3.out.st 3 rfl
  go_wp2_with fail
  refine (Spread_c HT3.out.iS HT3.out.iF HT3.out.tab H0.out HSE.out).mono ?_
  rintro e w4 ⟨al, nl, cl, rfl, hl, b4⟩
  have hk4 : Below W.heap.size W w4 := hk3.trans (b4.mono hk3.size)
  have HW4 := HW3.below b4
  have HD4 := hd.below b4
  clear z0 z1 t0 t1 t2 t3 HT3 HW3 hk3 b4 hd
  go_wp2_with fail
  refine (same_c HD4 HW4).mono ?_
  rintro e w5 ⟨rfl, b5⟩
  have hk5 : Below W.heap.size W w5 := hk4.trans (b5.mono hk4.size)
  have HD5 := HD4.below b5
  have HL5 := hl.below b5
  have HT5 := Lib.hid (HL0.out.to hk5)
  have z0 := val HT5.out.pl 0 rfl
  have z1 := val HT5.out.pl 1 rfl
  clear HW4 HD4 hl b5 hk4
  go_wp2_with fail
  refine (HSPR.out _).mono ?_
  rintro e w6 ⟨rfl, b6⟩
  have hk6 : Below W.heap.size W w6 := hk5.trans (b6.mono hk5.size)
  have HD6 := HD5.below b6
  have HL6 := HL5.below b6
  clear HD5 HL5 HT5 z0 z1 b6 hk5
  go_wp2_with fail
  refine (bits_any _ w6 (by have := HF25.out; omega)).mono ?_
  rintro e w7 ⟨ab, cb, rfl, hbl, b7⟩
  have hk7 : Below W.heap.size W w7 := hk6.trans (b7.mono hk6.size)
  have HD7 := HD6.below b7
  have HL7 := HL6.below b7
  have HB7 := hbl.isL
  clear HD6 HL6 b7 hk6 hbl
  go_wp2_with fail
  refine (same_c HL7 HB7).mono ?_
  rintro e w8 ⟨rfl, b8⟩
  have hk8 : Below W.heap.size W w8 := hk7.trans (b8.mono hk7.size)
  have HD8 := Lib.hid (HD7.below b8)
  have hnd := HD8.out.len
  have hcd := HD8.out.cap
  have hld := HD8.out.le
  rw [daysL_len] at hnd
  obtain ⟨D, hD⟩ : ∃ D, cal R C zk sk (R * C) = D := ⟨_, rfl⟩
  have HBD : Hid (∀ v, befS R C zk sk v = ofP (fun m => decide (0 ≤ D m ∧ D m < v)) (R * C)) := Lib.hid fun v => by rw [← hD]; rfl
  have HRO2 : Hid (∀ n v, D n = v → 1 ≤ v → 2 ≤ cnt R C (befS R C zk sk v) n ∧ cnt R C (befS R C zk sk (v - 1)) n ≤ 1) := Lib.hid fun n v h1 h2 => HRO.out n v (by rw [hD]; exact h1) h2
  have HGT2 : Hid (∀ i, i < R * C → (daysL R C zk sk).getD i 0 = D i) := Lib.hid fun i hi => by rw [← hD]; exact HGT.out i hi
  have HDV : Hid (∀ i, -1 ≤ D i ∧ D i ≤ 25) := Lib.hid fun i => by
    rw [← hD]
    have := cal_nonneg (R := R) (C := C) (z := zk) (s := sk) (R * C) i
    exact ⟨this.2.2, by have := this.2.1; omega⟩
  obtain ⟨N, hN⟩ : ∃ N, R * C = N := ⟨_, rfl⟩
  rw [hN] at hnd n25 HNR HGT2 HBD
  obtain rfl : nd = N := hnd.symm
  clear HD7 HL7 HB7 b8 hk7 HSPR HDE HSE HF25 HRO HGT hD
  go_wp2_with fail
  go_loopw [63] (fun vi wr => ∃ i : Nat, i ≤ nd ∧ vi = .int .i64 (i : Int) ∧ Hid (IsL wr ad nd cd (daysL R C zk sk)) ∧ Below W.heap.size W wr) (fun vi _ => nd - (intOf vi).toNat)
  case atStart => exact ⟨0, by omega, rfl, HD8, hk8⟩
  case round =>
    clear HD8 hk8
    obtain ⟨i, hi, rfl, hDL, hb⟩ := hrel
    have hT := Lib.hid (HL0.out.to hb)
    by_cases hlt : i < nd
    · have q0 : (i : Int) < (nd : Int) := by omega
      obtain ⟨bb, oo, rfl, _, hc⟩ := hDL.out.cells (by omega)
      have y1 := hc i hlt
      rw [HGT2.out i hlt] at y1
      obtain ⟨v, hv⟩ : ∃ v, D i = v := ⟨_, rfl⟩
      have hvb := HDV.out i
      rw [hv] at y1 hvb
      obtain ⟨hv0, hv1⟩ := hvb
      have HV := Lib.hid hv
      clear hc hv
      by_cases h1 : 1 ≤ v
      · have d1 : decide (v < 1) = false := by simpa using h1
        have d1b : ¬ v < 1 := by omega
        have HR2 := Lib.hid (HRO2.out i v HV.out h1)
        obtain ⟨fb, hfb⟩ : ∃ f : Nat → Nat, ofP (fun m => decide (0 ≤ D m ∧ D m < v)) = f := ⟨_, rfl⟩
        obtain ⟨fl, hfl⟩ : ∃ f : Nat → Nat, ofP (fun m => decide (0 ≤ D m ∧ D m < v - 1)) = f := ⟨_, rfl⟩
        have HFB : Hid (∀ k, fb (k + 1) = if decide (0 ≤ D k ∧ D k < v) then fb k ||| 2 ^ k else fb k) := Lib.hid (by rw [← hfb]; exact fun k => rfl)
        have HFL : Hid (∀ k, fl (k + 1) = if decide (0 ≤ D k ∧ D k < v - 1) then fl k ||| 2 ^ k else fl k) := Lib.hid (by rw [← hfl]; exact fun k => rfl)
        have HB0 : Hid (fb 0 = 0) := Lib.hid (by rw [← hfb]; rfl)
        have HL0' : Hid (fl 0 = 0) := Lib.hid (by rw [← hfl]; rfl)
        have HBE : Hid (befS R C zk sk v = fb nd) := Lib.hid (by rw [HBD.out, hfb])
        have HLE : Hid (befS R C zk sk (v - 1) = fl nd) := Lib.hid (by rw [HBD.out, hfl])
        have w1 : IntKind.i64.wrap (v - 1) = v - 1 := IntWalk.i64_in _ (by omega)
        clear hfb hfl
        obtain ⟨Wi, rfl⟩ : ∃ W, W = wr := ⟨_, rfl⟩
        go_wp2_with fail
        go_loopw [72, 14, 15] (fun vm vb vl wr => ∃ m q1 q2 : Nat, m ≤ nd ∧ vm = .int .i64 (m : Int) ∧ vb = .int .u32 (q1 : Int) ∧ vl = .int .u32 (q2 : Int) ∧ Hid (fb m = q1 ∧ q1 < 2 ^ 25) ∧ Hid (fl m = q2 ∧ q2 < 2 ^ 25) ∧ Wi = wr) (fun vm _ _ _ => nd - (intOf vm).toNat)
        case atStart => exact ⟨0, 0, 0, by omega, rfl, rfl, rfl, Lib.hid ⟨HB0.out, by decide⟩, Lib.hid ⟨HL0'.out, by decide⟩, by first | trivial | rfl⟩
        case round =>
          obtain ⟨m, q1, q2, hm, rfl, rfl, rfl, hQ1, hQ2, rfl⟩ := hrel
          by_cases hlm : m < nd
          · have q3 : (m : Int) < (nd : Int) := by omega
            have hm25 : m < 25 := by omega
            obtain ⟨bb2, oo2, hae, _, hc2⟩ := hDL.out.cells (by omega)
            obtain ⟨rfl, rfl⟩ : bb2 = bb ∧ oo2 = oo := by simpa [eq_comm] using hae
            have y2 := hc2 m hlm
            rw [HGT2.out m hlm] at y2
            have HS1 := Lib.hid (HFB.out m)
            have HS2 := Lib.hid (HFL.out m)
            have hub := HDV.out m
            obtain ⟨u, hu⟩ : ∃ u, D m = u := ⟨_, rfl⟩
            rw [hu] at y2 HS1 HS2 hub
            obtain ⟨hu0, hu1⟩ := hub
            obtain ⟨V1, r1, hr1, hr125, hV1, g2, g3, g4, g5⟩ := or_facts q1 m hQ1.out.2 hm25
            obtain ⟨V2, r2, hr2, hr225, hV2, k2, k3, k4, k5⟩ := or_facts q2 m hQ2.out.2 hm25
            obtain rfl : V2 = V1 := by have := g2.symm.trans k2; omega
            have HR1 : Hid (r1 = q1 ||| 2 ^ m ∧ r1 < 2 ^ 25) := Lib.hid ⟨hr1, hr125⟩
            have HR2' : Hid (r2 = q2 ||| 2 ^ m ∧ r2 < 2 ^ 25) := Lib.hid ⟨hr2, hr225⟩
            clear hc2 hae hu hr1 hr125 hr2 hr225 k2 k3 k4
            by_cases hua : 0 ≤ u
            · have da : decide (0 ≤ u) = true := by simpa using hua
              by_cases hubv : u < v
              · have db : decide (u < v) = true := by simpa using hubv
                have HX1 : Hid (fb (m + 1) = r1 ∧ r1 < 2 ^ 25) := Lib.hid ⟨by rw [HS1.out, if_pos (decide_eq_true ⟨hua, hubv⟩), hQ1.out.1, HR1.out.1], HR1.out.2⟩
                by_cases hul : u < v - 1
                · have dc : decide (u < v - 1) = true := by simpa using hul
                  have HX2 : Hid (fl (m + 1) = r2 ∧ r2 < 2 ^ 25) := Lib.hid ⟨by rw [HS2.out, if_pos (decide_eq_true ⟨hua, hul⟩), hQ2.out.1, HR2'.out.1], HR2'.out.2⟩
                  clear hQ1 hQ2 HS1 HS2 HR1 HR2'
                  go_wp2_with fail
                  go_roundw
                  case rel => first | exact ⟨m + 1, r1, r2, by omega, by go_num, rfl, rfl, HX1, HX2, by first | trivial | rfl⟩ | ((repeat apply Exists.intro); exact ⟨⟨m + 1, r1, r2, by omega, by go_num, rfl, rfl, HX1, HX2, by first | trivial | rfl⟩, rfl⟩)
                  case measure => (simp [intOf] <;> omega)
                · have dc : decide (u < v - 1) = false := by simp; omega
                  have HX2 : Hid (fl (m + 1) = q2 ∧ q2 < 2 ^ 25) := Lib.hid ⟨by rw [HS2.out, decide_eq_false (fun h => hul h.2)]; exact hQ2.out.1, hQ2.out.2⟩
                  clear hQ1 hQ2 HS1 HS2 HR1 HR2'
                  go_wp2_with fail
                  go_roundw
                  case rel => first | exact ⟨m + 1, r1, q2, by omega, by go_num, rfl, rfl, HX1, HX2, by first | trivial | rfl⟩ | ((repeat apply Exists.intro); exact ⟨⟨m + 1, r1, q2, by omega, by go_num, rfl, rfl, HX1, HX2, by first | trivial | rfl⟩, rfl⟩)
                  case measure => (simp [intOf] <;> omega)
              · have db : decide (u < v) = false := by simpa using hubv
                have dc : decide (u < v - 1) = false := by simp; omega
                have HX1 : Hid (fb (m + 1) = q1 ∧ q1 < 2 ^ 25) := Lib.hid ⟨by rw [HS1.out, decide_eq_false (fun h => hubv h.2)]; exact hQ1.out.1, hQ1.out.2⟩
                have HX2 : Hid (fl (m + 1) = q2 ∧ q2 < 2 ^ 25) := Lib.hid ⟨by rw [HS2.out, decide_eq_false (fun h => by omega)]; exact hQ2.out.1, hQ2.out.2⟩
                clear hQ1 hQ2 HS1 HS2 HR1 HR2'
                go_wp2_with fail
                go_roundw
                case rel => first | exact ⟨m + 1, q1, q2, by omega, by go_num, rfl, rfl, HX1, HX2, by first | trivial | rfl⟩ | ((repeat apply Exists.intro); exact ⟨⟨m + 1, q1, q2, by omega, by go_num, rfl, rfl, HX1, HX2, by first | trivial | rfl⟩, rfl⟩)
                case measure => (simp [intOf] <;> omega)
            · have da : decide (0 ≤ u) = false := by simpa using hua
              have HX1 : Hid (fb (m + 1) = q1 ∧ q1 < 2 ^ 25) := Lib.hid ⟨by rw [HS1.out, decide_eq_false (fun h => hua h.1)]; exact hQ1.out.1, hQ1.out.2⟩
              have HX2 : Hid (fl (m + 1) = q2 ∧ q2 < 2 ^ 25) := Lib.hid ⟨by rw [HS2.out, decide_eq_false (fun h => hua h.1)]; exact hQ2.out.1, hQ2.out.2⟩
              clear hQ1 hQ2 HS1 HS2 HR1 HR2'
              go_wp2_with fail
              go_roundw
              case rel => first | exact ⟨m + 1, q1, q2, by omega, by go_num, rfl, rfl, HX1, HX2, by first | trivial | rfl⟩ | ((repeat apply Exists.intro); exact ⟨⟨m + 1, q1, q2, by omega, by go_num, rfl, rfl, HX1, HX2, by first | trivial | rfl⟩, rfl⟩)
              case measure => (simp [intOf] <;> omega)
          · obtain rfl : nd = m := by omega
            have HC1 := Lib.hid (HNR.out q1 i)
            have HC2 := Lib.hid (HNR.out q2 i)
            have HN12 : Hid (2 ≤ cnt R C q1 i ∧ cnt R C q2 i ≤ 1) := Lib.hid (by have := HR2.out; rw [HBE.out, HLE.out, hQ1.out.1, hQ2.out.1] at this; exact this)
            have hn12 := HN12.out
            have hc4a := cnt_le4 R C q1 i
            obtain ⟨c1, hc1⟩ : ∃ c, cnt R C q1 i = c := ⟨_, rfl⟩
            obtain ⟨c2, hc2⟩ : ∃ c, cnt R C q2 i = c := ⟨_, rfl⟩
            rw [hc1] at HC1 hn12 hc4a
            rw [hc2] at HC2 hn12
            obtain ⟨hn1, hn2⟩ := hn12
            have e1 : decide ((c1 : Int) < 2) = false := by simp; omega
            have e2 : decide ((1 : Int) < (c2 : Int)) = false := by simp; omega
            have e1b : ¬ c1 < 2 := by omega
            have e2b : ¬ 1 < c2 := by omega
            have z0 := val hT.out.pl 0 rfl
            have z1 := val hT.out.pl 1 rfl
            have hq25a := hQ1.out.2
            have hq25b := hQ2.out.2
            clear hc1 hc2
            go_wp2_with fail
            refine (HC1.out _ hq25a hlt).mono ?_
            rintro e w11 ⟨rfl, b11⟩
            have hT11 := Lib.hid (hT.out.to b11)
            have z3 := val hT11.out.pl 0 rfl
            have z4 := val hT11.out.pl 1 rfl
            go_wp2_with fail
            refine (HC2.out _ hq25b hlt).mono ?_
            rintro e w12 ⟨rfl, b12⟩
            have b13 : Below Wi.heap.size Wi w12 := b11.trans (b12.mono b11.size)
            have hb12 : Below W.heap.size W w12 := hb.trans (b13.mono hb.size)
            have HD12 := Lib.hid (hDL.out.below b13)
            clear z0 z1 z3 z4 b11 b12 hT11
            go_wp2_with fail
            go_roundw
            case rel => first | exact ⟨i + 1, by omega, by go_num, HD12, hb12⟩ | ((repeat apply Exists.intro); exact ⟨⟨i + 1, by omega, by go_num, HD12, hb12⟩, rfl⟩)
            case measure => (simp [intOf] <;> omega)
      · have d1 : decide (v < 1) = true := by simp; omega
        have d1b : v < 1 := by omega
        go_wp2_with fail
        go_roundw
        case rel => first | exact ⟨i + 1, by omega, by go_num, hDL, hb⟩ | ((repeat apply Exists.intro); exact ⟨⟨i + 1, by omega, by go_num, hDL, hb⟩, rfl⟩)
        case measure => (simp [intOf] <;> omega)
    · obtain rfl : i = nd := by omega
      go_wp2_with fail
      refine (works_any _ hT.out.tab).mono ?_
      rintro e w7 ⟨rfl, b7⟩
      have hk := (hT.out.to b7).below
      go_wp2
      go_ret
      exact ⟨rfl, hk⟩
end Go.Proofs.YtbhjphcomppjgaaDoor
