/- Walks of chapter 9: the reference: which bales have to be frozen to save one. -/
import Derived.Test.YtbhjphcomppjgaaDoorRi
namespace Go.Proofs.YtbhjphcomppjgaaDoor
open Go.RowKit Beetle09
variable {r c : Int} {S F : List Int} {a b : Option Addr} {n m k j : Nat} {w : World}
set_option maxHeartbeats 16000000 in
set_option maxRecDepth 100000 in
theorem rKeep_any (x : Int) (hS : IsL w a n k S) (hF : IsL w b m j F) : Calls Tryd.prog 31 #[stV r c a b n k m j, .int .i64 x] w (LP (keepE r c S F x) (keepL r c S F x) w) := by
  have HB0 := Lib.hid (BoxS.start w (bxL r c a b n k m j) 27)
  have HC := Lib.hid (rCheck_any (r := r) (c := c) (hS.below HB0.out.below) (hF.below HB0.out.below))
  have x0 := val HB0.out.box 0 rfl
  have x1 := val HB0.out.box 1 rfl
  have x2 := val HB0.out.box 2 rfl
  have x3 := val HB0.out.box 3 rfl
  have HS := Lib.hid hS
  have HF := Lib.hid hF
  obtain ⟨E, hE⟩ : ∃ E, openE r c S F = E := ⟨_, rfl⟩
  have HE := Lib.hid hE
  by_cases h0 : E = 0
  · subst h0
    obtain ⟨R, C, s, z, hop⟩ := open_ok hE
    obtain rfl := hop.er
    obtain rfl := hop.ec
    have HOP := Lib.hid hop
    have HK := Lib.hid (hop.keep hE x)
    have HKL := Lib.hid (fun h => hop.keepl x h)
    have n25 := hop.sd.n25
    have n1 := hop.sd.n1
    have hR5 := hop.sd.r5
    have hC5 := hop.sd.c5
    have hm25 : m ≤ 25 := by have := hop.rz.len_le; rw [hF.len] at this; omega
    have HBALE := Lib.hid (fun (w : World) (B : Bool) hB => bale_any R C a b n k m j x w n25 n1 hR5 hC5 B hB)
    obtain ⟨B0, hB0⟩ : ∃ B, decide (0 ≤ x ∧ x < ((R * C : Nat) : Int)) = B := ⟨_, rfl⟩
    have HBA := Lib.hid (fun (w : World) => HBALE.out w B0 hB0)
    have HBD := Lib.hid hB0
    clear hE hop hS hF HBALE hB0
    go_enter Tryd.func31, Tryd.ntmps31
    go_wp2_with fail
    refine HC.out.mono ?_
    rintro e w1 ⟨rfl, b1⟩
    rw [HE.out]
    have HB1 := Lib.hid (HB0.out.to b1)
    clear HC x0 x1 x2 x3 b1 HB0
    have x0 := val HB1.out.box 0 rfl
    have x1 := val HB1.out.box 1 rfl
    have x2 := val HB1.out.box 2 rfl
    have x3 := val HB1.out.box 3 rfl
    go_wp2_with fail
    refine (HBA.out _).mono ?_
    rintro e w2 ⟨rfl, b2⟩
    have HB2 := Lib.hid (HB1.out.to b2)
    clear HBA x0 x1 x2 x3 b2 HB1
    have x0 := val HB2.out.box 0 rfl
    have x1 := val HB2.out.box 1 rfl
    have x2 := val HB2.out.box 2 rfl
    have x3 := val HB2.out.box 3 rfl
    cases B0 with
    | false =>
      have HKE : Hid (keepE R C S F x = 2) := Lib.hid (by
        have := of_decide_eq_false HBD.out
        rw [HK.out, if_pos (by omega)])
      go_wp2_with fail
      go_ret2
      exact LP.nil HKE.out (keepl_bad (by rw [HKE.out]; decide)) HB2.out.below
    | true =>
      obtain ⟨hx0, hxN⟩ := of_decide_eq_true HBD.out
      obtain ⟨v, rfl⟩ : ∃ v : Nat, x = (v : Int) := ⟨x.toNat, by omega⟩
      have hvN : v < R * C := by omega
      have HKE : Hid (keepE R C S F v = if lostB R C s z v = true then 12 else 0) := Lib.hid (by rw [HK.out, if_neg (by omega), Int.toNat_natCast])
      have HBE := Lib.hid (beside_any R C a b n k m j v w2 hR5 hC5 HOP.out.sd.c1 hvN)
      have HNG : Hid (∀ q, q < (nb R C v).length → (nb R C v).getD q 0 < R * C) := Lib.hid fun q hq => nb_get HOP.out.sd hvN hq
      have HKS : Hid (∀ q, q < (nb R C v).length → cntK R C s v (q + 1) = cntK R C s v q + if s.testBit ((nb R C v).getD q 0) then 1 else 0) := Lib.hid fun q hq => cntK_succ hq
      have HKF := Lib.hid (cntK_fin R C s v)
      have hNBl := nb_len R C v
      have HVN := Lib.hid hvN
      obtain ⟨L, hL⟩ : ∃ L, nb R C v = L := ⟨_, rfl⟩
      rw [hL] at HBE hNBl HNG HKS HKF
      obtain ⟨Q, hQ⟩ : ∃ Q, L.length = Q := ⟨_, rfl⟩
      rw [hQ] at HBE hNBl HNG HKS HKF
      clear hL hQ hx0 hxN hvN HK
      go_wp2_with fail
      refine HBE.out.mono ?_
      rintro e w5 ⟨xb, cb, rfl, hOL, b5⟩
      have hcap := hOL.isL.cap
      have hle := hOL.isL.le
      have HOL := Lib.hid hOL
      have HB5 := Lib.hid (HB2.out.to b5)
      clear hOL b5 HB2 HBE x0 x1 x2 x3
      go_wp2_with fail
      go_loopw [9, 7] (fun vi vo wr => ∃ (q d : Nat), q ≤ Q ∧ vi = .int .i64 (q : Int) ∧ vo = .int .i64 (d : Int) ∧ d ≤ q ∧ Hid (d = cntK R C s v q) ∧ Hid (BoxS w wr 27 (bxL R C a b n k m j)) ∧ Below w5.heap.size w5 wr) (fun vi _ _ => Q - (intOf vi).toNat)
      case atStart => exact ⟨0, 0, by omega, rfl, rfl, by omega, Lib.hid (cntK_zero _ _ _ _).symm, HB5, Below.refl _ _⟩
      case round =>
        clear HB5
        obtain ⟨q, d, hq, rfl, rfl, hdq, hK, hBx, hb⟩ := hrel
        have x2 := val hBx.out.box 2 rfl
        by_cases hqQ : q < Q
        · have q3 : (q : Int) < (Q : Int) := by omega
          have hO := HOL.out.below hb
          obtain ⟨gb, rfl⟩ := hO.addr (by omega)
          have y1 := (hO.gen.cell q 0 hqQ).1
          rw [li_get] at y1
          have hkN := HNG.out q hqQ
          have HK1 := Lib.hid (HKS.out q hqQ)
          obtain ⟨kk, hkk⟩ : ∃ kk, L.getD q 0 = kk := ⟨_, rfl⟩
          rw [hkk] at y1 hkN HK1
          obtain ⟨B, hB⟩ : ∃ B, s.testBit kk = B := ⟨_, rfl⟩
          have HCS := Lib.hid (rhas_any a n k S (kk : Int) wr.drew ((HS.out.below hBx.out.below).drew) B (by rw [HOP.out.rs.mm.bit hkN]; exact hB))
          have HBd : Hid (BoxS w wr.drew 27 (bxL R C a b n k m j)) := Lib.hid (hBx.out.to (Below.refl wr.heap.size wr).drew)
          have hbd : Below w5.heap.size w5 wr.drew := hb.trans ((Below.refl wr.heap.size wr).drew.mono hb.size)
          rw [hB] at HK1
          clear hkk hB hO
          cases B with
          | true =>
            have HK2 : Hid (d + 1 = cntK R C s v (q + 1)) := Lib.hid (by rw [HK1.out, ← hK.out]; rfl)
            go_wp2_with fail
            go_still_tail 6, (by kernel_rfl)
            go_wp2_with fail
            refine HCS.out.mono ?_
            rintro e w6 ⟨rfl, rfl⟩
            go_wp2_with fail
            go_roundw
            case rel => first | exact ⟨q + 1, d + 1, by omega, by go_num, by go_num, by omega, HK2, HBd, hbd⟩ | ((repeat apply Exists.intro); exact ⟨⟨q + 1, d + 1, by omega, by go_num, by go_num, by omega, HK2, HBd, hbd⟩, rfl⟩)
            case measure => (simp [intOf] <;> omega)
          | false =>
            have HK2 : Hid (d = cntK R C s v (q + 1)) := Lib.hid (by rw [HK1.out, ← hK.out]; rfl)
            go_wp2_with fail
            go_still_tail 6, (by kernel_rfl)
            go_wp2_with fail
            refine HCS.out.mono ?_
            rintro e w6 ⟨rfl, rfl⟩
            go_wp2_with fail
            go_roundw
            case rel => first | exact ⟨q + 1, d, by omega, by go_num, rfl, by omega, HK2, HBd, hbd⟩ | ((repeat apply Exists.intro); exact ⟨⟨q + 1, d, by omega, by go_num, rfl, by omega, HK2, HBd, hbd⟩, rfl⟩)
            case measure => (simp [intOf] <;> omega)
        · obtain rfl : Q = q := by omega
          have x3 := val hBx.out.box 3 rfl
          have x0 := val hBx.out.box 0 rfl
          have x1 := val hBx.out.box 1 rfl
          have HCN : Hid (d = cnt R C s v) := Lib.hid (hK.out.trans HKF.out)
          have HC1 := Lib.hid (rhas_any a n k S (v : Int) wr (HS.out.below hBx.out.below) (s.testBit v) (HOP.out.rs.mm.bit HVN.out))
          have HC2 := Lib.hid (rhas_any b m j F (v : Int) wr (HF.out.below hBx.out.below) (z.testBit v) (HOP.out.rz.mm.bit HVN.out))
          have HKA : Hid (∀ (mm : Nat) (mi : Int) (w' : World), mi = (mm : Int) → mm ≤ 4 → Below w.heap.size w w' → Calls Tryd.prog 74 #[stV R C a b n k m j, .int .i64 (v : Int), .slice none 0 0, .int .i64 mi] w' (KpR w' (kpD R C s z v mm))) := Lib.hid fun mm mi w' h hm hb => by
            subst h
            rw [kpD_eq]
            exact kept_any R C s z v S F a b n k m j HOP.out.sd HOP.out.rs.mm HOP.out.rz.mm HVN.out hm25 mm [] none 0 0 w' (by simpa using hm) (Beg.nil _) (HS.out.below hb) (HF.out.below hb) (IsL.nilL _)
          clear hK HKF HKS HNG
          cases hsv : s.testBit v with
          | true =>
            rw [hsv] at HC1
            have HKE2 : Hid (keepE R C S F v = 12) := Lib.hid (by rw [HKE.out, if_pos (by rw [lostB, hsv]; rfl)])
            clear hsv
            go_wp2_with fail
            refine HC1.out.mono ?_
            rintro e w6 ⟨rfl, rfl⟩
            go_wp2_with fail
            go_ret2
            exact LP.nil HKE2.out (keepl_bad (by rw [HKE2.out]; decide)) hBx.out.below
          | false =>
            rw [hsv] at HC1
            by_cases hd2 : 2 ≤ d
            · have d2 : decide ((2 : Int) ≤ (d : Int)) = true := by simp; omega
              have d2' : decide (2 ≤ d) = true := by simp; omega
              cases hzv : z.testBit v with
              | false =>
                rw [hzv] at HC2
                have HKE2 : Hid (keepE R C S F v = 12) := Lib.hid (by rw [HKE.out, if_pos (by rw [lostB, hsv, hzv, ← HCN.out, decide_eq_true hd2]; rfl)])
                clear hsv hzv
                go_wp2_with fail
                refine HC1.out.mono ?_
                rintro e w6 ⟨rfl, rfl⟩
                go_wp2_with fail
                refine HC2.out.mono ?_
                rintro e w6 ⟨rfl, rfl⟩
                go_wp2_with fail
                go_ret2
                exact LP.nil HKE2.out (keepl_bad (by rw [HKE2.out]; decide)) hBx.out.below
              | true =>
                rw [hzv] at HC2
                have HKE2 : Hid (keepE R C S F v = 0) := Lib.hid (by rw [HKE.out, if_neg (by rw [lostB, hsv, hzv]; simp)])
                have HKP := Lib.hid (kp_some HOP.out.sd HOP.out.rs.lt HOP.out.rz.lt HOP.out.dj HVN.out hsv (fun h => by rw [hzv] at h; cases h))
                clear hsv hzv
                go_wp2_with fail
                refine HC1.out.mono ?_
                rintro e w6 ⟨rfl, rfl⟩
                go_wp2_with fail
                refine HC2.out.mono ?_
                rintro e w6 ⟨rfl, rfl⟩
                go_wp2_with fail
                refine (HKA.out 0 _ _ (by first | rfl | simp) (by omega) hBx.out.below).mono ?_
                rintro e w7 ⟨a7, n7, c7, B7, rfl, b7, hor⟩
                have HB7 := Lib.hid (hBx.out.to b7)
                have HOR := Lib.hid hor
                clear hor b7 hBx x0 x1 x2 x3 HC1 HC2
                go_wp2_with fail
                go_loopw [10, 11, 12] (fun vm vl vb wr => ∃ (mm : Nat) (a7 : Option Addr) (n7 c7 : Nat) (B7 : Bool), mm ≤ 4 ∧ vm = .int .i64 (mm : Int) ∧ vl = .slice a7 n7 c7 ∧ vb = .bool B7 ∧ Hid (∀ q, q < mm → kpD R C s z v q = none) ∧ Hid ((kpD R C s z v mm = none ∧ B7 = false) ∨ ∃ l, kpD R C s z v mm = some l ∧ B7 = true ∧ IsL wr a7 n7 c7 (li l)) ∧ Hid (BoxS w wr 27 (bxL R C a b n k m j))) (fun vm _ _ _ => 5 - (intOf vm).toNat)
                case atStart => exact ⟨0, a7, n7, c7, B7, by omega, by first | rfl | go_num, rfl, rfl, Lib.hid (fun q hq => by omega), HOR, HB7⟩
                case round =>
                  clear HB7 HOR
                  obtain ⟨mm, a8, n8, c8, B8, hmm, rfl, rfl, rfl, hNo, hOr, hBx⟩ := hrel
                  have x0 := val hBx.out.box 0 rfl
                  have x1 := val hBx.out.box 1 rfl
                  have x2 := val hBx.out.box 2 rfl
                  have x3 := val hBx.out.box 3 rfl
                  rcases hOr.out with ⟨hO, rfl⟩ | ⟨l, hO, rfl, hI⟩
                  · have hm4 : mm < 4 := by
                      obtain ⟨m9, h9, l9, e9⟩ := HKP.out
                      by_cases h : m9 < mm
                      · rw [hNo.out m9 h] at e9; cases e9
                      · have : m9 ≠ mm := fun h => by rw [h, hO] at e9; cases e9
                        omega
                    have HN2 : Hid (∀ q, q < mm + 1 → kpD R C s z v q = none) := Lib.hid fun q hq => by
                      by_cases h : q < mm
                      · exact hNo.out q h
                      · rw [show q = mm by omega]; exact hO
                    clear hO hOr hNo
                    go_wp2_with fail
                    refine (HKA.out (mm + 1) _ _ (by first | rfl | simp) (by omega) hBx.out.below).mono ?_
                    rintro e w9 ⟨a9, n9, c9, B9, rfl, b9, hor⟩
                    have HB9 := Lib.hid (hBx.out.to b9)
                    have HOR := Lib.hid hor
                    clear hor b9
                    go_wp2_with fail
                    go_roundw
                    case rel => first | exact ⟨mm + 1, a9, n9, c9, B9, by omega, by go_num, rfl, rfl, HN2, HOR, HB9⟩ | ((repeat apply Exists.intro); exact ⟨⟨mm + 1, a9, n9, c9, B9, by omega, by go_num, rfl, rfl, HN2, HOR, HB9⟩, rfl⟩)
                    case measure => (simp [intOf] <;> omega)
                  · have HKL2 : Hid (keepL R C S F v = li l) := Lib.hid (by rw [HKL.out HKE2.out, Int.toNat_natCast, kpL_at (by omega) hNo.out hO])
                    have HI := Lib.hid hI
                    clear hI hO hOr hNo
                    go_wp2_with fail
                    go_ret2
                    exact LP.ok HKE2.out HKL2.out HI.out hBx.out.below
            · have d2 : decide ((2 : Int) ≤ (d : Int)) = false := by simp; omega
              have d2' : decide (2 ≤ d) = false := by simp; omega
              have HKE2 : Hid (keepE R C S F v = 0) := Lib.hid (by rw [HKE.out, if_neg (by rw [lostB, hsv, ← HCN.out, decide_eq_false hd2]; simp)])
              have HKP := Lib.hid (kp_some HOP.out.sd HOP.out.rs.lt HOP.out.rz.lt HOP.out.dj HVN.out hsv (fun _ => by rw [← HCN.out]; omega))
              clear hsv
              go_wp2_with fail
              refine HC1.out.mono ?_
              rintro e w6 ⟨rfl, rfl⟩
              go_wp2_with fail
              refine (HKA.out 0 _ _ (by first | rfl | simp) (by omega) hBx.out.below).mono ?_
              rintro e w7 ⟨a7, n7, c7, B7, rfl, b7, hor⟩
              have HB7 := Lib.hid (hBx.out.to b7)
              have HOR := Lib.hid hor
              clear hor b7 hBx x0 x1 x2 x3 HC1 HC2
              go_wp2_with fail
              go_loopw [10, 11, 12] (fun vm vl vb wr => ∃ (mm : Nat) (a7 : Option Addr) (n7 c7 : Nat) (B7 : Bool), mm ≤ 4 ∧ vm = .int .i64 (mm : Int) ∧ vl = .slice a7 n7 c7 ∧ vb = .bool B7 ∧ Hid (∀ q, q < mm → kpD R C s z v q = none) ∧ Hid ((kpD R C s z v mm = none ∧ B7 = false) ∨ ∃ l, kpD R C s z v mm = some l ∧ B7 = true ∧ IsL wr a7 n7 c7 (li l)) ∧ Hid (BoxS w wr 27 (bxL R C a b n k m j))) (fun vm _ _ _ => 5 - (intOf vm).toNat)
              case atStart => exact ⟨0, a7, n7, c7, B7, by omega, by first | rfl | go_num, rfl, rfl, Lib.hid (fun q hq => by omega), HOR, HB7⟩
              case round =>
                clear HB7 HOR
                obtain ⟨mm, a8, n8, c8, B8, hmm, rfl, rfl, rfl, hNo, hOr, hBx⟩ := hrel
                have x0 := val hBx.out.box 0 rfl
                have x1 := val hBx.out.box 1 rfl
                have x2 := val hBx.out.box 2 rfl
                have x3 := val hBx.out.box 3 rfl
                rcases hOr.out with ⟨hO, rfl⟩ | ⟨l, hO, rfl, hI⟩
                · have hm4 : mm < 4 := by
                    obtain ⟨m9, h9, l9, e9⟩ := HKP.out
                    by_cases h : m9 < mm
                    · rw [hNo.out m9 h] at e9; cases e9
                    · have : m9 ≠ mm := fun h => by rw [h, hO] at e9; cases e9
                      omega
                  have HN2 : Hid (∀ q, q < mm + 1 → kpD R C s z v q = none) := Lib.hid fun q hq => by
                    by_cases h : q < mm
                    · exact hNo.out q h
                    · rw [show q = mm by omega]; exact hO
                  clear hO hOr hNo
                  go_wp2_with fail
                  refine (HKA.out (mm + 1) _ _ (by first | rfl | simp) (by omega) hBx.out.below).mono ?_
                  rintro e w9 ⟨a9, n9, c9, B9, rfl, b9, hor⟩
                  have HB9 := Lib.hid (hBx.out.to b9)
                  have HOR := Lib.hid hor
                  clear hor b9
                  go_wp2_with fail
                  go_roundw
                  case rel => first | exact ⟨mm + 1, a9, n9, c9, B9, by omega, by go_num, rfl, rfl, HN2, HOR, HB9⟩ | ((repeat apply Exists.intro); exact ⟨⟨mm + 1, a9, n9, c9, B9, by omega, by go_num, rfl, rfl, HN2, HOR, HB9⟩, rfl⟩)
                  case measure => (simp [intOf] <;> omega)
                · have HKL2 : Hid (keepL R C S F v = li l) := Lib.hid (by rw [HKL.out HKE2.out, Int.toNat_natCast, kpL_at (by omega) hNo.out hO])
                  have HI := Lib.hid hI
                  clear hI hO hOr hNo
                  go_wp2_with fail
                  go_ret2
                  exact LP.ok HKE2.out HKL2.out HI.out hBx.out.below
  · have t1 : (E != 0) = true := by simpa using h0
    have t2 : (E == 0) = false := by simpa using h0
    have H0 : Hid (openE r c S F ≠ 0) := Lib.hid (by rw [hE]; exact h0)
    have HKE : Hid (keepE r c S F x = E) := Lib.hid (by rw [bad_keep H0.out, HE.out])
    have HK0 : Hid (keepE r c S F x ≠ 0) := Lib.hid (by rw [bad_keep H0.out]; exact H0.out)
    clear h0 hE hS hF
    go_enter Tryd.func31, Tryd.ntmps31
    go_wp2_with fail
    refine HC.out.mono ?_
    rintro e w1 ⟨rfl, b1⟩
    rw [HE.out]
    have hb1 := (HB0.out.to b1).below
    clear HC x0 x1 x2 x3 b1 HB0
    go_wp2_with fail
    go_ret2
    exact LP.nil HKE.out (keepl_bad HK0.out) hb1
end Go.Proofs.YtbhjphcomppjgaaDoor
