/- Walks of chapter 9: the reference: days. -/
import Derived.Test.YtbhjphcomppjgaaDoorRc
import Derived.Test.YtbhjphcomppjgaaDoorPj
namespace Go.Proofs.YtbhjphcomppjgaaDoor
open Go.RowKit Beetle09
variable {S F : List Int} {a b : Option Addr} {n m k j : Nat} {w : World}
theorem BoxS.set {w wr : World} {t : TypeId} {L : List Value} (h : BoxS w wr t L) {p : Addr} (hp : w.heap.size + 1 ≤ p.block) (v : Value) : BoxS w (wr.setCell p v) t L := ⟨h.box.other (by omega) v, h.below.setCell (by omega) v⟩
set_option maxHeartbeats 8000000 in
set_option maxRecDepth 100000 in
theorem rdays_any (R C s z : Nat) (hS : IsL w a n k S) (hF : IsL w b m j F) (hs : Sd R C) (h1 : Mm (R * C) S s) (h2 : Mm (R * C) F z) : Calls Tryd.prog 76 #[stV R C a b n k m j] w fun e w' => ∃ x c, e = .returned (.slice x (R * C) c) ∧ OwnL w' 3 (w.heap.size + 1) x (R * C) c (daysL R C z s) ∧ Below w.heap.size w w' := by
  have n25 := hs.n25
  have n1 := hs.n1
  have hR5 := hs.r5
  have hC5 := hs.c5
  have hC1 := hs.c1
  have HSD := Lib.hid hs
  have HSS := Lib.hid h1
  have HZZ := Lib.hid h2
  have m1 : (R : Int) * (C : Int) = ((R * C : Nat) : Int) := by simp
  have HBES := Lib.hid (fun i w hi => beside_any R C a b n k m j i w hs.r5 hs.c5 hs.c1 hi)
  have HRES : Hid ((calA R C z s (R * C)).take (R * C) = daysL R C z s) := Lib.hid (calA_take n25)
  obtain ⟨N, hN⟩ : ∃ N, R * C = N := ⟨_, rfl⟩
  have HN := Lib.hid hN
  rw [hN] at n25 n1 m1 HBES HRES ⊢
  have HB0 := Lib.hid (BoxS.start w (bxL R C a b n k m j) 27)
  have x0 := val HB0.out.box 0 rfl
  have x1 := val HB0.out.box 1 rfl
  have HAS := Lib.hid hS
  have HAF := Lib.hid hF
  clear hN h1 h2 hs hS hF
  go_enter Tryd.func76, Tryd.ntmps76
  go_wp2_with (at_make; refine wl_make (Value.int .i64) 0 (.int .i64 0) 8 (w.heap.size + 1) Tryd.underlying22 elem3 rfl rfl (.tmp 14) (.tmp 14) rfl rfl N rfl rfl (by omega) (by omega) (by simp) ?_)
  intro w2 og hg2 hb2
  have HT0 := Lib.hid (HB0.out.toB hb2)
  have HO0 : Hid (OwnL w2 3 (w.heap.size + 1) (some ⟨w.heap.size + 1, 0, none⟩) N N ((calB s 0).take N)) := Lib.hid (by rw [calB_take s N n25]; have := og.ints; simpa using this)
  clear HB0 x0 x1 og hg2 hb2 m1
  go_wp2_with fail
  go_loopw [4] (fun vi wr => ∃ i : Nat, i ≤ N ∧ vi = .int .i64 (i : Int) ∧ Hid (BoxS w wr 27 (bxL R C a b n k m j)) ∧ Hid (OwnL wr 3 (w.heap.size + 1) (some ⟨w.heap.size + 1, 0, none⟩) N N ((calB s i).take N))) (fun vi _ => N - (intOf vi).toNat)
  case atStart => exact ⟨0, by omega, rfl, HT0, HO0⟩
  case round =>
    clear HT0 HO0
    obtain ⟨i, hi, rfl, hT, hO⟩ := hrel
    by_cases hlt : i < N
    · have q0 : (i : Int) < (N : Int) := by omega
      obtain ⟨y1, y2⟩ := hO.out.gen.cell i 0 hlt
      have hT1 := Lib.hid (hT.out.set (p := ⟨w.heap.size + 1, i, none⟩) (Nat.le_refl _) (.int .i64 (-1)))
      have hO1 := Lib.hid (hO.out.set i (-1) hlt)
      have x0 := val hT1.out.box 0 rfl
      have x1 := val hT1.out.box 1 rfl
      have x2 := val hT1.out.box 2 rfl
      have x3 := val hT1.out.box 3 rfl
      obtain ⟨z1, z2⟩ := hO1.out.gen.cell i 0 hlt
      obtain ⟨B1, hB1⟩ : ∃ B1, s.testBit i = B1 := ⟨_, rfl⟩
      have HB1 := Lib.hid hB1
      have HC := Lib.hid (rhas_any a n k S (i : Int) _ (HAS.out.below hT1.out.below) B1 (by rw [HSS.out.bit (by rw [HN.out]; exact hlt)]; exact hB1))
      clear hB1 hO hT
      cases B1 with
      | true =>
        have hT2 := Lib.hid (hT1.out.set (p := ⟨w.heap.size + 1, i, none⟩) (Nat.le_refl _) (.int .i64 0))
        have hO2 : Hid (OwnL _ 3 (w.heap.size + 1) (some ⟨w.heap.size + 1, 0, none⟩) N N ((calB s (i + 1)).take N)) := Lib.hid (by rw [← calB_hit HB1.out, take_set, take_set]; exact hO1.out.set i 0 hlt)
        clear hO1 hT1
        go_wp2_with fail
        refine HC.out.mono ?_
        rintro e w5 ⟨rfl, rfl⟩
        go_wp2_with fail
        go_roundw
        case rel => first | exact ⟨i + 1, by omega, by go_num, hT2, hO2⟩ | ((repeat apply Exists.intro); exact ⟨⟨i + 1, by omega, by go_num, hT2, hO2⟩, rfl⟩)
        case measure => (simp [intOf] <;> omega)
      | false =>
        have hO2 : Hid (OwnL _ 3 (w.heap.size + 1) (some ⟨w.heap.size + 1, 0, none⟩) N N ((calB s (i + 1)).take N)) := Lib.hid (by rw [← calB_miss HB1.out, take_set]; exact hO1.out)
        clear hO1
        go_wp2_with fail
        refine HC.out.mono ?_
        rintro e w5 ⟨rfl, rfl⟩
        go_wp2_with fail
        go_roundw
        case rel => first | exact ⟨i + 1, by omega, by go_num, hT1, hO2⟩ | ((repeat apply Exists.intro); exact ⟨⟨i + 1, by omega, by go_num, hT1, hO2⟩, rfl⟩)
        case measure => (simp [intOf] <;> omega)
    · obtain rfl : N = i := by omega
      have HT1 := hT
      have HO1 : Hid (OwnL wr 3 (w.heap.size + 1) (some ⟨w.heap.size + 1, 0, none⟩) N N ((calA R C z s 0).take N)) := Lib.hid (by
        rw [show (calA R C z s 0).take N = (calB s N).take N from ?_]
        · exact hO.out
        · unfold calA calB
          rw [← List.map_take, ← List.map_take, List.take_range, Nat.min_eq_left n25]
          exact map_cong fun j hj => by simp [hj, cal])
      clear hT hO hlt
      obtain ⟨W1, rfl⟩ : ∃ W, W = wr := ⟨_, rfl⟩
      go_wp2_with fail
      go_loopw [5] (fun vd wr => ∃ d : Nat, d ≤ N ∧ vd = .int .i64 ((d : Int) + 1) ∧ Hid (BoxS w wr 27 (bxL R C a b n k m j)) ∧ Hid (OwnL wr 3 (w.heap.size + 1) (some ⟨w.heap.size + 1, 0, none⟩) N N ((calA R C z s d).take N))) (fun vd _ => N + 1 - (intOf vd).toNat)
      case atStart => exact ⟨0, by omega, rfl, HT1, HO1⟩
      case round =>
        clear HT1 HO1
        obtain ⟨d, hd, rfl, hT, hO⟩ := hrel
        by_cases hlt : d < N
        · have q0 : (d : Int) + 1 ≤ (N : Int) := by omega
          have q1 : decide ((d : Int) + 1 ≤ (N : Int)) = true := by simp; omega
          obtain ⟨Wd, rfl⟩ : ∃ W, W = wr := ⟨_, rfl⟩
          have HT1 := hT
          have HO1 := Lib.hid (show OwnL Wd 3 (w.heap.size + 1) (some ⟨w.heap.size + 1, 0, none⟩) N N ((calM R C z s d 0).take N) by rw [calM_zero]; exact hO.out)
          clear hT hO
          go_wp2_with fail
          go_loopw [6] (fun vn wr => ∃ nn : Nat, nn ≤ N ∧ vn = .int .i64 (nn : Int) ∧ Hid (BoxS w wr 27 (bxL R C a b n k m j)) ∧ Hid (OwnL wr 3 (w.heap.size + 1) (some ⟨w.heap.size + 1, 0, none⟩) N N ((calM R C z s d nn).take N))) (fun vn _ => N - (intOf vn).toNat)
          case atStart => exact ⟨0, by omega, rfl, HT1, HO1⟩
          case round =>
            clear HT1 HO1
            obtain ⟨nn, hn, rfl, hT, hO⟩ := hrel
            by_cases hnN : nn < N
            · have q2 : (nn : Int) < (N : Int) := by omega
              have hn25 : nn < 25 := by omega
              obtain ⟨y1, y2⟩ := hO.out.gen.cell nn 0 hnN
              rw [take_get _ _ _ hnN] at y1
              have HOWN := Lib.hid (calM_own R C z s d nn hn25)
              obtain ⟨v, hv⟩ : ∃ v, (calM R C z s d nn).getD nn 0 = v := ⟨_, rfl⟩
              rw [hv] at y1 HOWN
              have x3 := val hT.out.box 3 rfl
              obtain ⟨r, hr⟩ : ∃ r, itr R C z s d = r := ⟨_, rfl⟩
              have HIR := Lib.hid hr
              rw [hr] at HOWN
              clear hv hr
              by_cases hv0 : 0 ≤ v
              · have HG : Hid (gets R C z (itr R C z s d) nn = false) := Lib.hid (by rw [HIR.out]; simp [gets, HOWN.out.1 hv0])
                have hO2 : Hid (OwnL wr 3 (w.heap.size + 1) (some ⟨w.heap.size + 1, 0, none⟩) N N ((calM R C z s d (nn + 1)).take N)) := Lib.hid (by rw [calM_miss HG.out]; exact hO.out)
                clear hO
                go_wp2_with fail
                go_roundw
                case rel => first | exact ⟨nn + 1, by omega, by go_num, hT, hO2⟩ | ((repeat apply Exists.intro); exact ⟨⟨nn + 1, by omega, by go_num, hT, hO2⟩, rfl⟩)
                case measure => (simp [intOf] <;> omega)
              · have hv1 : decide (0 ≤ v) = false := by simpa using hv0
                have HRB : Hid (r.testBit nn = false) := Lib.hid (by
                  cases h : r.testBit nn with
                  | false => rfl
                  | true => exact absurd (HOWN.out.2 h) hv0)
                obtain ⟨B2, hB2⟩ : ∃ B2, z.testBit nn = B2 := ⟨_, rfl⟩
                have HB2 := Lib.hid hB2
                have HC := Lib.hid (rhas_any b m j F (nn : Int) _ (HAF.out.below hT.out.below) B2 (by rw [HZZ.out.bit (by rw [HN.out]; exact hnN)]; exact hB2))
                clear hB2
                cases B2 with
                | true =>
                  have HG : Hid (gets R C z (itr R C z s d) nn = false) := Lib.hid (by simp [gets, HB2.out])
                  have hO2 : Hid (OwnL wr 3 (w.heap.size + 1) (some ⟨w.heap.size + 1, 0, none⟩) N N ((calM R C z s d (nn + 1)).take N)) := Lib.hid (by rw [calM_miss HG.out]; exact hO.out)
                  clear hO
                  go_wp2_with fail
                  refine HC.out.mono ?_
                  rintro e w5 ⟨rfl, rfl⟩
                  go_wp2_with fail
                  go_roundw
                  case rel => first | exact ⟨nn + 1, by omega, by go_num, hT, hO2⟩ | ((repeat apply Exists.intro); exact ⟨⟨nn + 1, by omega, by go_num, hT, hO2⟩, rfl⟩)
                  case measure => (simp [intOf] <;> omega)
                | false =>
                  have x0 := val hT.out.box 0 rfl
                  have x1 := val hT.out.box 1 rfl
                  have x2 := val hT.out.box 2 rfl
                  have HCB := Lib.hid (HBES.out nn wr hnN)
                  have hNBl := nb_len R C nn
                  have HNG : Hid (∀ q, q < (nb R C nn).length → (nb R C nn).getD q 0 < N) := Lib.hid fun q hq => by rw [← HN.out]; exact nb_get HSD.out (by rw [HN.out]; exact hnN) hq
                  have HKS : Hid (∀ q, q < (nb R C nn).length → cntK R C r nn (q + 1) = cntK R C r nn q + if r.testBit ((nb R C nn).getD q 0) then 1 else 0) := Lib.hid fun q hq => cntK_succ hq
                  have HKF := Lib.hid (cntK_fin R C r nn)
                  obtain ⟨L, hL⟩ : ∃ L, nb R C nn = L := ⟨_, rfl⟩
                  rw [hL] at HCB hNBl HNG HKS HKF
                  obtain ⟨Q, hQ⟩ : ∃ Q, L.length = Q := ⟨_, rfl⟩
                  rw [hQ] at HCB hNBl HNG HKS HKF
                  clear hL hQ HOWN hv0
                  go_wp2_with fail
                  refine HC.out.mono ?_
                  rintro e w5 ⟨rfl, rfl⟩
                  go_wp2_with fail
                  refine HCB.out.mono ?_
                  rintro e w5 ⟨xb, cb, rfl, hOL, b5⟩
                  have hcap := hOL.isL.cap
                  have hle := hOL.isL.le
                  have hT2 := Lib.hid (hT.out.to b5)
                  have hO2 := Lib.hid (hO.out.below b5)
                  have HOL := Lib.hid hOL
                  have HASK := Lib.hid (fun j hj => calM_ask R C z s d nn j hj)
                  rw [HIR.out] at HASK
                  have hcal : ∀ q, (((calM R C z s d nn).take N).getD q 0) = ((calM R C z s d nn).take N).getD q 0 := fun _ => rfl
                  clear hOL b5 hO y1 y2 hv1 hcal x0 x1 x2 x3 HCB HC
                  go_wp2_with fail
                  go_loopw [9, 7] (fun vi vc wr => ∃ (q c : Nat), q ≤ Q ∧ vi = .int .i64 (q : Int) ∧ vc = .int .i64 (c : Int) ∧ c ≤ q ∧ Hid (c = cntK R C r nn q) ∧ w5 = wr) (fun vi _ _ => Q - (intOf vi).toNat)
                  case atStart => exact ⟨0, 0, by omega, rfl, rfl, by omega, Lib.hid (cntK_zero _ _ _ _).symm, rfl⟩
                  case round =>
                    obtain ⟨q, c, hq, rfl, rfl, hcq, hK, rfl⟩ := hrel
                    by_cases hqQ : q < Q
                    · have q3 : (q : Int) < (Q : Int) := by omega
                      obtain ⟨gb, rfl⟩ := HOL.out.addr (by omega)
                      have y1 := (HOL.out.gen.cell q 0 hqQ).1
                      rw [li_get] at y1
                      have hkN := HNG.out q hqQ
                      have HK1 := Lib.hid (HKS.out q hqQ)
                      obtain ⟨kk, hkk⟩ : ∃ kk, L.getD q 0 = kk := ⟨_, rfl⟩
                      rw [hkk] at y1 hkN HK1
                      have q4 : (kk : Int) < (N : Int) := by omega
                      have y3 := (hO2.out.gen.cell kk 0 hkN).1
                      rw [take_get _ _ _ hkN] at y3
                      have HA := Lib.hid (HASK.out kk (by omega))
                      obtain ⟨u, hu⟩ : ∃ u, (calM R C z s d nn).getD kk 0 = u := ⟨_, rfl⟩
                      rw [hu] at y3 HA
                      clear hkk hu
                      by_cases hu0 : 0 ≤ u
                      · by_cases hud : u < (d : Int) + 1
                        · have HK2 : Hid (c + 1 = cntK R C r nn (q + 1)) := Lib.hid (by rw [HK1.out, if_pos (HA.out.1 ⟨hu0, hud⟩), ← hK.out])
                          go_wp2_with fail
                          go_roundw
                          case rel => first | exact ⟨q + 1, c + 1, by omega, by go_num, by go_num, by omega, HK2, by first | trivial | rfl⟩ | ((repeat apply Exists.intro); exact ⟨⟨q + 1, c + 1, by omega, by go_num, by go_num, by omega, HK2, by first | trivial | rfl⟩, rfl⟩)
                          case measure => (simp [intOf] <;> omega)
                        · have HK2 : Hid (c = cntK R C r nn (q + 1)) := Lib.hid (by rw [HK1.out, if_neg (fun h => hud (HA.out.2 h).2), ← hK.out]; rfl)
                          have hud1 : decide (u < (d : Int) + 1) = false := by simpa using hud
                          go_wp2_with fail
                          go_roundw
                          case rel => first | exact ⟨q + 1, c, by omega, by go_num, by go_num, by omega, HK2, by first | trivial | rfl⟩ | ((repeat apply Exists.intro); exact ⟨⟨q + 1, c, by omega, by go_num, by go_num, by omega, HK2, by first | trivial | rfl⟩, rfl⟩)
                          case measure => (simp [intOf] <;> omega)
                      · have HK2 : Hid (c = cntK R C r nn (q + 1)) := Lib.hid (by rw [HK1.out, if_neg (fun h => hu0 (HA.out.2 h).1), ← hK.out]; rfl)
                        have hu1 : decide (0 ≤ u) = false := by simpa using hu0
                        go_wp2_with fail
                        go_roundw
                        case rel => first | exact ⟨q + 1, c, by omega, by go_num, by go_num, by omega, HK2, by first | trivial | rfl⟩ | ((repeat apply Exists.intro); exact ⟨⟨q + 1, c, by omega, by go_num, by go_num, by omega, HK2, by first | trivial | rfl⟩, rfl⟩)
                        case measure => (simp [intOf] <;> omega)
                    · obtain rfl : Q = q := by omega
                      have HCN : Hid (c = cnt R C r nn) := Lib.hid (by rw [hK.out, HKF.out])
                      obtain ⟨y1, y2⟩ := hO2.out.gen.cell nn 0 hnN
                      by_cases hc2 : 2 ≤ c
                      · have c1 : decide ((2 : Int) ≤ (c : Int)) = true := by simp; omega
                        have c2 : decide (2 ≤ c) = true := by simp; omega
                        have HG : Hid (gets R C z (itr R C z s d) nn = true) := Lib.hid (by rw [HIR.out]; simp [gets, HRB.out, HB2.out, ← HCN.out]; exact hc2)
                        have hT3 := Lib.hid (hT2.out.set (p := ⟨w.heap.size + 1, nn, none⟩) (Nat.le_refl _) (.int .i64 ((d : Int) + 1)))
                        have hO3 : Hid (OwnL _ 3 (w.heap.size + 1) (some ⟨w.heap.size + 1, 0, none⟩) N N ((calM R C z s d (nn + 1)).take N)) := Lib.hid (by rw [← calM_hit (by rw [HN.out]; exact hnN) HG.out, take_set]; exact hO2.out.set nn _ hnN)
                        clear hT2 hO2
                        go_wp2_with fail
                        go_roundw
                        case rel => first | exact ⟨nn + 1, by omega, by go_num, hT3, hO3⟩ | ((repeat apply Exists.intro); exact ⟨⟨nn + 1, by omega, by go_num, hT3, hO3⟩, rfl⟩)
                        case measure => (simp [intOf] <;> omega)
                      · have c1 : decide ((2 : Int) ≤ (c : Int)) = false := by simp; omega
                        have c2 : decide (2 ≤ c) = false := by simp; omega
                        have HG : Hid (gets R C z (itr R C z s d) nn = false) := Lib.hid (by rw [HIR.out]; simp [gets, HRB.out, HB2.out, ← HCN.out]; omega)
                        have hO3 : Hid (OwnL w5 3 (w.heap.size + 1) (some ⟨w.heap.size + 1, 0, none⟩) N N ((calM R C z s d (nn + 1)).take N)) := Lib.hid (by rw [calM_miss HG.out]; exact hO2.out)
                        go_wp2_with fail
                        go_roundw
                        case rel => first | exact ⟨nn + 1, by omega, by go_num, hT2, hO3⟩ | ((repeat apply Exists.intro); exact ⟨⟨nn + 1, by omega, by go_num, hT2, hO3⟩, rfl⟩)
                        case measure => (simp [intOf] <;> omega)
            · obtain rfl : N = nn := by omega
              have hO2 : Hid (OwnL wr 3 (w.heap.size + 1) (some ⟨w.heap.size + 1, 0, none⟩) N N ((calA R C z s (d + 1)).take N)) := Lib.hid (by rw [← calM_fin, HN.out]; exact hO.out)
              clear hO
              go_wp2_with fail
              go_roundw
              case rel => first | exact ⟨d + 1, by omega, by go_num, hT, hO2⟩ | ((repeat apply Exists.intro); exact ⟨⟨d + 1, by omega, by go_num, hT, hO2⟩, rfl⟩)
              case measure => (simp [intOf] <;> omega)
        · obtain rfl : N = d := by omega
          have q0 : ¬ (N : Int) + 1 ≤ (N : Int) := by omega
          have q1 : decide ((N : Int) + 1 ≤ (N : Int)) = false := by simp; omega
          go_wp2_with fail
          go_ret
          exact ⟨_, _, rfl, by rw [← HRES.out]; exact hO.out, hT.out.below⟩
    end Go.Proofs.YtbhjphcomppjgaaDoor
