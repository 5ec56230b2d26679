/- Walks of chapter 11: the reference's crossings. -/
import Derived.Test.YtjedmiegcbdedaaRg
namespace Go.Proofs.Ytjedmiegcbdedaa
open Go.RowKit Store11

theorem rowX_R (A : List (Int × Int)) (x st : Int × Int) (k : Nat) (h : (A.getD k (0, 0)).1 < (A.getD k (0, 0)).2) : rowX A x st (k + 1) = stepR x (A.getD k (0, 0)) (rowX A x st k) := by
  rw [stepR_X _ _ _ h, rowX]
set_option maxHeartbeats 4000000 in
set_option maxRecDepth 100000 in
theorem rcrossed_any (a : Option Addr) (n c : Nat) (l : List Int) (w : World) (h : IsL w a n c l) (hn : n ≤ 100) :
    Calls Try.prog 77 #[.slice a n c] w fun e w' => e = .returned (.tuple #[.int .i64 (cnR l).1, .int .i64 (cnR l).2]) ∧ Below w.heap.size w w' := by
  have HCN : Hid (cnR l = allX (arcP l) (arcP l).length) := Lib.hid (by rw [← cnX_cnR, cnX])
  have HLT : Hid (∀ k, k < (arcP l).length → ((arcP l).getD k (0, 0)).1 < ((arcP l).getD k (0, 0)).2) := Lib.hid (fun k hk => arcP_lt l k hk)
  go_enter Try.func77, Try.ntmps77
  go_wp2_with fail
  refine (rarcs_any _ _ _ _ _ h hn).mono ?_
  rintro e w1 ⟨a', m, c', rfl, hO, hm, hb⟩
  obtain ⟨A, hA⟩ : ∃ A, arcP l = A := ⟨_, rfl⟩
  rw [hA] at hO HCN HLT
  have hAl := hO.len
  have HAL := Lib.hid hAl
  have hm9 : m ≤ 100 := by omega
  have hO := Lib.hid hO
  have hcp := hO.out.caps
  clear hA hAl h hm
  go_wp2_with fail
  go_loopw [7, 4, 5] (fun vk vc vn wr2 => ∃ k : Nat, k ≤ m ∧ vk = .int .i64 (k : Int) ∧ vc = .int .i64 (allX A k).1 ∧ vn = .int .i64 (allX A k).2 ∧ Hid (OwnP wr2 49 w.heap.size a' m c' A) ∧ Below w.heap.size w wr2) (fun vk _ _ _ => m - (intOf vk).toNat)
  case atStart => exact ⟨0, by omega, rfl, rfl, rfl, hO, hb⟩
  case round =>
    clear hO hb
    obtain ⟨i, hi, rfl, rfl, rfl, hO, hb⟩ := hrel
    by_cases hlt2 : i < m
    · obtain ⟨g, rfl, hg1, hg2⟩ := hO.out.addr (by omega)
      have q2 : (i : Int) < (m : Int) := by omega
      obtain ⟨p, hp⟩ : ∃ p, A.getD i (0, 0) = p := ⟨_, rfl⟩
      have hAb := allX_bound A i
      have hAl := HAL.out
      have hkm : i * A.length ≤ 10000 := Nat.le_trans (Nat.mul_le_mul (by omega : i ≤ 100) (by omega : A.length ≤ 100)) (by omega)
      have HS0 : Hid (allX A (i + 1) = rowX A p (allX A i) m) := Lib.hid (by rw [allX, hp, HAL.out])
      have HP := Lib.hid hp
      clear hp
      obtain ⟨s0, hs0⟩ : ∃ s0, allX A i = s0 := ⟨_, rfl⟩
      have HSS : Hid (allX A (i + 1) = rowX A p s0 m) := Lib.hid (by rw [HS0.out, hs0])
      have hAb2 : 0 ≤ s0.1 ∧ 0 ≤ s0.2 ∧ s0.1 ≤ 10000 ∧ s0.2 ≤ 10000 := by rw [← hs0]; omega
      have HB := Lib.hid hAb2
      rw [hs0]
      clear hAb hkm hs0 hAb2 HS0 hAl
      obtain ⟨p0, p1⟩ := p
      go_wp2_with fail
      go_loopw [8, 4, 5] (fun vj vc vn wr3 => ∃ j : Nat, j ≤ m ∧ vj = .int .i64 (j : Int) ∧ vc = .int .i64 (rowX A (p0, p1) s0 j).1 ∧ vn = .int .i64 (rowX A (p0, p1) s0 j).2 ∧ Hid (OwnP wr3 49 w.heap.size (some ⟨g, 0, none⟩) m c' A) ∧ Below w.heap.size w wr3) (fun vj _ _ _ => m - (intOf vj).toNat)
      case atStart => exact ⟨0, by omega, rfl, rfl, rfl, hO, hb⟩
      case round =>
        clear hO hb
        obtain ⟨k, hk, rfl, rfl, rfl, hO, hb⟩ := hrel
        by_cases hlt3 : k < m
        · obtain ⟨x0, x1⟩ := hO.out.cell i hlt2
          obtain ⟨y0, y1⟩ := hO.out.cell k hlt3
          rw [HP.out] at x0 x1
          simp only [] at x0 x1
          have q3 : (k : Int) < (m : Int) := by omega
          have hRb := rowX_bound A (p0, p1) s0 10000 HB.out k
          have hqq := HLT.out k (by rw [HAL.out]; exact hlt3)
          have HS1 := rowX_R A (p0, p1) s0 k hqq
          obtain ⟨q, hq⟩ : ∃ q, A.getD k (0, 0) = q := ⟨_, rfl⟩
          rw [hq] at y0 y1 hqq HS1
          have HS := Lib.hid HS1
          clear hq HS1
          obtain ⟨st, hst⟩ : ∃ st, rowX A (p0, p1) s0 k = st := ⟨_, rfl⟩
          rw [hst] at HS hRb ⊢
          clear hst
          obtain ⟨st0, st1⟩ := st
          obtain ⟨q0, q1⟩ := q
          simp only [] at y0 y1 hRb hqq
          obtain ⟨b1, b2, b3, b4⟩ := hRb
          have b3' : st0 ≤ 100000 := by omega
          have b4' : st1 ≤ 100000 := by omega
          clear b3 b4
          by_cases c1 : p0 < q0
          · by_cases c2 : q0 < p1
            · by_cases c3 : p1 < q1
              · have e0 := 0
                have d1 : decide (p0 < q0) = true := by simp; omega
                have d2 : decide (q0 < p1) = true := by simp; omega
                have d3 : decide (p1 < q1) = true := by simp; omega
                have d4 : decide (q1 < p1) = false := by simp; omega
                have HT : Hid (stepR (p0, p1) (q0, q1) (st0, st1) = (st0 + 1, st1)) := Lib.hid (by unfold stepR; simp only []; rw [if_pos ⟨c1, c2, c3⟩, if_neg (by omega)])
                go_wp2_with fail
                go_quiet (fail)
                go_wp2_with fail
                go_quiet (fail)
                go_wp2
                go_roundw
                case rel => first | exact ⟨k + 1, by omega, by go_num, by rw [HS.out, HT.out], by rw [HS.out, HT.out], Lib.hid (hO.out.drewN _), belowN hb _⟩ | ((repeat apply Exists.intro); exact ⟨⟨k + 1, by omega, by go_num, by rw [HS.out, HT.out], by rw [HS.out, HT.out], Lib.hid (hO.out.drewN _), belowN hb _⟩, rfl⟩)
                case measure => (simp [intOf] <;> omega)
              · by_cases c4 : q1 < p1
                · have e0 := 0
                  have d1 : decide (p0 < q0) = true := by simp; omega
                  have d2 : decide (q0 < p1) = true := by simp; omega
                  have d3 : decide (p1 < q1) = false := by simp; omega
                  have d4 : decide (q1 < p1) = true := by simp; omega
                  have HT : Hid (stepR (p0, p1) (q0, q1) (st0, st1) = (st0, st1 + 1)) := Lib.hid (by unfold stepR; simp only []; rw [if_neg (by omega), if_pos ⟨c1, c4⟩])
                  go_wp2_with fail
                  go_quiet (fail)
                  go_wp2_with fail
                  go_quiet (fail)
                  go_wp2
                  go_roundw
                  case rel => first | exact ⟨k + 1, by omega, by go_num, by rw [HS.out, HT.out], by rw [HS.out, HT.out], Lib.hid (hO.out.drewN _), belowN hb _⟩ | ((repeat apply Exists.intro); exact ⟨⟨k + 1, by omega, by go_num, by rw [HS.out, HT.out], by rw [HS.out, HT.out], Lib.hid (hO.out.drewN _), belowN hb _⟩, rfl⟩)
                  case measure => (simp [intOf] <;> omega)
                · have e0 := 0
                  have d1 : decide (p0 < q0) = true := by simp; omega
                  have d2 : decide (q0 < p1) = true := by simp; omega
                  have d3 : decide (p1 < q1) = false := by simp; omega
                  have d4 : decide (q1 < p1) = false := by simp; omega
                  have HT : Hid (stepR (p0, p1) (q0, q1) (st0, st1) = (st0, st1)) := Lib.hid (by unfold stepR; simp only []; rw [if_neg (by omega), if_neg (by omega)])
                  go_wp2_with fail
                  go_quiet (fail)
                  go_wp2_with fail
                  go_quiet (fail)
                  go_wp2
                  go_roundw
                  case rel => first | exact ⟨k + 1, by omega, by go_num, by rw [HS.out, HT.out], by rw [HS.out, HT.out], Lib.hid (hO.out.drewN _), belowN hb _⟩ | ((repeat apply Exists.intro); exact ⟨⟨k + 1, by omega, by go_num, by rw [HS.out, HT.out], by rw [HS.out, HT.out], Lib.hid (hO.out.drewN _), belowN hb _⟩, rfl⟩)
                  case measure => (simp [intOf] <;> omega)
            · have e0 := 0
              have d1 : decide (p0 < q0) = true := by simp; omega
              have d2 : decide (q0 < p1) = false := by simp; omega
              have d4 : decide (q1 < p1) = false := by simp; omega
              have HT : Hid (stepR (p0, p1) (q0, q1) (st0, st1) = (st0, st1)) := Lib.hid (by unfold stepR; simp only []; rw [if_neg (by omega), if_neg (by omega)])
              go_wp2_with fail
              go_quiet (fail)
              go_wp2_with fail
              go_quiet (fail)
              go_wp2
              go_roundw
              case rel => first | exact ⟨k + 1, by omega, by go_num, by rw [HS.out, HT.out], by rw [HS.out, HT.out], Lib.hid (hO.out.drewN _), belowN hb _⟩ | ((repeat apply Exists.intro); exact ⟨⟨k + 1, by omega, by go_num, by rw [HS.out, HT.out], by rw [HS.out, HT.out], Lib.hid (hO.out.drewN _), belowN hb _⟩, rfl⟩)
              case measure => (simp [intOf] <;> omega)
          · have e0 := 0
            have d1 : decide (p0 < q0) = false := by simp; omega
            have HT : Hid (stepR (p0, p1) (q0, q1) (st0, st1) = (st0, st1)) := Lib.hid (by unfold stepR; simp only []; rw [if_neg (by omega), if_neg (by omega)])
            go_wp2_with fail
            go_quiet (fail)
            go_wp2_with fail
            go_quiet (fail)
            go_wp2
            go_roundw
            case rel => first | exact ⟨k + 1, by omega, by go_num, by rw [HS.out, HT.out], by rw [HS.out, HT.out], Lib.hid (hO.out.drewN _), belowN hb _⟩ | ((repeat apply Exists.intro); exact ⟨⟨k + 1, by omega, by go_num, by rw [HS.out, HT.out], by rw [HS.out, HT.out], Lib.hid (hO.out.drewN _), belowN hb _⟩, rfl⟩)
            case measure => (simp [intOf] <;> omega)
        · obtain rfl : k = m := by omega
          go_wp2
          go_roundw
          case rel => first | exact ⟨i + 1, by omega, by go_num, by rw [HSS.out], by rw [HSS.out], hO, hb⟩ | ((repeat apply Exists.intro); exact ⟨⟨i + 1, by omega, by go_num, by rw [HSS.out], by rw [HSS.out], hO, hb⟩, rfl⟩)
          case measure => (simp [intOf] <;> omega)
    · obtain rfl : i = m := by omega
      go_wp2
      go_ret2
      exact ⟨ret_ii (by rw [HCN.out, HAL.out]) (by rw [HCN.out, HAL.out]), hb⟩
theorem rArcs_any (a : Option Addr) (n c : Nat) (l : List Int) (w : World) (h : IsL w a n c l) :
    Calls Try.prog 36 #[.slice a n c] w fun e w' => e = .returned (.tuple #[.int .i64 (cnL l).1, .int .i64 (cnL l).2, .int .i64 (chkL l)]) ∧ Below w.heap.size w w' := by
  by_cases hc : chkL l = 0
  · have hs := chkL_size hc
    have hl := h.len
    have HC := Lib.hid hc
    have HN : Hid (cnL l = cnR l) := Lib.hid (by rw [cnL, if_pos hc])
    have hn : n ≤ 100 := by omega
    clear hc hs hl
    go_enter Try.func36, Try.ntmps36
    go_wp2_with fail
    refine (rCheck_any _ _ _ _ _ h).mono ?_
    rintro e w1 ⟨rfl, b1⟩
    rw [HC.out]
    go_wp2_with fail
    refine (rcrossed_any _ _ _ _ _ (h.below b1) hn).mono ?_
    rintro e w2 ⟨rfl, b2⟩
    go_wp2
    go_ret3
    exact ⟨by rw [HN.out, HC.out]; rfl, b1.trans (b2.mono b1.size)⟩
  · obtain ⟨e0, he0⟩ : ∃ e0, chkL l = e0 := ⟨_, rfl⟩
    have HN : Hid (cnL l = (0, 0)) := Lib.hid (by rw [cnL, if_neg hc])
    have hne : (e0 != 0) = true := by simpa [he0] using hc
    have hne2 : (e0 == 0) = false := by simpa [he0] using hc
    have HE := Lib.hid he0
    clear he0 hc
    go_enter Try.func36, Try.ntmps36
    go_wp2_with fail
    refine (rCheck_any _ _ _ _ _ h).mono ?_
    rintro e w1 ⟨rfl, b1⟩
    rw [HE.out]
    go_wp2
    go_ret3
    exact ⟨by rw [HN.out, HE.out]; rfl, b1⟩
end Go.Proofs.Ytjedmiegcbdedaa
