/- Walks of chapter 11: Arcs, flat. -/
import Derived.Test.YtjedmiegcbdedaaWo
import Derived.Test.YtjedmiegcbdedaaWh
namespace Go.Proofs.Ytjedmiegcbdedaa
open Go.RowKit Store11

theorem ret_iii {k1 k2 k3 : IntKind} {a b c a' b' c' : Int} (h1 : a = a') (h2 : b = b') (h3 : c = c') : Ending.returned (.tuple #[.int k1 a, .int k2 b, .int k3 c]) = .returned (.tuple #[.int k1 a', .int k2 b', .int k3 c']) := by rw [h1, h2, h3]

set_option maxHeartbeats 2000000 in
set_option maxRecDepth 100000 in
theorem Arcs_any (a : Option Addr) (n c : Nat) (l : List Int) (w : World) (h : IsL w a n c l) (hw : Wf l) :
    Calls Try.prog 35 #[.slice a n c] w fun e w' => e = .returned (.tuple #[.int .i64 (cnL l).1, .int .i64 (cnL l).2, .int .i64 (chkL l)]) ∧ Below w.heap.size w w' := by
  have hl := h.len
  by_cases hz : chkL l = 0
  · have hl9 := chkL_zero hz
    rw [hl] at hl9
    have HZ := Lib.hid hz
    have HV : Hid (cnL l = allC (arcR l) n) := Lib.hid (by rw [cnL, if_pos hz, cnR, hl])
    have HB : Hid (∀ i, 0 ≤ (arcR l).getD i 0 ∧ (arcR l).getD i 0 ≤ n) := Lib.hid (fun i => by have := arcK_bound l l.length i; rw [hl] at this; rw [arcR, hl]; exact this)
    clear hl hz
    go_enter Try.func35, Try.ntmps35
    go_wp2_with (first
      | (go_at_call 21; refine (Check_any a n c l _ h).mono ?_; rintro e w1 ⟨rfl, rfl⟩; rw [HZ.out])
      | (go_at_call 76; refine (arcs_any a n c l _ h hw (by omega)).mono ?_; rintro e w1 ⟨a1, rfl, hI, hb⟩))
    obtain ⟨b, o, rfl, _, hc⟩ := hI.cells (by omega)
    have HC := Lib.hid hc
    clear hc h hw
    generalize arcR l = N at *
    go_loop [20, 2, 3] (fun vi vc vd => ∃ i : Nat, i ≤ n ∧ vi = .int .i64 i ∧ vc = .int .i64 (allC N i).1 ∧ vd = .int .i64 (allC N i).2 ∧ 0 ≤ (allC N i).1 ∧ 0 ≤ (allC N i).2 ∧ (allC N i).1 ≤ 20 * (i : Int) ∧ (allC N i).2 ≤ 20 * (i : Int)) (fun vi _ _ => n - (intOf vi).toNat)
    case atStart => exact ⟨0, by omega, rfl, rfl, rfl, by simp [allC], by simp [allC], by simp [allC], by simp [allC]⟩
    case round =>
      obtain ⟨i, hi, rfl, rfl, rfl, p1, p2, p3, p4⟩ := hrel
      by_cases hlt : i < n
      · have hci := HC.out i hlt
        have hNi := HB.out i
        have q1 : (i : Int) < (n : Int) := by omega
        have hst : allC N (i + 1) = rowC N i (allC N i) (N.getD i 0 - (i + 1)).toNat := rfl
        have hrow0 : rowC N i (allC N i) 0 = allC N i := rfl
        have HST := Lib.hid hst
        have HR0 := Lib.hid hrow0
        clear hst hrow0
        obtain ⟨j, hj⟩ : ∃ j : Nat, N.getD i 0 = j := ⟨(N.getD i 0).toNat, by omega⟩
        have HJ := Lib.hid hj
        have hjn : j ≤ n := by omega
        rw [hj] at hci
        clear hj hNi
        go_wp2_with fail
        go_loop [9, 2, 3] (fun vk vc vd => ∃ m : Nat, (m = 0 ∨ i + 1 + m ≤ j) ∧ vk = .int .i64 ((i : Int) + 1 + (m : Int)) ∧ vc = .int .i64 (rowC N i (allC N i) m).1 ∧ vd = .int .i64 (rowC N i (allC N i) m).2 ∧ 0 ≤ (rowC N i (allC N i) m).1 ∧ 0 ≤ (rowC N i (allC N i) m).2 ∧ (rowC N i (allC N i) m).1 ≤ 20 * (i : Int) + m ∧ (rowC N i (allC N i) m).2 ≤ 20 * (i : Int) + m) (fun vk _ _ => j - (intOf vk).toNat)
        case atStart => exact ⟨0, .inl rfl, by go_num, by rw [HR0.out], by rw [HR0.out], by rw [HR0.out]; exact p1, by rw [HR0.out]; exact p2, by rw [HR0.out]; omega, by rw [HR0.out]; omega⟩
        case round =>
          clear p1 p2 p3 p4
          obtain ⟨m, hm, rfl, rfl, rfl, p1, p2, p3, p4⟩ := hrel
          by_cases hkj : i + 1 + m < j
          · have hck := HC.out (i + 1 + m) (by omega)
            have hS : rowC N i (allC N i) (m + 1) = stepC N (N.getD i 0) (rowC N i (allC N i) m) (i + 1 + m) := rfl
            obtain ⟨⟨c0, d0⟩, hR⟩ : ∃ R, rowC N i (allC N i) m = R := ⟨_, rfl⟩
            rw [hR] at p1 p2 p3 p4 hS ⊢
            rw [stepC, HJ.out] at hS
            clear hR
            simp only at p1 p2 p3 p4 hS ⊢
            have q3 : (i : Int) + 1 + (m : Int) < (j : Int) := by omega
            have q4 : (i : Int) + 1 + (m : Int) < (n : Int) := by omega
            have q5 : 0 ≤ (i : Int) + 1 + (m : Int) := by omega
            have q6 : ((i : Int) + 1 + (m : Int)).toNat = i + 1 + m := by omega
            have hmm : m ≤ 9 := by omega
            generalize N.getD (i + 1 + m) 0 = x at *
            rcases (by omega : (j : Int) < x ∨ (x ≤ (j : Int) ∧ 0 < x ∧ x < (j : Int)) ∨ (x ≤ (j : Int) ∧ x ≤ 0) ∨ (x ≤ (j : Int) ∧ 0 < x ∧ (j : Int) ≤ x)) with h1 | ⟨h0, h1, h2⟩ | ⟨h0, h1⟩ | ⟨h0, h1, h2⟩
            · rw [if_pos h1] at hS
              have HS := Lib.hid hS
              clear hS
              go_wp2
              go_round
              case rel => exact ⟨m + 1, .inr (by omega), by go_num, by rw [HS.out], by rw [HS.out], by rw [HS.out]; simp only; omega, by rw [HS.out]; simp only; omega, by rw [HS.out]; simp only; omega, by rw [HS.out]; simp only; omega⟩
              case measure => simp [intOf]; omega
            · rw [if_neg (by omega), if_pos ⟨h1, h2⟩] at hS
              have e1 : decide (0 < x) = true := by simpa using h1
              have e2 : decide (x < (j : Int)) = true := by simpa using h2
              have HS := Lib.hid hS
              clear hS
              go_wp2
              go_round
              case rel => exact ⟨m + 1, .inr (by omega), by go_num, by rw [HS.out], by rw [HS.out], by rw [HS.out]; simp only; omega, by rw [HS.out]; simp only; omega, by rw [HS.out]; simp only; omega, by rw [HS.out]; simp only; omega⟩
              case measure => simp [intOf]; omega
            · rw [if_neg (by omega), if_neg (fun h => by omega)] at hS
              have e1 : decide (0 < x) = false := by simpa using h1
              have HS := Lib.hid hS
              clear hS
              go_wp2
              go_round
              case rel => exact ⟨m + 1, .inr (by omega), by go_num, by rw [HS.out], by rw [HS.out], by rw [HS.out]; simp only; omega, by rw [HS.out]; simp only; omega, by rw [HS.out]; simp only; omega, by rw [HS.out]; simp only; omega⟩
              case measure => simp [intOf]; omega
            · rw [if_neg (by omega), if_neg (fun h => by omega)] at hS
              have e1 : decide (0 < x) = true := by simpa using h1
              have e2 : decide (x < (j : Int)) = false := by simpa using h2
              have HS := Lib.hid hS
              clear hS
              go_wp2
              go_round
              case rel => exact ⟨m + 1, .inr (by omega), by go_num, by rw [HS.out], by rw [HS.out], by rw [HS.out]; simp only; omega, by rw [HS.out]; simp only; omega, by rw [HS.out]; simp only; omega, by rw [HS.out]; simp only; omega⟩
              case measure => simp [intOf]; omega
          · have hE : Hid (rowC N i (allC N i) m = allC N (i + 1)) := Lib.hid (by
              rw [HST.out, HJ.out]
              have : ((j : Int) - ((i : Int) + 1)).toNat = m := by omega
              rw [this])
            have hmm : (m : Int) ≤ 9 := by omega
            rw [hE.out] at p1 p2 p3 p4 ⊢
            have q3 : (j : Int) ≤ (i : Int) + 1 + (m : Int) := by omega
            obtain ⟨⟨c0, d0⟩, hR⟩ : ∃ R, allC N (i + 1) = R := ⟨_, rfl⟩
            rw [hR] at p1 p2 p3 p4 ⊢
            have HR := Lib.hid hR
            clear hR
            simp only at p1 p2 p3 p4 ⊢
            go_wp2
            go_round
            case rel => exact ⟨i + 1, by omega, by go_num, by rw [HR.out], by rw [HR.out], by rw [HR.out]; exact p1, by rw [HR.out]; exact p2, by rw [HR.out]; simp only; omega, by rw [HR.out]; simp only; omega⟩
            case measure => simp [intOf]; omega
      · obtain rfl : i = n := by omega
        obtain ⟨R, hR⟩ : ∃ R, allC N i = R := ⟨_, rfl⟩
        rw [hR] at p1 p2 p3 p4 ⊢
        have HR : Hid (R = cnL l) := Lib.hid (by rw [HV.out, hR])
        clear hR
        go_wp2
        go_ret3
        exact ⟨ret_iii (by rw [HR.out]) (by rw [HR.out]) HZ.out.symm, hb⟩
  · have hq : (chkL l != 0) = true := by simpa using hz
    have HV : Hid (cnL l = (0, 0)) := Lib.hid (by rw [cnL, if_neg hz])
    clear hz hl
    go_enter Try.func35, Try.ntmps35
    go_wp2_with (go_at_call 21; refine (Check_any a n c l _ h).mono ?_; rintro e w1 ⟨rfl, rfl⟩)
    go_ret3
    exact ⟨ret_iii (by rw [HV.out]) (by rw [HV.out]) rfl, Below.refl _ _⟩

set_option maxHeartbeats 1000000 in
theorem flat_any (a : Option Addr) (n c : Nat) (l : List Int) (w : World) (h : IsL w a n c l) (hw : Wf l) :
    Calls Try.prog 79 #[.slice a n c] w fun e w' => e = .returned (.int .i64 (flatE l)) ∧ Below w.heap.size w w' := by
  by_cases hz : chkL l = 0
  · have HZ := Lib.hid hz
    have hc : cnL l = cnR l := by rw [cnL, if_pos hz]
    have hd : (chkL l == 0) = true := by simpa using hz
    by_cases h1 : 0 < (cnR l).1
    · have HV : Hid (13 = flatE l) := Lib.hid (by rw [flatE, if_pos hz, if_pos h1])
      rw [← hc] at h1
      have hd2 : decide (0 < (cnL l).1) = true := by simpa using h1
      clear hz hc h1
      go_enter Try.func79, Try.ntmps79
      go_wp2_with (go_at_call 35; refine (Arcs_any a n c l _ h hw).mono ?_; rintro e w1 ⟨rfl, hb⟩)
      go_ret
      exact ⟨ret_i HV.out, hb⟩
    · have HV : Hid (chkL l = flatE l) := Lib.hid (by rw [flatE, if_pos hz, if_neg h1, hz])
      rw [← hc] at h1
      have hd2 : decide (0 < (cnL l).1) = false := by simpa using h1
      clear hz hc h1
      go_enter Try.func79, Try.ntmps79
      go_wp2_with (go_at_call 35; refine (Arcs_any a n c l _ h hw).mono ?_; rintro e w1 ⟨rfl, hb⟩)
      go_ret
      exact ⟨ret_i HV.out, hb⟩
  · have hd : (chkL l == 0) = false := by simpa using hz
    have HV : Hid (chkL l = flatE l) := Lib.hid (by rw [flatE, if_neg hz])
    clear hz
    go_enter Try.func79, Try.ntmps79
    go_wp2_with (go_at_call 35; refine (Arcs_any a n c l _ h hw).mono ?_; rintro e w1 ⟨rfl, hb⟩)
    go_ret
    exact ⟨ret_i HV.out, hb⟩
end Go.Proofs.Ytjedmiegcbdedaa
