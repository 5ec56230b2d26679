/- Walks of chapter 9: the reference: the neighbours of a bale. -/
import Derived.Test.YtbhjphcomppjgaaDoorRb
import Derived.BigQuiet
namespace Go.Proofs.YtbhjphcomppjgaaDoor
open Go.RowKit Beetle09
theorem BoxS.toB {w wr w' : World} {t : TypeId} {L : List Value} (h : BoxS w wr t L) (hb : Below (w.heap.size + 1) wr w') : BoxS w w' t L := ⟨(hb.block w.heap.size (Nat.lt_succ_self _)).trans h.box, h.below.trans (hb.mono (Nat.le_succ _))⟩
theorem BoxS.lt {w wr : World} {t : TypeId} {L : List Value} (h : BoxS w wr t L) : w.heap.size + 1 ≤ wr.heap.size := h.box.lt
theorem BoxS.alloc {w wr : World} {t : TypeId} {L : List Value} (h : BoxS w wr t L) (x : Obj) : BoxS w (wr.alloc x) t L := h.to ((Below.refl _ _).alloc (Nat.le_refl _) _)
set_option maxHeartbeats 8000000 in
set_option maxRecDepth 100000 in
theorem beside_any (R C : Nat) (a b : Option Addr) (n k m j i : Nat) (w : World) (hR : R ≤ 5) (hC : C ≤ 5) (hC1 : 1 ≤ C) (hi : i < R * C) : Calls Tryd.prog 59 #[stV R C a b n k m j, .int .i64 (i : Int)] w fun e w' => ∃ x c, e = .returned (.slice x (nb R C i).length c) ∧ OwnL w' 3 (w.heap.size + 1) x (nb R C i).length c (li (nb R C i)) ∧ Below w.heap.size w w' := by
  have hi25 : i < 25 := Nat.lt_of_lt_of_le hi (Nat.le_trans (Nat.mul_le_mul hR hC) (by decide))
  obtain ⟨q, hq⟩ : ∃ q, i / C = q := ⟨_, rfl⟩
  obtain ⟨t, ht⟩ : ∃ t, i % C = t := ⟨_, rfl⟩
  have f1 : (i : Int) / (C : Int) = (q : Int) := by rw [← hq]; simp
  have f2 : (i : Int) % (C : Int) = (t : Int) := by rw [← ht]; simp
  have f3 : ((C : Int) == 0) = false := by simp; omega
  have f4 : (0 : Int) < (C : Int) := by omega
  have f5 : ¬ (C : Int) = 0 := by omega
  have hqR : q < R := by rw [← hq]; exact (Nat.div_lt_iff_lt_mul (by omega)).2 hi
  have htC : t < C := by rw [← ht]; exact Nat.mod_lt _ (by omega)
  have hci : 0 < q → C ≤ i := fun h => by
    rcases Nat.lt_or_ge i C with h2 | h2
    · rw [Nat.div_eq_of_lt h2] at hq; omega
    · exact h2
  have HCI := Lib.hid hci
  have hti : t ≤ i := by rw [← ht]; exact Nat.mod_le _ _
  have HNB : Hid (nb R C i = (if 0 < q then [i - C] else []) ++ ((if 0 < t then [i - 1] else []) ++ ((if t + 1 < C then [i + 1] else []) ++ (if q + 1 < R then [i + C] else [])))) := Lib.hid (by unfold nb; rw [hq, ht])
  obtain ⟨NB, hNB⟩ : ∃ NB, nb R C i = NB := ⟨_, rfl⟩
  rw [hNB] at HNB ⊢
  have HB0 := Lib.hid (BoxS.start w (bxL R C a b n k m j) 27)
  have x0 := val HB0.out.box 0 rfl
  have x1 := val HB0.out.box 1 rfl
  have ho := OwnL.nilL (w.alloc (.cells (bxL R C a b n k m j).toArray 27)).drew 3 (w.heap.size + 1)
  clear hq ht hci hNB hi
  go_enter Tryd.func59, Tryd.ntmps59
  go_wp2_with fail
  go_quiet (fail)
  have hT : BoxS w ((w.alloc (.cells (bxL R C a b n k m j).toArray 27)).drewN nq) 27 (bxL R C a b n k m j) := HB0.out.to (belowN (Below.refl _ _) _)
  have hO : OwnL ((w.alloc (.cells (bxL R C a b n k m j).toArray 27)).drewN nq) 3 (w.heap.size + 1) none 0 0 (li []) := OwnL.nilL _ _ _
  obtain ⟨w0, hw0⟩ : ∃ w0, (w.alloc (.cells (bxL R C a b n k m j).toArray 27)).drewN nq = w0 := ⟨_, rfl⟩
  simp only [bxL] at hw0 hT hO
  rw [hw0] at hT hO ⊢
  clear HB0 ho hw0 x0 x1
  by_cases h1 : 0 < q
  · have d1a : decide (0 < q) = true := by simp; omega
    obtain ⟨u0, hu0⟩ : ∃ u0 : Nat, (i : Int) - (C : Int) = (u0 : Int) := ⟨i - C, by have := HCI.out h1; omega⟩
    have Hu0 : Hid (i - C = u0) := Lib.hid (by have := HCI.out h1; omega)
    have x0 := val hT.box 0 rfl
    have x1 := val hT.box 1 rfl
    have hz := hT.lt
    go_wp2_with (at_builtin; refine wl_app_own Tryd.underlying22 elem3 (w.heap.size + 1) (.tmp 18) (.tmp 23) rfl rfl rfl rfl (hO.alloc _) (isL_one _ _ _) (by simp; omega) (by omega) ?_)
    intro a0 c0 w1 ho0 hg0 hb0 _
    replace hO : OwnL w1 3 (w.heap.size + 1) a0 1 c0 (li [i - C]) := by rw [Hu0.out]; exact ho0
    replace hT := (hT.alloc (.cells #[.int .i64 (u0 : Int)] 3)).toB hb0
    clear ho0 hg0 hb0 x0 x1 hz hu0
    by_cases h2 : 0 < t
    · have d2a : decide (0 < t) = true := by simp; omega
      obtain ⟨u1, hu1⟩ : ∃ u1 : Nat, (i : Int) - 1 = (u1 : Int) := ⟨i - 1, by omega⟩
      have Hu1 : Hid (i - 1 = u1) := Lib.hid (by omega)
      have x0 := val hT.box 0 rfl
      have x1 := val hT.box 1 rfl
      have hz := hT.lt
      go_wp2_with (at_builtin; refine wl_app_own Tryd.underlying22 elem3 (w.heap.size + 1) (.tmp 27) (.tmp 30) rfl rfl rfl rfl (hO.alloc _) (isL_one _ _ _) (by simp; omega) (by omega) ?_)
      intro a1 c1 w2 ho1 hg1 hb1 _
      replace hO : OwnL w2 3 (w.heap.size + 1) a1 2 c1 (li [i - C, i - 1]) := by rw [Hu1.out]; exact ho1
      replace hT := (hT.alloc (.cells #[.int .i64 (u1 : Int)] 3)).toB hb1
      clear ho1 hg1 hb1 x0 x1 hz hu1
      by_cases h3 : t + 1 < C
      · have d3a : decide ((t : Int) < (C : Int) - 1) = true := by simp; omega
        obtain ⟨u2, hu2⟩ : ∃ u2 : Nat, (i : Int) + 1 = (u2 : Int) := ⟨i + 1, by omega⟩
        have Hu2 : Hid (i + 1 = u2) := Lib.hid (by omega)
        have x0 := val hT.box 0 rfl
        have x1 := val hT.box 1 rfl
        have hz := hT.lt
        go_wp2_with (at_builtin; refine wl_app_own Tryd.underlying22 elem3 (w.heap.size + 1) (.tmp 37) (.tmp 40) rfl rfl rfl rfl (hO.alloc _) (isL_one _ _ _) (by simp; omega) (by omega) ?_)
        intro a2 c2 w3 ho2 hg2 hb2 _
        replace hO : OwnL w3 3 (w.heap.size + 1) a2 3 c2 (li [i - C, i - 1, i + 1]) := by rw [Hu2.out]; exact ho2
        replace hT := (hT.alloc (.cells #[.int .i64 (u2 : Int)] 3)).toB hb2
        clear ho2 hg2 hb2 x0 x1 hz hu2
        by_cases h4 : q + 1 < R
        · have d4a : decide ((q : Int) < (R : Int) - 1) = true := by simp; omega
          obtain ⟨u3, hu3⟩ : ∃ u3 : Nat, (i : Int) + (C : Int) = (u3 : Int) := ⟨i + C, by omega⟩
          have Hu3 : Hid (i + C = u3) := Lib.hid (by omega)
          have x0 := val hT.box 0 rfl
          have x1 := val hT.box 1 rfl
          have hz := hT.lt
          go_wp2_with (at_builtin; refine wl_app_own Tryd.underlying22 elem3 (w.heap.size + 1) (.tmp 47) (.tmp 52) rfl rfl rfl rfl (hO.alloc _) (isL_one _ _ _) (by simp; omega) (by omega) ?_)
          intro a3 c3 w4 ho3 hg3 hb3 _
          replace hO : OwnL w4 3 (w.heap.size + 1) a3 4 c3 (li [i - C, i - 1, i + 1, i + C]) := by rw [Hu3.out]; exact ho3
          replace hT := (hT.alloc (.cells #[.int .i64 (u3 : Int)] 3)).toB hb3
          clear ho3 hg3 hb3 x0 x1 hz hu3
          have HF : Hid (NB = [i - C, i - 1, i + 1, i + C]) := Lib.hid (by rw [HNB.out, if_pos h1, if_pos h2, if_pos h3, if_pos h4]; rfl)
          have HOF := hO
          have HBF := hT.below
          have x0 := val hT.box 0 rfl
          have x1 := val hT.box 1 rfl
          clear hO hT
          go_wp2_with fail
          go_ret
          exact ⟨a3, c3, by rw [HF.out]; rfl, by rw [HF.out]; exact HOF, HBF⟩
        · have d4a : decide ((q : Int) < (R : Int) - 1) = false := by simp; omega
          have HF : Hid (NB = [i - C, i - 1, i + 1]) := Lib.hid (by rw [HNB.out, if_pos h1, if_pos h2, if_pos h3, if_neg h4]; rfl)
          have HOF := hO
          have HBF := hT.below
          have x0 := val hT.box 0 rfl
          have x1 := val hT.box 1 rfl
          clear hO hT
          go_wp2_with fail
          go_ret
          exact ⟨a2, c2, by rw [HF.out]; rfl, by rw [HF.out]; exact HOF, HBF⟩
      · have d3a : decide ((t : Int) < (C : Int) - 1) = false := by simp; omega
        by_cases h4 : q + 1 < R
        · have d4a : decide ((q : Int) < (R : Int) - 1) = true := by simp; omega
          obtain ⟨u3, hu3⟩ : ∃ u3 : Nat, (i : Int) + (C : Int) = (u3 : Int) := ⟨i + C, by omega⟩
          have Hu3 : Hid (i + C = u3) := Lib.hid (by omega)
          have x0 := val hT.box 0 rfl
          have x1 := val hT.box 1 rfl
          have hz := hT.lt
          go_wp2_with (at_builtin; refine wl_app_own Tryd.underlying22 elem3 (w.heap.size + 1) (.tmp 47) (.tmp 52) rfl rfl rfl rfl (hO.alloc _) (isL_one _ _ _) (by simp; omega) (by omega) ?_)
          intro a3 c3 w4 ho3 hg3 hb3 _
          replace hO : OwnL w4 3 (w.heap.size + 1) a3 3 c3 (li [i - C, i - 1, i + C]) := by rw [Hu3.out]; exact ho3
          replace hT := (hT.alloc (.cells #[.int .i64 (u3 : Int)] 3)).toB hb3
          clear ho3 hg3 hb3 x0 x1 hz hu3
          have HF : Hid (NB = [i - C, i - 1, i + C]) := Lib.hid (by rw [HNB.out, if_pos h1, if_pos h2, if_neg h3, if_pos h4]; rfl)
          have HOF := hO
          have HBF := hT.below
          have x0 := val hT.box 0 rfl
          have x1 := val hT.box 1 rfl
          clear hO hT
          go_wp2_with fail
          go_ret
          exact ⟨a3, c3, by rw [HF.out]; rfl, by rw [HF.out]; exact HOF, HBF⟩
        · have d4a : decide ((q : Int) < (R : Int) - 1) = false := by simp; omega
          have HF : Hid (NB = [i - C, i - 1]) := Lib.hid (by rw [HNB.out, if_pos h1, if_pos h2, if_neg h3, if_neg h4]; rfl)
          have HOF := hO
          have HBF := hT.below
          have x0 := val hT.box 0 rfl
          have x1 := val hT.box 1 rfl
          clear hO hT
          go_wp2_with fail
          go_ret
          exact ⟨a1, c1, by rw [HF.out]; rfl, by rw [HF.out]; exact HOF, HBF⟩
    · have d2a : decide (0 < t) = false := by simp; omega
      by_cases h3 : t + 1 < C
      · have d3a : decide ((t : Int) < (C : Int) - 1) = true := by simp; omega
        obtain ⟨u2, hu2⟩ : ∃ u2 : Nat, (i : Int) + 1 = (u2 : Int) := ⟨i + 1, by omega⟩
        have Hu2 : Hid (i + 1 = u2) := Lib.hid (by omega)
        have x0 := val hT.box 0 rfl
        have x1 := val hT.box 1 rfl
        have hz := hT.lt
        go_wp2_with (at_builtin; refine wl_app_own Tryd.underlying22 elem3 (w.heap.size + 1) (.tmp 37) (.tmp 40) rfl rfl rfl rfl (hO.alloc _) (isL_one _ _ _) (by simp; omega) (by omega) ?_)
        intro a2 c2 w3 ho2 hg2 hb2 _
        replace hO : OwnL w3 3 (w.heap.size + 1) a2 2 c2 (li [i - C, i + 1]) := by rw [Hu2.out]; exact ho2
        replace hT := (hT.alloc (.cells #[.int .i64 (u2 : Int)] 3)).toB hb2
        clear ho2 hg2 hb2 x0 x1 hz hu2
        by_cases h4 : q + 1 < R
        · have d4a : decide ((q : Int) < (R : Int) - 1) = true := by simp; omega
          obtain ⟨u3, hu3⟩ : ∃ u3 : Nat, (i : Int) + (C : Int) = (u3 : Int) := ⟨i + C, by omega⟩
          have Hu3 : Hid (i + C = u3) := Lib.hid (by omega)
          have x0 := val hT.box 0 rfl
          have x1 := val hT.box 1 rfl
          have hz := hT.lt
          go_wp2_with (at_builtin; refine wl_app_own Tryd.underlying22 elem3 (w.heap.size + 1) (.tmp 47) (.tmp 52) rfl rfl rfl rfl (hO.alloc _) (isL_one _ _ _) (by simp; omega) (by omega) ?_)
          intro a3 c3 w4 ho3 hg3 hb3 _
          replace hO : OwnL w4 3 (w.heap.size + 1) a3 3 c3 (li [i - C, i + 1, i + C]) := by rw [Hu3.out]; exact ho3
          replace hT := (hT.alloc (.cells #[.int .i64 (u3 : Int)] 3)).toB hb3
          clear ho3 hg3 hb3 x0 x1 hz hu3
          have HF : Hid (NB = [i - C, i + 1, i + C]) := Lib.hid (by rw [HNB.out, if_pos h1, if_neg h2, if_pos h3, if_pos h4]; rfl)
          have HOF := hO
          have HBF := hT.below
          have x0 := val hT.box 0 rfl
          have x1 := val hT.box 1 rfl
          clear hO hT
          go_wp2_with fail
          go_ret
          exact ⟨a3, c3, by rw [HF.out]; rfl, by rw [HF.out]; exact HOF, HBF⟩
        · have d4a : decide ((q : Int) < (R : Int) - 1) = false := by simp; omega
          have HF : Hid (NB = [i - C, i + 1]) := Lib.hid (by rw [HNB.out, if_pos h1, if_neg h2, if_pos h3, if_neg h4]; rfl)
          have HOF := hO
          have HBF := hT.below
          have x0 := val hT.box 0 rfl
          have x1 := val hT.box 1 rfl
          clear hO hT
          go_wp2_with fail
          go_ret
          exact ⟨a2, c2, by rw [HF.out]; rfl, by rw [HF.out]; exact HOF, HBF⟩
      · have d3a : decide ((t : Int) < (C : Int) - 1) = false := by simp; omega
        by_cases h4 : q + 1 < R
        · have d4a : decide ((q : Int) < (R : Int) - 1) = true := by simp; omega
          obtain ⟨u3, hu3⟩ : ∃ u3 : Nat, (i : Int) + (C : Int) = (u3 : Int) := ⟨i + C, by omega⟩
          have Hu3 : Hid (i + C = u3) := Lib.hid (by omega)
          have x0 := val hT.box 0 rfl
          have x1 := val hT.box 1 rfl
          have hz := hT.lt
          go_wp2_with (at_builtin; refine wl_app_own Tryd.underlying22 elem3 (w.heap.size + 1) (.tmp 47) (.tmp 52) rfl rfl rfl rfl (hO.alloc _) (isL_one _ _ _) (by simp; omega) (by omega) ?_)
          intro a3 c3 w4 ho3 hg3 hb3 _
          replace hO : OwnL w4 3 (w.heap.size + 1) a3 2 c3 (li [i - C, i + C]) := by rw [Hu3.out]; exact ho3
          replace hT := (hT.alloc (.cells #[.int .i64 (u3 : Int)] 3)).toB hb3
          clear ho3 hg3 hb3 x0 x1 hz hu3
          have HF : Hid (NB = [i - C, i + C]) := Lib.hid (by rw [HNB.out, if_pos h1, if_neg h2, if_neg h3, if_pos h4]; rfl)
          have HOF := hO
          have HBF := hT.below
          have x0 := val hT.box 0 rfl
          have x1 := val hT.box 1 rfl
          clear hO hT
          go_wp2_with fail
          go_ret
          exact ⟨a3, c3, by rw [HF.out]; rfl, by rw [HF.out]; exact HOF, HBF⟩
        · have d4a : decide ((q : Int) < (R : Int) - 1) = false := by simp; omega
          have HF : Hid (NB = [i - C]) := Lib.hid (by rw [HNB.out, if_pos h1, if_neg h2, if_neg h3, if_neg h4]; rfl)
          have HOF := hO
          have HBF := hT.below
          have x0 := val hT.box 0 rfl
          have x1 := val hT.box 1 rfl
          clear hO hT
          go_wp2_with fail
          go_ret
          exact ⟨a0, c0, by rw [HF.out]; rfl, by rw [HF.out]; exact HOF, HBF⟩
  · have d1a : decide (0 < q) = false := by simp; omega
    by_cases h2 : 0 < t
    · have d2a : decide (0 < t) = true := by simp; omega
      obtain ⟨u1, hu1⟩ : ∃ u1 : Nat, (i : Int) - 1 = (u1 : Int) := ⟨i - 1, by omega⟩
      have Hu1 : Hid (i - 1 = u1) := Lib.hid (by omega)
      have x0 := val hT.box 0 rfl
      have x1 := val hT.box 1 rfl
      have hz := hT.lt
      go_wp2_with (at_builtin; refine wl_app_own Tryd.underlying22 elem3 (w.heap.size + 1) (.tmp 27) (.tmp 30) rfl rfl rfl rfl (hO.alloc _) (isL_one _ _ _) (by simp; omega) (by omega) ?_)
      intro a1 c1 w2 ho1 hg1 hb1 _
      replace hO : OwnL w2 3 (w.heap.size + 1) a1 1 c1 (li [i - 1]) := by rw [Hu1.out]; exact ho1
      replace hT := (hT.alloc (.cells #[.int .i64 (u1 : Int)] 3)).toB hb1
      clear ho1 hg1 hb1 x0 x1 hz hu1
      by_cases h3 : t + 1 < C
      · have d3a : decide ((t : Int) < (C : Int) - 1) = true := by simp; omega
        obtain ⟨u2, hu2⟩ : ∃ u2 : Nat, (i : Int) + 1 = (u2 : Int) := ⟨i + 1, by omega⟩
        have Hu2 : Hid (i + 1 = u2) := Lib.hid (by omega)
        have x0 := val hT.box 0 rfl
        have x1 := val hT.box 1 rfl
        have hz := hT.lt
        go_wp2_with (at_builtin; refine wl_app_own Tryd.underlying22 elem3 (w.heap.size + 1) (.tmp 37) (.tmp 40) rfl rfl rfl rfl (hO.alloc _) (isL_one _ _ _) (by simp; omega) (by omega) ?_)
        intro a2 c2 w3 ho2 hg2 hb2 _
        replace hO : OwnL w3 3 (w.heap.size + 1) a2 2 c2 (li [i - 1, i + 1]) := by rw [Hu2.out]; exact ho2
        replace hT := (hT.alloc (.cells #[.int .i64 (u2 : Int)] 3)).toB hb2
        clear ho2 hg2 hb2 x0 x1 hz hu2
        by_cases h4 : q + 1 < R
        · have d4a : decide ((q : Int) < (R : Int) - 1) = true := by simp; omega
          obtain ⟨u3, hu3⟩ : ∃ u3 : Nat, (i : Int) + (C : Int) = (u3 : Int) := ⟨i + C, by omega⟩
          have Hu3 : Hid (i + C = u3) := Lib.hid (by omega)
          have x0 := val hT.box 0 rfl
          have x1 := val hT.box 1 rfl
          have hz := hT.lt
          go_wp2_with (at_builtin; refine wl_app_own Tryd.underlying22 elem3 (w.heap.size + 1) (.tmp 47) (.tmp 52) rfl rfl rfl rfl (hO.alloc _) (isL_one _ _ _) (by simp; omega) (by omega) ?_)
          intro a3 c3 w4 ho3 hg3 hb3 _
          replace hO : OwnL w4 3 (w.heap.size + 1) a3 3 c3 (li [i - 1, i + 1, i + C]) := by rw [Hu3.out]; exact ho3
          replace hT := (hT.alloc (.cells #[.int .i64 (u3 : Int)] 3)).toB hb3
          clear ho3 hg3 hb3 x0 x1 hz hu3
          have HF : Hid (NB = [i - 1, i + 1, i + C]) := Lib.hid (by rw [HNB.out, if_neg h1, if_pos h2, if_pos h3, if_pos h4]; rfl)
          have HOF := hO
          have HBF := hT.below
          have x0 := val hT.box 0 rfl
          have x1 := val hT.box 1 rfl
          clear hO hT
          go_wp2_with fail
          go_ret
          exact ⟨a3, c3, by rw [HF.out]; rfl, by rw [HF.out]; exact HOF, HBF⟩
        · have d4a : decide ((q : Int) < (R : Int) - 1) = false := by simp; omega
          have HF : Hid (NB = [i - 1, i + 1]) := Lib.hid (by rw [HNB.out, if_neg h1, if_pos h2, if_pos h3, if_neg h4]; rfl)
          have HOF := hO
          have HBF := hT.below
          have x0 := val hT.box 0 rfl
          have x1 := val hT.box 1 rfl
          clear hO hT
          go_wp2_with fail
          go_ret
          exact ⟨a2, c2, by rw [HF.out]; rfl, by rw [HF.out]; exact HOF, HBF⟩
      · have d3a : decide ((t : Int) < (C : Int) - 1) = false := by simp; omega
        by_cases h4 : q + 1 < R
        · have d4a : decide ((q : Int) < (R : Int) - 1) = true := by simp; omega
          obtain ⟨u3, hu3⟩ : ∃ u3 : Nat, (i : Int) + (C : Int) = (u3 : Int) := ⟨i + C, by omega⟩
          have Hu3 : Hid (i + C = u3) := Lib.hid (by omega)
          have x0 := val hT.box 0 rfl
          have x1 := val hT.box 1 rfl
          have hz := hT.lt
          go_wp2_with (at_builtin; refine wl_app_own Tryd.underlying22 elem3 (w.heap.size + 1) (.tmp 47) (.tmp 52) rfl rfl rfl rfl (hO.alloc _) (isL_one _ _ _) (by simp; omega) (by omega) ?_)
          intro a3 c3 w4 ho3 hg3 hb3 _
          replace hO : OwnL w4 3 (w.heap.size + 1) a3 2 c3 (li [i - 1, i + C]) := by rw [Hu3.out]; exact ho3
          replace hT := (hT.alloc (.cells #[.int .i64 (u3 : Int)] 3)).toB hb3
          clear ho3 hg3 hb3 x0 x1 hz hu3
          have HF : Hid (NB = [i - 1, i + C]) := Lib.hid (by rw [HNB.out, if_neg h1, if_pos h2, if_neg h3, if_pos h4]; rfl)
          have HOF := hO
          have HBF := hT.below
          have x0 := val hT.box 0 rfl
          have x1 := val hT.box 1 rfl
          clear hO hT
          go_wp2_with fail
          go_ret
          exact ⟨a3, c3, by rw [HF.out]; rfl, by rw [HF.out]; exact HOF, HBF⟩
        · have d4a : decide ((q : Int) < (R : Int) - 1) = false := by simp; omega
          have HF : Hid (NB = [i - 1]) := Lib.hid (by rw [HNB.out, if_neg h1, if_pos h2, if_neg h3, if_neg h4]; rfl)
          have HOF := hO
          have HBF := hT.below
          have x0 := val hT.box 0 rfl
          have x1 := val hT.box 1 rfl
          clear hO hT
          go_wp2_with fail
          go_ret
          exact ⟨a1, c1, by rw [HF.out]; rfl, by rw [HF.out]; exact HOF, HBF⟩
    · have d2a : decide (0 < t) = false := by simp; omega
      by_cases h3 : t + 1 < C
      · have d3a : decide ((t : Int) < (C : Int) - 1) = true := by simp; omega
        obtain ⟨u2, hu2⟩ : ∃ u2 : Nat, (i : Int) + 1 = (u2 : Int) := ⟨i + 1, by omega⟩
        have Hu2 : Hid (i + 1 = u2) := Lib.hid (by omega)
        have x0 := val hT.box 0 rfl
        have x1 := val hT.box 1 rfl
        have hz := hT.lt
        go_wp2_with (at_builtin; refine wl_app_own Tryd.underlying22 elem3 (w.heap.size + 1) (.tmp 37) (.tmp 40) rfl rfl rfl rfl (hO.alloc _) (isL_one _ _ _) (by simp; omega) (by omega) ?_)
        intro a2 c2 w3 ho2 hg2 hb2 _
        replace hO : OwnL w3 3 (w.heap.size + 1) a2 1 c2 (li [i + 1]) := by rw [Hu2.out]; exact ho2
        replace hT := (hT.alloc (.cells #[.int .i64 (u2 : Int)] 3)).toB hb2
        clear ho2 hg2 hb2 x0 x1 hz hu2
        by_cases h4 : q + 1 < R
        · have d4a : decide ((q : Int) < (R : Int) - 1) = true := by simp; omega
          obtain ⟨u3, hu3⟩ : ∃ u3 : Nat, (i : Int) + (C : Int) = (u3 : Int) := ⟨i + C, by omega⟩
          have Hu3 : Hid (i + C = u3) := Lib.hid (by omega)
          have x0 := val hT.box 0 rfl
          have x1 := val hT.box 1 rfl
          have hz := hT.lt
          go_wp2_with (at_builtin; refine wl_app_own Tryd.underlying22 elem3 (w.heap.size + 1) (.tmp 47) (.tmp 52) rfl rfl rfl rfl (hO.alloc _) (isL_one _ _ _) (by simp; omega) (by omega) ?_)
          intro a3 c3 w4 ho3 hg3 hb3 _
          replace hO : OwnL w4 3 (w.heap.size + 1) a3 2 c3 (li [i + 1, i + C]) := by rw [Hu3.out]; exact ho3
          replace hT := (hT.alloc (.cells #[.int .i64 (u3 : Int)] 3)).toB hb3
          clear ho3 hg3 hb3 x0 x1 hz hu3
          have HF : Hid (NB = [i + 1, i + C]) := Lib.hid (by rw [HNB.out, if_neg h1, if_neg h2, if_pos h3, if_pos h4]; rfl)
          have HOF := hO
          have HBF := hT.below
          have x0 := val hT.box 0 rfl
          have x1 := val hT.box 1 rfl
          clear hO hT
          go_wp2_with fail
          go_ret
          exact ⟨a3, c3, by rw [HF.out]; rfl, by rw [HF.out]; exact HOF, HBF⟩
        · have d4a : decide ((q : Int) < (R : Int) - 1) = false := by simp; omega
          have HF : Hid (NB = [i + 1]) := Lib.hid (by rw [HNB.out, if_neg h1, if_neg h2, if_pos h3, if_neg h4]; rfl)
          have HOF := hO
          have HBF := hT.below
          have x0 := val hT.box 0 rfl
          have x1 := val hT.box 1 rfl
          clear hO hT
          go_wp2_with fail
          go_ret
          exact ⟨a2, c2, by rw [HF.out]; rfl, by rw [HF.out]; exact HOF, HBF⟩
      · have d3a : decide ((t : Int) < (C : Int) - 1) = false := by simp; omega
        by_cases h4 : q + 1 < R
        · have d4a : decide ((q : Int) < (R : Int) - 1) = true := by simp; omega
          obtain ⟨u3, hu3⟩ : ∃ u3 : Nat, (i : Int) + (C : Int) = (u3 : Int) := ⟨i + C, by omega⟩
          have Hu3 : Hid (i + C = u3) := Lib.hid (by omega)
          have x0 := val hT.box 0 rfl
          have x1 := val hT.box 1 rfl
          have hz := hT.lt
          go_wp2_with (at_builtin; refine wl_app_own Tryd.underlying22 elem3 (w.heap.size + 1) (.tmp 47) (.tmp 52) rfl rfl rfl rfl (hO.alloc _) (isL_one _ _ _) (by simp; omega) (by omega) ?_)
          intro a3 c3 w4 ho3 hg3 hb3 _
          replace hO : OwnL w4 3 (w.heap.size + 1) a3 1 c3 (li [i + C]) := by rw [Hu3.out]; exact ho3
          replace hT := (hT.alloc (.cells #[.int .i64 (u3 : Int)] 3)).toB hb3
          clear ho3 hg3 hb3 x0 x1 hz hu3
          have HF : Hid (NB = [i + C]) := Lib.hid (by rw [HNB.out, if_neg h1, if_neg h2, if_neg h3, if_pos h4]; rfl)
          have HOF := hO
          have HBF := hT.below
          have x0 := val hT.box 0 rfl
          have x1 := val hT.box 1 rfl
          clear hO hT
          go_wp2_with fail
          go_ret
          exact ⟨a3, c3, by rw [HF.out]; rfl, by rw [HF.out]; exact HOF, HBF⟩
        · have d4a : decide ((q : Int) < (R : Int) - 1) = false := by simp; omega
          have HF : Hid (NB = []) := Lib.hid (by rw [HNB.out, if_neg h1, if_neg h2, if_neg h3, if_neg h4]; rfl)
          have HOF := hO
          have HBF := hT.below
          have x0 := val hT.box 0 rfl
          have x1 := val hT.box 1 rfl
          clear hO hT
          go_wp2_with fail
          go_ret
          exact ⟨none, 0, by rw [HF.out]; rfl, by rw [HF.out]; exact HOF, HBF⟩
end Go.Proofs.YtbhjphcomppjgaaDoor
