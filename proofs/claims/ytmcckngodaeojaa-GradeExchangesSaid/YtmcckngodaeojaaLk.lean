/- Law of chapter 3: GradeExchanges. -/
import Derived.Test.YtmcckngodaeojaaXh
import Derived.Test.YtmcckngodaeojaaXi
import Derived.Test.YtmcckngodaeojaaXc
import Derived.Test.YtmcckngodaeojaaWR
import Derived.BigQuiet
namespace Go.Proofs.Ytmcckngodaeojaa
open Go.RowKit Grade03

set_option maxHeartbeats 8000000 in
set_option maxRecDepth 100000 in
theorem GradeExchanges_l (L : List Value) (hL : BuyArg L) (w : World) : Calls Try.prog 14 #[.agg L.toArray] w fun e w' => e = .returned (.bool true) ∧ Below w.heap.size w w' := by
  obtain ⟨N, hN1, hN7, hmade⟩ := hL.2 7 (w.alloc (.cells L.toArray 46)) (by omega) (by omega)
  have HM := Lib.hid hmade
  have hrg := buy_range w L
  have hi46 := Lib.hid (info46 hL.1)
  clear hmade hL
  go_enter Try.func14, Try.ntmps14
  go_wp2_with (first
    | (refine wpList_load_mid rfl 46 (.tmp 1) rfl w.heap.size 0 rfl L _ hrg Try.underlying46 rfl hi46.out ?_)
    | (go_at_call 49; refine (HM.out).mono ?_))
  rintro e w0 ⟨a, c, b, d, D, E, rfl, h_l, h_m, k, hD, hE⟩
  replace k := ((Below.refl _ w).alloc (Nat.le_refl _) (.cells L.toArray 46)).trans (k.mono (by simp))
  have hDl := h_l.len
  have hEl := h_m.len
  clear HM hrg hi46
  have hlen : E.length = D.length := by omega
  have b1 := both_ord hD hE hDl hEl hN1 hN7
  obtain ⟨dd, hdd⟩ : ∃ dd : Nat, dist D E = (dd : Int) := ⟨(dist D E).toNat, by have := dist_nonneg D E; omega⟩
  have K1 : Hid (wayE D E = wayR E D) := Lib.hid (by unfold wayE; rw [if_pos b1])
  have K2 : Hid (difE D E = difL D E) := Lib.hid (by unfold difE; rw [if_pos b1])
  have K3 : Hid (leadsE D E (wayR E D) = 0) := Lib.hid (by unfold leadsE; rw [if_pos b1, leadE_end (lead_way hE dd D hD hlen hdd), if_pos rfl])
  have K4 := Lib.hid (wayR_len hE dd D hD hlen hdd).1
  have K5 : Hid ((difL D E).length = dd) := Lib.hid (by have := difL_len D E; omega)
  have hd49 : dd ≤ 49 := by have := dist_le (a := D) (b := E) (by omega); omega
  have B1 := Lib.hid b1
  have HDD := Lib.hid hdd
  have HD := Lib.hid hD
  have HE := Lib.hid hE
  have HDL := Lib.hid hDl
  have HEL := Lib.hid hEl
  have HLN := Lib.hid hlen
  clear b1 hlen hD hE hDl hEl hdd
  have t1 : ((dd : Int) != (dd : Int)) = false := by simp
  have kk := k.size
  go_wp2_with fail
  refine (Way_c h_l h_m B1.out K1.out).mono ?_
  rintro e w1 ⟨a_w, n_w, c_w, rfl, h_w, b_⟩
  obtain rfl : n_w = dd := by rw [← h_w.len]; exact K4.out
  replace h_l := h_l.below b_
  replace h_m := h_m.below b_
  replace k := k.trans (b_.mono kk)
  clear b_ kk
  have kk := k.size
  go_wp2_with fail
  refine (Differ_c h_l h_m B1.out K2.out).mono ?_
  rintro e w2 ⟨a_d, n_d, c_d, rfl, h_d, b_⟩
  obtain rfl : n_d = n_w := by rw [← h_d.len]; exact K5.out
  replace h_l := h_l.below b_
  replace h_m := h_m.below b_
  replace h_w := h_w.below b_
  replace k := k.trans (b_.mono kk)
  clear b_ kk
  have kk := k.size
  go_wp2_with fail
  refine (far_any _ _ _ _ _ _ _ _ h_l h_m HD.out HE.out hN7).mono ?_
  rintro e w3 ⟨rfl, rfl⟩
  rw [HDD.out]
  go_wp2_with fail
  refine (Leads_c h_l h_m h_w K3.out).mono ?_
  rintro e w4 ⟨rfl, b_⟩
  replace h_l := h_l.below b_
  replace h_m := h_m.below b_
  replace h_w := h_w.below b_
  replace h_d := h_d.below b_
  replace k := k.trans (b_.mono kk)
  clear b_ kk
  have kk := k.size
  go_wp2_with fail
  refine (Clone_any _ _ _ _ _ h_l hN1 (by omega)).mono ?_
  rintro e w5 ⟨ax, cx, rfl, h_x, b_⟩
  obtain ⟨g, rfl⟩ := h_x.addr (by omega)
  have hg := (h_x.lt _ rfl).1
  simp only [] at hg
  go_wp2_with fail
  have hNB := N
  go_loopw [65] (fun vi wr => ∃ (i : Nat) (now : List Int), i ≤ n_d ∧ vi = .int .i64 (i : Int) ∧ Hid (ExS D E now i) ∧ Hid (OwnL wr 3 w4.heap.size (some ⟨g, 0, none⟩) N cx now) ∧ Below w4.heap.size w4 wr) (fun vi _ => n_d - (intOf vi).toNat)
  case atStart => exact ⟨0, D, by omega, rfl, Lib.hid (ExS.start HD.out), Lib.hid h_x, b_⟩
  case round =>
    clear h_x b_
    obtain ⟨i, now, hi, rfl, hX, hN, hb⟩ := hrel
    by_cases hlt : i < n_d
    · have q0 : (i : Int) < (n_d : Int) := by omega
      obtain ⟨v, hv, hvn, hlow, hat, hX2⟩ := hX.out.step HE.out HLN.out (by rw [K4.out]; exact hlt)
      rw [HDL.out] at hvn
      have h_w2 := h_w.below hb
      obtain ⟨bw, ow, rfl, _, hcw⟩ := h_w2.cells (by omega)
      have y1 := hcw i hlt
      rw [hv] at y1
      have HX := hX
      have HX2 := Lib.hid hX2
      have HLOW := Lib.hid hlow
      have HAT := Lib.hid hat
      have d1 : decide ((v : Int) < 0) = false := by simp
      have d1' : ¬ (v : Int) < 0 := by omega
      have w6 : IntKind.i64.wrap ((N : Int) - 2) = (N : Int) - 2 := IntWalk.i64_in _ (by omega)
      have d2 : decide ((N : Int) - 2 < (v : Int)) = false := by simp; omega
      have d2' : ¬ (N : Int) - 2 < (v : Int) := by omega
      clear hX hcw hlow hat hX2 hv h_w2
      go_wp2_with fail
      go_loopw [12] (fun vk wr => ∃ (q : Nat), q ≤ v + 1 ∧ vk = .int .i64 (q : Int) ∧ Hid (OwnL wr 3 w4.heap.size (some ⟨g, 0, none⟩) N cx now) ∧ Below w4.heap.size w4 wr) (fun vk _ => v + 1 - (intOf vk).toNat)
      case atStart => exact ⟨0, by omega, rfl, hN, hb⟩
      case round =>
        clear hN hb y1
        obtain ⟨q, hq, rfl, hN, hb⟩ := hrel
        have hNi := hN.out
        have hgt := (hNi.lt _ rfl).2
        simp only [] at hgt
        by_cases hqv : q ≤ v
        · have q1 : (q : Int) ≤ (v : Int) := by omega
          have w7 : IntKind.i64.wrap ((q : Int) + 1) = (q : Int) + 1 := IntWalk.i64_in _ (by omega)
          have q2 : (q : Int) < (N : Int) := by omega
          have q3 : (q : Int) + 1 < (N : Int) := by omega
          have q4 : (0 : Int) ≤ (q : Int) + 1 := by omega
          have q5 : ((q : Int) + 1).toNat = q + 1 := by omega
          go_wp2_with fail
          refine (Clone_any _ _ _ _ _ hNi.isL hN1 (by omega)).mono ?_
          rintro e w7 ⟨a7, c7, rfl, h7, b7⟩
          obtain ⟨g7, rfl⟩ := h7.addr (by omega)
          have hg7 := (h7.lt _ rfl).1
          simp only [] at hg7
          have hs4 := hb.size
          obtain ⟨y11, y12⟩ := h7.gen.cell q 0 (by omega)
          obtain ⟨y21, y22⟩ := h7.gen.cell (q + 1) 0 (by omega)
          have hs : OwnL _ 3 wr.heap.size (some ⟨g7, 0, none⟩) N c7 (swp now q) := (h7.set q (now.getD (q + 1) 0) (by omega)).set (q + 1) (now.getD q 0) (by omega)
          have hbb : Below w4.heap.size w4 ((w7.setCell ⟨g7, q, none⟩ (.int .i64 (now.getD (q + 1) 0))).setCell ⟨g7, q + 1, none⟩ (.int .i64 (now.getD q 0))) := ((hb.trans (b7.mono hs4)).setCell (p := ⟨g7, q, none⟩) (by show w4.heap.size ≤ g7; omega) _).setCell (p := ⟨g7, q + 1, none⟩) (by show w4.heap.size ≤ g7; omega) _
          obtain ⟨u, hu⟩ : ∃ u, now.getD q 0 = u := ⟨_, rfl⟩
          obtain ⟨u2, hu2⟩ : ∃ v, now.getD (q + 1) 0 = v := ⟨_, rfl⟩
          rw [hu] at y11 hs hbb
          rw [hu2] at y21 hs hbb
          have hgr : w7.grownBy ((w7.setCell ⟨g7, q, none⟩ (.int .i64 u2)).setCell ⟨g7, q + 1, none⟩ (.int .i64 u)) (some g7) := grown_trans (grown_setCell w7 g7 q _) (grown_setCell _ g7 (q + 1) _)
          have hN7' : OwnL _ 3 w4.heap.size (some ⟨g, 0, none⟩) N cx now := (hNi.below b7).grownS hgr (fun x y hx hy => by cases hx; cases hy; show g ≠ g7; omega)
          obtain ⟨X, hXX⟩ : ∃ X, dist (swp now q) E = X := ⟨_, rfl⟩
          obtain ⟨Y, hYY⟩ : ∃ Y, dist now E = Y := ⟨_, rfl⟩
          obtain ⟨B, hBB⟩ : ∃ B, ((q : Int) == (v : Int)) = B := ⟨_, rfl⟩
          have hXY : decide (X < Y) = B := by
            rw [← hBB, ← hXX, ← hYY]
            by_cases e : q = v
            · subst e; rw [HAT.out]; simp; omega
            · rw [HLOW.out q (by omega)]
              have h1 : ((q : Int) == (v : Int)) = false := by simp; omega
              rw [h1]; simp; omega
          have e9 : (B != B) = false := by cases B <;> rfl
          have HS := Lib.hid hs
          have HNN := Lib.hid hN7'
          have HBB := Lib.hid hbb
          have HXX := Lib.hid hXX
          have HYY := Lib.hid hYY
          have HSO := Lib.hid (swp_ord HX.out.ord q (by rw [HX.out.len, HDL.out]; omega))
          clear hu hu2 hs hgr hN7' hbb hXX hYY b7 h7 hNi hN hb hs4
          go_wp2_with fail
          go_region
          all_goals
            go_wp2_with fail
            refine (far_any _ _ _ _ _ _ _ _ HS.out.isL.drew (h_m.below HBB.out).drew HSO.out HE.out hN7).mono ?_
            rintro e w8 ⟨rfl, rfl⟩
            rw [HXX.out]
            go_wp2_with fail
            refine (far_any _ _ _ _ _ _ _ _ HNN.out.isL.drew (h_m.below HBB.out).drew HX.out.ord HE.out hN7).mono ?_
            rintro e w8 ⟨rfl, rfl⟩
            rw [HYY.out]
            go_wp2_with fail
            go_roundw
            case rel => first | exact ⟨q + 1, by omega, by go_num, Lib.hid HNN.out.drew, HBB.out.drew⟩ | ((repeat apply Exists.intro); exact ⟨⟨q + 1, by omega, by go_num, Lib.hid HNN.out.drew, HBB.out.drew⟩, rfl⟩)
            case measure => (simp [intOf] <;> omega)
        · obtain rfl : q = v + 1 := by omega
          have w7 : IntKind.i64.wrap ((v : Int) + 1) = (v : Int) + 1 := IntWalk.i64_in _ (by omega)
          have q2 : (v : Int) < (N : Int) := by omega
          have q3 : (v : Int) + 1 < (N : Int) := by omega
          have q4 : (0 : Int) ≤ (v : Int) + 1 := by omega
          have q5 : ((v : Int) + 1).toNat = v + 1 := by omega
          have q6 : ¬ (v : Int) + 1 ≤ (v : Int) := by omega
          obtain ⟨y11, y12⟩ := hNi.gen.cell v 0 (by omega)
          obtain ⟨y21, y22⟩ := hNi.gen.cell (v + 1) 0 (by omega)
          have hs : OwnL _ 3 w4.heap.size (some ⟨g, 0, none⟩) N cx (swp now v) := (hNi.set v (now.getD (v + 1) 0) (by omega)).set (v + 1) (now.getD v 0) (by omega)
          have hbb : Below w4.heap.size w4 ((wr.setCell ⟨g, v, none⟩ (.int .i64 (now.getD (v + 1) 0))).setCell ⟨g, v + 1, none⟩ (.int .i64 (now.getD v 0))) := (hb.setCell (p := ⟨g, v, none⟩) hg _).setCell (p := ⟨g, v + 1, none⟩) hg _
          obtain ⟨u, hu⟩ : ∃ u, now.getD v 0 = u := ⟨_, rfl⟩
          obtain ⟨u2, hu2⟩ : ∃ u, now.getD (v + 1) 0 = u := ⟨_, rfl⟩
          rw [hu] at y11 hs hbb
          rw [hu2] at y21 hs hbb
          have HS := Lib.hid hs
          have HBB := Lib.hid hbb
          clear hu hu2 hs hbb hNi hN hb hq hqv
          go_wp2_with fail
          go_region
          all_goals
            go_wp2_with fail
            go_roundw
            case rel => first | exact ⟨i + 1, swp now v, by omega, by go_num, HX2, Lib.hid HS.out.drew, HBB.out.drew⟩ | ((repeat apply Exists.intro); exact ⟨⟨i + 1, swp now v, by omega, by go_num, HX2, Lib.hid HS.out.drew, HBB.out.drew⟩, rfl⟩)
            case measure => (simp [intOf] <;> omega)
    · obtain rfl : i = n_d := by omega
      obtain rfl : now = E := hX.out.fin HE.out HLN.out (by rw [K4.out]; exact Nat.le_refl _)
      have h_n := hN.out.isL
      have h_a := h_l.below hb
      have h_b := h_m.below hb
      have h_p := h_d.below hb
      have k9 := k.trans (hb.mono kk)
      clear hX hN hb
      have kk9 := k9.size
      have HP := Lib.hid h_p
      obtain ⟨W9, rfl⟩ : ∃ W, W = wr := ⟨_, rfl⟩
      clear h_p h_w K1 K2 K3 B1 k
      go_wp2_with fail
      go_loopw [131] (fun vi wr => ∃ j : Nat, j ≤ i ∧ vi = .int .i64 (j : Int) ∧ Below W9.heap.size W9 wr) (fun vi _ => i - (intOf vi).toNat)
      case atStart => exact ⟨0, by omega, rfl, Below.refl _ _⟩
      case round =>
        obtain ⟨j, hj, rfl, hb⟩ := hrel
        by_cases hlt : j < i
        · have q0 : (j : Int) < (i : Int) := by omega
          obtain ⟨gp, rfl, _, hgp⟩ := HP.out.addr (by omega)
          obtain ⟨x1, x2⟩ := (HP.out.below hb).cell j hlt
          obtain ⟨⟨r1, r2⟩, ⟨r3, r4⟩, r5, r6⟩ := difL_at (a := D) (b := now) (i := j) (by rw [K5.out]; exact hlt)
          obtain ⟨p, hp⟩ : ∃ p, (difL D now).getD j (0, 0) = p := ⟨_, rfl⟩
          have HPP := Lib.hid hp
          rw [hp] at x1 x2 r1 r2 r3 r4 r5 r6
          obtain ⟨p1, p2⟩ := p
          simp only [] at x1 x2 r1 r2 r3 r4 r5 r6
          rw [HDL.out] at r2 r4
          have hal : Below wr.heap.size wr (wr.alloc (.cells #[.int .i64 p1, .int .i64 p2] 65)) := (Below.refl _ _).alloc (Nat.le_refl _) _
          have ga := (h_a.below hb).below hal
          have gb := (h_b.below hb).below hal
          have H1 : Hid (∀ k, Calls Try.prog 57 #[.slice a N c, .int .i64 p1] ((wr.alloc (.cells #[.int .i64 p1, .int .i64 p2] 65)).drewN k) fun e w' => e = .returned (.int .i64 (pos D p1 : Int)) ∧ w' = (wr.alloc (.cells #[.int .i64 p1, .int .i64 p2] 65)).drewN k) := Lib.hid fun k => (Index_any _ _ _ _ _ _ (ga.drewN k) HD.out r1 r2 (by omega)).mono fun e w' h => ⟨h.1, h.2.symm⟩
          have H2 : Hid (∀ k, Calls Try.prog 57 #[.slice a N c, .int .i64 p2] ((wr.alloc (.cells #[.int .i64 p1, .int .i64 p2] 65)).drewN k) fun e w' => e = .returned (.int .i64 (pos D p2 : Int)) ∧ w' = (wr.alloc (.cells #[.int .i64 p1, .int .i64 p2] 65)).drewN k) := Lib.hid fun k => (Index_any _ _ _ _ _ _ (ga.drewN k) HD.out r3 r4 (by omega)).mono fun e w' h => ⟨h.1, h.2.symm⟩
          have H3 : Hid (∀ k, Calls Try.prog 57 #[.slice b N d, .int .i64 p1] ((wr.alloc (.cells #[.int .i64 p1, .int .i64 p2] 65)).drewN k) fun e w' => e = .returned (.int .i64 (pos now p1 : Int)) ∧ w' = (wr.alloc (.cells #[.int .i64 p1, .int .i64 p2] 65)).drewN k) := Lib.hid fun k => (Index_any _ _ _ _ _ _ (gb.drewN k) HE.out r1 r2 (by omega)).mono fun e w' h => ⟨h.1, h.2.symm⟩
          have H4 : Hid (∀ k, Calls Try.prog 57 #[.slice b N d, .int .i64 p2] ((wr.alloc (.cells #[.int .i64 p1, .int .i64 p2] 65)).drewN k) fun e w' => e = .returned (.int .i64 (pos now p2 : Int)) ∧ w' = (wr.alloc (.cells #[.int .i64 p1, .int .i64 p2] 65)).drewN k) := Lib.hid fun k => (Index_any _ _ _ _ _ _ (gb.drewN k) HE.out r3 r4 (by omega)).mono fun e w' h => ⟨h.1, h.2.symm⟩
          obtain ⟨P1, hP1⟩ : ∃ P, pos D p1 = P := ⟨_, rfl⟩
          obtain ⟨P2, hP2⟩ : ∃ P, pos D p2 = P := ⟨_, rfl⟩
          obtain ⟨Q1, hQ1⟩ : ∃ P, pos now p1 = P := ⟨_, rfl⟩
          obtain ⟨Q2, hQ2⟩ : ∃ P, pos now p2 = P := ⟨_, rfl⟩
          rw [hP1] at H1 r5
          rw [hP2] at H2 r5
          rw [hQ1] at H3 r6
          rw [hQ2] at H4 r6
          have d1 : decide ((P2 : Int) ≤ (P1 : Int)) = false := by simp; omega
          have d2 : decide ((Q1 : Int) ≤ (Q2 : Int)) = false := by simp; omega
          have d5 : decide (P2 ≤ P1) = false := by simp; omega
          have d6 : ¬ P2 ≤ P1 := by omega
          have d7 : decide (Q1 ≤ Q2) = false := by simp; omega
          have d8 : ¬ Q1 ≤ Q2 := by omega
          have hb2 := hb.trans (hal.mono hb.size)
          clear hp hP1 hP2 hQ1 hQ2 ga gb r1 r2 r3 r4 r5 r6
          by_cases hj0 : j = 0
          · have d0 : decide ((0 : Int) < (j : Int)) = false := by simp; omega
            have d3 : decide (0 < j) = false := by simp; omega
            have d4 : ¬ 0 < j := by omega
            clear HPP hal hj0
            go_wp2_with fail
            go_quiet (first
              | (go_at_call 57; first | with_reducible exact Calls.quiet_of_same (H1.out _) | with_reducible exact Calls.quiet_of_same (H2.out _) | with_reducible exact Calls.quiet_of_same (H3.out _) | with_reducible exact Calls.quiet_of_same (H4.out _)))
            go_wp2
            go_roundw
            case rel => exact ⟨j + 1, by omega, by go_num, belowN hb2 _⟩
            case measure => (simp [intOf] <;> omega)
          · obtain ⟨m, hm⟩ : ∃ m, j = m + 1 := ⟨j - 1, by omega⟩
            obtain ⟨x3, x4⟩ := (HP.out.below hb).cell m (by omega)
            have hlex := difL_lex (a := D) (b := now) (i := m) (by rw [K5.out, ← hm]; exact hlt)
            rw [← hm, HPP.out] at hlex
            obtain ⟨p', hp'⟩ : ∃ p, (difL D now).getD m (0, 0) = p := ⟨_, rfl⟩
            rw [hp'] at x3 x4 hlex
            obtain ⟨p3, p4⟩ := p'
            simp only [lexP] at x3 x4 hlex
            have z1 := (hal.cell (World.block_lt_of_cell? wr _ x3)).trans x3
            have z2 := (hal.cell (World.block_lt_of_cell? wr _ x4)).trans x4
            have H5 : Hid (∀ k, Calls Try.prog 63 #[.slice (some ⟨gp, m * 2, none⟩) 2 2, .slice (some ⟨wr.heap.size, 0, none⟩) 2 2] ((wr.alloc (.cells #[.int .i64 p1, .int .i64 p2] 65)).drewN k) fun e w' => e = .returned (.int .i64 (-1)) ∧ w' = (wr.alloc (.cells #[.int .i64 p1, .int .i64 p2] 65)).drewN k) := Lib.hid fun k => (Compare_pair _ _ _ _ _ _ p3 p4 p1 p2 _ (((belowN (Below.refl _ _) k).cell (World.block_lt_of_cell? _ _ z1)).trans z1) (((belowN (Below.refl _ _) k).cell (World.block_lt_of_cell? _ _ z2)).trans z2) (by simp [go_sem]) (by simp [go_sem]) (by omega) (by omega) hlex).mono fun e w' h => ⟨h.1, h.2.symm⟩
            have w3 : IntKind.i64.wrap ((j : Int) - 1) = (m : Int) := (IntWalk.i64_in _ (by omega)).trans (by omega)
            have q1 : (m : Int) < (i : Int) := by omega
            have q2 : (0 : Int) < (j : Int) := by omega
            have d0 : decide ((0 : Int) < (j : Int)) = true := by simp; omega
            have d3 : decide (0 < j) = true := by simp; omega
            have d4 : 0 < j := by omega
            have HM := Lib.hid hm
            clear hp' hlex z1 z2 hm HPP hal x3 x4
            go_wp2_with fail
            go_quiet (first
              | (go_at_call 63; with_reducible exact Calls.quiet_of_same (H5.out _))
              | (go_at_call 57; first | with_reducible exact Calls.quiet_of_same (H1.out _) | with_reducible exact Calls.quiet_of_same (H2.out _) | with_reducible exact Calls.quiet_of_same (H3.out _) | with_reducible exact Calls.quiet_of_same (H4.out _)))
            go_wp2
            go_roundw
            case rel => exact ⟨j + 1, by omega, by go_num, belowN hb2 _⟩
            case measure => (simp [intOf] <;> omega)
        · obtain rfl : j = i := by omega
          have k10 := k9.trans (hb.mono kk9)
          have h_n2 := h_n.below hb
          have h_b2 := h_b.below hb
          have kk10 := k10.size
          go_wp2_with fail
          refine (same_c h_n2 h_b2).mono ?_
          rintro e w20 ⟨rfl, b_⟩
          have k11 := k10.trans (b_.mono kk10)
          have kk11 := k11.size
          go_wp2_with fail
          refine (works_any _).mono ?_
          rintro e w21 ⟨rfl, b2_⟩
          go_wp2
          go_ret
          exact ⟨rfl, k11.trans (b2_.mono kk11)⟩
end Go.Proofs.Ytmcckngodaeojaa
