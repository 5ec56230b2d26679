/- Law of chapter 3: GradeTurned. -/
import Derived.Test.YtmcckngodaeojaaXc
import Derived.Test.YtmcckngodaeojaaXd
import Derived.Test.YtmcckngodaeojaaQb
import Derived.Test.YtmcckngodaeojaaWR
namespace Grade03
theorem jnt_rev {n : Nat} {a b : List Int} (ha : IsO a) (hb : IsO b) (hla : a.length = n) (hlb : b.length = n) : (allO n n []).countP (fun l => decide (Lin n (btwR a.reverse b.reverse) l)) = (allO n n []).countP (fun l => decide (Lin n (btwR a b) l)) := by
  refine count_perm (f := List.reverse) (g := List.reverse) (fun l h => ⟨rev_ord h.1, by rw [List.length_reverse]; exact h.2⟩) (fun l h => ⟨rev_ord h.1, by rw [List.length_reverse]; exact h.2⟩) (fun l _ => List.reverse_reverse l) (fun l _ => List.reverse_reverse l) (fun l h => ?_)
  exact decide_eq_decide.2 (lin_rev ha hb h.1 hla hlb h.2)
theorem jnt_rlb {n : Nat} {a b : List Int} (ha : IsO a) (hb : IsO b) (hla : a.length = n) (hlb : b.length = n) : (allO n n []).countP (fun l => decide (Lin n (btwR (rlb b a) (rlb b b)) l)) = (allO n n []).countP (fun l => decide (Lin n (btwR a b) l)) := by
  refine count_perm (f := rlb b) (g := ulb b) (fun l h => ⟨rlb_ord hb h.1 (by omega), by rw [rlb_len]; exact h.2⟩) (fun l h => ⟨(ulb_ord hb h.1 (by omega)).1, by rw [(ulb_ord hb h.1 (by omega)).2]; exact h.2⟩) (fun l h => rlb_ulb hb h.1 (by omega)) (fun l h => ulb_rlb hb h.1 (by omega)) (fun l h => ?_)
  exact decide_eq_decide.2 (lin_rlb ha hb h.1 hla hlb h.2)
end Grade03
namespace Go.Proofs.Ytmcckngodaeojaa
open Go.RowKit Grade03

set_option maxHeartbeats 8000000 in
set_option maxRecDepth 100000 in
theorem GradeTurned_l (L : List Value) (hL : BuyArg L) (w : World) : Calls Try.prog 10 #[.agg L.toArray] w fun e w' => e = .returned (.bool true) ∧ Below w.heap.size w w' := by
  obtain ⟨N, hN1, hN7, hmade⟩ := hL.2 7 (w.alloc (.cells L.toArray 46)) (by omega) (by omega)
  have HM := Lib.hid hmade
  have hrg := buy_range w L
  have hi46 := Lib.hid (info46 hL.1)
  clear hmade hL
  go_enter Try.func10, Try.ntmps10
  go_wp2_with (first
    | (refine wpList_load_mid rfl 46 (.tmp 1) rfl w.heap.size 0 rfl L _ hrg Try.underlying46 rfl hi46.out ?_)
    | (go_at_call 49; refine (HM.out).mono ?_))
  rintro e w0 ⟨a, c, b, d, D, E, rfl, h_l, h_m, k, hD, hE⟩
  replace k := ((Below.refl _ w).alloc (Nat.le_refl _) (.cells L.toArray 46)).trans (k.mono (by simp))
  have hDl := h_l.len
  have hEl := h_m.len
  clear HM hrg hi46
  have hlen : E.length = D.length := by omega
  have hDr := rev_ord hD
  have hEr := rev_ord hE
  have hDrl : D.reverse.length = N := by rw [List.length_reverse]; exact hDl
  have hErl : E.reverse.length = N := by rw [List.length_reverse]; exact hEl
  have hC := rlb_ord hE hD hlen.symm
  have hI := rlb_ord hE hE rfl
  have hCl : (rlb E D).length = N := by rw [rlb_len]; exact hDl
  have hIl : (rlb E E).length = N := by rw [rlb_len]; exact hEl
  have b1 := both_ord hD hE hDl hEl hN1 hN7
  have b2 := both_ord hDr hEr hDrl hErl hN1 hN7
  have b3 := both_ord hC hI hCl hIl hN1 hN7
  obtain ⟨J, hj⟩ : ∃ J, jntE D E = J := ⟨_, rfl⟩
  have j2 : jntE D.reverse E.reverse = J := by
    rw [← hj]; unfold jntE; rw [if_pos b1, if_pos b2, hDrl, hDl, jnt_rev hD hE hDl hEl]
  have j3 : jntE (rlb E D) (rlb E E) = J := by
    rw [← hj]; unfold jntE; rw [if_pos b1, if_pos b3, hCl, hDl, jnt_rlb hD hE hDl hEl]
  have K1 : Hid (joinE D.reverse E.reverse = (meetO D E).reverse) := Lib.hid (by unfold joinE; rw [if_pos b2]; simp [meetO])
  have K2 := Lib.hid hj
  have K3 := Lib.hid j2
  have K4 := Lib.hid j3
  obtain ⟨P1, hP1⟩ : ∃ P, difE D E = P := ⟨_, rfl⟩
  obtain ⟨P2, hP2⟩ : ∃ P, difE (rlb E D) (rlb E E) = P := ⟨_, rfl⟩
  have hPL : P1.length = P2.length := by
    have h1 := difL_len D E
    have h2 := difL_len (rlb E D) (rlb E E)
    rw [dist_rlb hD hE hDl hEl] at h2
    rw [← hP1, ← hP2]
    unfold difE
    rw [if_pos b1, if_pos b3]
    omega
  have K5 := Lib.hid hP1
  have K6 := Lib.hid hP2
  have KPL := Lib.hid hPL
  have KI := Lib.hid (rlb_self hE)
  have B1 := Lib.hid b1
  have B2 := Lib.hid b2
  have B3 := Lib.hid b3
  have HD := Lib.hid hD
  have HE := Lib.hid hE
  have HDL := Lib.hid hDl
  have HEL := Lib.hid hEl
  clear b1 b2 b3 hj j2 j3 hP1 hP2 hPL hlen hDr hEr hDrl hErl hC hI hCl hIl hD hE hDl hEl
  have t1 : (J != J) = false := by simp
  have t2 : (J == J) = true := by simp
  have w0s := k.size
  go_wp2_with fail
  refine (Clone_any _ _ _ _ _ h_l hN1 (by omega)).mono ?_
  rintro e w1 ⟨ax, cx, rfl, h_x, b_⟩
  have s1 : Sep a ax := fun x y hx hy => by
    have h1 := h_l.lt (by omega) x hx
    have h2 := (h_x.lt y hy).1
    omega
  have s2 : Sep b ax := fun x y hx hy => by
    have h1 := h_m.lt (by omega) x hx
    have h2 := (h_x.lt y hy).1
    omega
  replace h_l := h_l.below b_
  replace h_m := h_m.below b_
  replace h_x : OwnL w1 3 w.heap.size ax N cx D := h_x.weaken w0s
  replace k := k.trans (b_.mono w0s)
  clear b_
  have w1s := k.size
  go_wp2_with fail
  refine (Clone_any _ _ _ _ _ h_m hN1 (by omega)).mono ?_
  rintro e w2 ⟨az, cz, rfl, h_z, b_⟩
  have s3 : Sep a az := fun x y hx hy => by
    have h1 := h_l.lt (by omega) x hx
    have h2 := (h_z.lt y hy).1
    omega
  have s4 : Sep b az := fun x y hx hy => by
    have h1 := h_m.lt (by omega) x hx
    have h2 := (h_z.lt y hy).1
    omega
  have s5 : Sep ax az := fun x y hx hy => by
    have h1 := (h_x.lt x hx).2
    have h2 := (h_z.lt y hy).1
    omega
  replace h_l := h_l.below b_
  replace h_m := h_m.below b_
  replace h_x := h_x.below b_
  replace h_z : OwnL w2 3 w.heap.size az N cz E := h_z.weaken w1s
  replace k := k.trans (b_.mono w1s)
  clear b_
  have kk := k.size
  go_wp2_with fail
  refine (Reverse_grown w.heap.size ax N cx D w2 h_x hN1 kk).mono ?_
  rintro e w3 ⟨rfl, h_x', g_⟩
  replace h_l := h_l.grown g_ s1
  replace h_m := h_m.grown g_ s2
  replace h_z := h_z.grown g_ s5.symm
  replace k := k.grown g_ kk (fun q hq => (World.ownsRow.lt h_x q hq).1)
  clear h_x g_ kk s1 s2
  have kk := k.size
  go_wp2_with fail
  refine (Reverse_grown w.heap.size az N cz E w3 h_z hN1 kk).mono ?_
  rintro e w4 ⟨rfl, h_z', g_⟩
  replace h_l := h_l.grown g_ s3
  replace h_m := h_m.grown g_ s4
  replace h_x' := h_x'.grown g_ s5
  replace k := k.grown g_ kk (fun q hq => (World.ownsRow.lt h_z q hq).1)
  clear h_z g_ kk s3 s4 s5
  have h_x := h_x'.isL
  have h_z := h_z'.isL
  clear h_x' h_z'
  go_wp2_with fail
  refine (Join_c h_x h_z B2.out K1.out).mono ?_
  rintro e w_5 ⟨a_j, n_j, c_j, rfl, h_j, b_⟩
  replace h_l := h_l.below b_
  replace h_m := h_m.below b_
  replace h_x := h_x.below b_
  replace h_z := h_z.below b_
  replace k := k.trans (b_.mono k.size)
  clear b_
  have kk := k.size
  go_wp2_with fail
  refine (Meet_own _ _ _ _ _ _ _ _ _ h_l h_m B1.out).mono ?_
  rintro e w6 ⟨am, cm, rfl, h_mm, b_⟩
  have s1 : ∀ y, am = some y → w_5.heap.size ≤ y.block := fun y hy => (h_mm.lt y hy).1
  have jlt : ∀ {ar : Option Addr} {nr cr : Nat} {lr : List Int}, IsL w_5 ar nr cr lr → 0 < nr → Sep ar am := fun h0 h1 x y hx hy => by
    have h2 := h0.lt h1 x hx
    have h3 := s1 y hy
    omega
  have nj : n_j = N := by
    rw [← h_j.len, List.length_reverse, (meet_is HD.out HE.out (by rw [HDL.out, HEL.out])).len, HDL.out]
  subst nj
  have sl := jlt h_l (by omega)
  have sm' := jlt h_m (by omega)
  have sj := jlt h_j (by omega)
  replace h_l := h_l.below b_
  replace h_m := h_m.below b_
  replace h_x := h_x.below b_
  replace h_z := h_z.below b_
  replace h_j := h_j.below b_
  replace h_mm : OwnL w6 3 w.heap.size am n_j cm (meetO D E) := h_mm.weaken kk
  replace k := k.trans (b_.mono kk)
  clear b_ kk jlt s1
  have kk := k.size
  go_wp2_with fail
  refine (Joint_c h_l h_m B1.out K2.out).mono ?_
  rintro e w7 ⟨rfl, b_⟩
  replace h_l := h_l.below b_
  replace h_m := h_m.below b_
  replace h_x := h_x.below b_
  replace h_z := h_z.below b_
  replace h_j := h_j.below b_
  replace h_mm := h_mm.below b_
  replace k := k.trans (b_.mono kk)
  clear b_ kk
  have kk := k.size
  go_wp2_with fail
  refine (Joint_c h_x h_z B2.out K3.out).mono ?_
  rintro e w8 ⟨rfl, b_⟩
  replace h_l := h_l.below b_
  replace h_m := h_m.below b_
  replace h_j := h_j.below b_
  replace h_mm := h_mm.below b_
  replace k := k.trans (b_.mono kk)
  clear b_ kk h_x h_z
  have kk := k.size
  go_wp2_with fail
  refine (Reverse_grown w.heap.size am n_j cm _ w8 h_mm hN1 kk).mono ?_
  rintro e w9 ⟨rfl, h_r, g_⟩
  replace h_l := h_l.grown g_ sl
  replace h_m := h_m.grown g_ sm'
  replace h_j := h_j.grown g_ sj
  replace k := k.grown g_ kk (fun q hq => (World.ownsRow.lt h_mm q hq).1)
  clear h_mm g_ kk sl sm' sj
  have kk := k.size
  go_wp2_with fail
  refine (same_c h_j h_r.isL).mono ?_
  rintro e w10 ⟨rfl, b_⟩
  replace h_l := h_l.below b_
  replace h_m := h_m.below b_
  replace k := k.trans (b_.mono kk)
  clear b_ kk h_j h_r
  have kk := k.size
  go_wp2_with fail
  go_loopw [84, 15, 16] (fun vi vc vd wr => ∃ (i : Nat) (a1 : Option Addr) (c1 : Nat) (a2 : Option Addr) (c2 : Nat), i ≤ n_j ∧ vi = .int .i64 (i : Int) ∧ vc = .slice a1 i c1 ∧ vd = .slice a2 i c2 ∧ Hid (OwnL wr 3 w10.heap.size a1 i c1 ((rlb E D).take i)) ∧ Hid (OwnL wr 3 w10.heap.size a2 i c2 ((rlb E E).take i)) ∧ Sep a1 a2 ∧ Below w10.heap.size w10 wr) (fun vi _ _ _ => n_j - (intOf vi).toNat)
  case atStart => exact ⟨0, none, 0, none, 0, by omega, rfl, rfl, rfl, Lib.hid (OwnL.nilL _ _ _), Lib.hid (OwnL.nilL _ _ _), Sep.none_left _, Below.refl _ _⟩
  case round =>
    obtain ⟨i, a1, c1, a2, c2, hi, rfl, rfl, rfl, hC, hI, hsep, hb⟩ := hrel
    have hsz := hb.size
    by_cases hlt : i < n_j
    · have q0 : (i : Int) < (n_j : Int) := by omega
      have hl2 := h_l.below hb
      obtain ⟨b3, o3, rfl, _, hc⟩ := hl2.cells (by omega)
      have y1 := hc i hlt
      have hlo := HD.out.lo i (by rw [HDL.out]; exact hlt)
      rw [HDL.out] at hlo
      obtain ⟨v, hv⟩ : ∃ v, D.getD i 0 = v := ⟨_, rfl⟩
      have HG1 : Hid ((rlb E D).take (i + 1) = (rlb E D).take i ++ [(pos E v : Int)]) := Lib.hid (by
        rw [take_succ_getD _ _ (by rw [rlb_len, HDL.out]; exact hlt), rlb_get (by rw [HDL.out]; exact hlt), hv])
      have HG2 : Hid ((rlb E E).take (i + 1) = (rlb E E).take i ++ [(i : Int)]) := Lib.hid (by
        rw [take_succ_getD _ _ (by rw [rlb_len, HEL.out]; exact hlt), rlb_get (by rw [HEL.out]; exact hlt), HE.out.pos_get i (by rw [HEL.out]; exact hlt)])
      rw [hv] at y1 hlo
      have HIX := Lib.hid (Index_any _ _ _ E v wr (h_m.below hb) HE.out hlo.1 hlo.2 (by omega))
      obtain ⟨p, hp⟩ : ∃ p, pos E v = p := ⟨_, rfl⟩
      rw [hp] at HG1 HIX
      have hC1 := hC.out
      have hI1 := hI.out
      clear hC hI hc hv hp hlo hl2
      go_wp2_with (first
        | (go_at_call 57; refine HIX.out.mono ?_; rintro e w11 ⟨rfl, rfl⟩)
        | (at_builtin; refine wl_app_own Try.underlying22 elem3 w10.heap.size (.tmp 87) (.tmp 94) rfl rfl rfl rfl (hC1.alloc _) (isL_one _ _ _) (by simp; omega) (by omega) ?_))
      intro a6 c6 w6' o6 g6 b6 v6
      have hI6 := (hI1.alloc (.cells #[.int .i64 (p : Int)] 3)).grown g6 hsep.symm
      have s6 := hsep.via v6 (fun x hx => by have := (hI1.lt x hx).2; simp; omega)
      have hb6 := (hb.alloc hsz (.cells #[.int .i64 (p : Int)] 3)).trans b6
      clear g6 b6 v6 hC1 hI1 hb hsz
      have hsz := hb6.size
      go_wp2_with (at_builtin; refine wl_app_own Try.underlying22 elem3 w10.heap.size (.tmp 96) (.tmp 98) rfl rfl rfl rfl (hI6.alloc _) (isL_one _ _ _) (by simp; omega) (by omega) ?_)
      intro a7 c7 w7' o7 g7 b7 v7
      have hC7 := (o6.alloc (.cells #[.int .i64 (i : Int)] 3)).grown g7 s6
      have s7 := (s6.symm.via v7 (fun x hx => by have := (o6.lt x hx).2; simp; omega)).symm
      have hb7 := (hb6.alloc hsz (.cells #[.int .i64 (i : Int)] 3)).trans b7
      have HC7 : Hid (OwnL w7' 3 w10.heap.size a6 (i + 1) c6 ((rlb E D).take (i + 1))) := Lib.hid (by rw [HG1.out]; exact hC7)
      have HI7 : Hid (OwnL w7' 3 w10.heap.size a7 (i + 1) c7 ((rlb E E).take (i + 1))) := Lib.hid (by rw [HG2.out]; exact o7)
      clear g7 b7 v7 o6 o7 hI6 hC7 hb6 hsz HG1 HG2 HIX s6
      go_wp2
      go_roundw
      case rel => first | exact ⟨i + 1, a6, c6, a7, c7, by omega, by go_num, rfl, rfl, HC7, HI7, s7, hb7⟩ | ((repeat apply Exists.intro); exact ⟨⟨i + 1, a6, c6, a7, c7, by omega, by go_num, rfl, rfl, HC7, HI7, s7, hb7⟩, rfl⟩)
      case measure => (simp [intOf] <;> omega)
    · obtain rfl : i = n_j := by omega
      have h_c : IsL wr a1 i c1 (rlb E D) := by
        have := hC.out.isL
        rwa [List.take_of_length_le (by rw [rlb_len, HDL.out]; exact Nat.le_refl _)] at this
      have h_d : IsL wr a2 i c2 (rlb E E) := by
        have := hI.out.isL
        rwa [List.take_of_length_le (by rw [rlb_len, HEL.out]; exact Nat.le_refl _)] at this
      replace h_l := h_l.below hb
      replace h_m := h_m.below hb
      replace k := k.trans (hb.mono kk)
      clear hC hI hsep hb kk
      go_wp2_with fail
      refine (Joint_c h_c h_d B3.out K4.out).mono ?_
      rintro e w_11 ⟨rfl, b_⟩
      replace h_l := h_l.below b_
      replace h_m := h_m.below b_
      replace h_c := h_c.below b_
      replace h_d := h_d.below b_
      replace k := k.trans (b_.mono k.size)
      clear b_
      go_wp2_with fail
      refine (Differ_c h_l h_m B1.out K5.out).mono ?_
      rintro e w_12 ⟨a_p, n_p, c_p, rfl, h_p, b_⟩
      replace h_l := h_l.below b_
      replace h_m := h_m.below b_
      replace h_c := h_c.below b_
      replace h_d := h_d.below b_
      replace k := k.trans (b_.mono k.size)
      clear b_
      clear h_l
      clear h_m
      go_wp2_with fail
      refine (Differ_c h_c h_d B3.out K6.out).mono ?_
      rintro e w_13 ⟨a_q, n_q, c_q, rfl, h_q, b_⟩
      replace h_c := h_c.below b_
      replace h_d := h_d.below b_
      replace h_p := h_p.below b_
      replace k := k.trans (b_.mono k.size)
      clear b_
      clear h_c
      clear h_d
      obtain rfl : n_p = n_q := by rw [← h_p.len, ← h_q.len]; exact KPL.out
      have t3 : ((n_p : Int) == (n_p : Int)) = true := by simp
      have kk := k.size
      go_wp2_with fail
      refine (works_any _).mono ?_
      rintro e w20 ⟨rfl, b_⟩
      go_wp2
      go_ret
      exact ⟨rfl, k.trans (b_.mono kk)⟩
end Go.Proofs.Ytmcckngodaeojaa
