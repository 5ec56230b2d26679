/- Law of chapter 3: GradeDiffers. -/
import Derived.Test.YtmcckngodaeojaaWR
namespace Go.Proofs.Ytmcckngodaeojaa
open Go.RowKit Grade03
theorem large2 {a b : Option Addr} {n m c d : Nat} {la lb : List Int} {w : World} (h : IsL w a n c la) (h' : IsL w b m d lb) : ∃ B : Bool, Calls Try.prog 15 #[.slice (some ⟨w.heap.size, 0, none⟩) 2 2] (w.alloc (.cells #[.slice a n c, .slice b m d] 22)) fun e w' => e = .returned (.bool B) ∧ Below w.heap.size w w' :=
  ⟨_, (large_any w.heap.size 2 2 _ _ (rows2 a b n m c d la lb w h h') rfl (by omega)).mono fun e w' ⟨h1, h2⟩ => ⟨h1, by rw [← h2]; exact (Below.refl _ _).alloc (Nat.le_refl _) _⟩⟩
theorem large3 {a b x : Option Addr} {n m k c d f : Nat} {la lb lx : List Int} {w : World} (h : IsL w a n c la) (h' : IsL w b m d lb) (h2 : IsL w x k f lx) : ∃ B : Bool, Calls Try.prog 15 #[.slice (some ⟨w.heap.size, 0, none⟩) 3 3] (w.alloc (.cells #[.slice a n c, .slice b m d, .slice x k f] 22)) fun e w' => e = .returned (.bool B) ∧ Below w.heap.size w w' :=
  ⟨_, (large_any w.heap.size 3 3 _ _ (rows3 a b x n m k c d f la lb lx w h h' h2) rfl (by omega)).mono fun e w' ⟨h1, h2⟩ => ⟨h1, by rw [← h2]; exact (Below.refl _ _).alloc (Nat.le_refl _) _⟩⟩

set_option maxHeartbeats 8000000 in
set_option maxRecDepth 100000 in
theorem GradeDiffers_any (a0 : Option Addr) (n0 c0 : Nat) (zs0 : List Int) (a1 : Option Addr) (n1 c1 : Nat) (zs1 : List Int) (a2 : Option Addr) (n2 c2 : Nat) (zs2 : List Int) (w : World) (hrow0 : RowIn .i64 w a0 n0 c0 zs0) (hrow1 : RowIn .i64 w a1 n1 c1 zs1) (hrow2 : RowIn .i64 w a2 n2 c2 zs2) :
    Calls Try.prog 3 #[.slice a0 n0 c0, .slice a1 n1 c1, .slice a2 n2 c2] w fun e w' => e = .returned (.bool true) ∧ Below w.heap.size w w' := by
  have h_l := hrow0.isL
  have h_m := hrow1.isL
  have h_p := hrow2.isL
  clear hrow0
  clear hrow1
  clear hrow2
  generalize zs0.take n0 = Ll at *
  generalize zs1.take n1 = Lm at *
  generalize zs2.take n2 = Lp at *
  obtain ⟨E, hE⟩ : ∃ v, bothE Ll Lm = v := ⟨_, rfl⟩
  have HE := Lib.hid hE
  clear hE
  obtain ⟨D, hD⟩ : ∃ v, difE Ll Lm = v := ⟨_, rfl⟩
  have HD := Lib.hid hD
  clear hD
  obtain ⟨W, hW⟩ : ∃ v, wayE Ll Lm = v := ⟨_, rfl⟩
  have HW := Lib.hid hW
  clear hW
  obtain ⟨F, hF⟩ : ∃ v, leadsE Ll Lm Lp = v := ⟨_, rfl⟩
  have HF := Lib.hid hF
  clear hF
  obtain ⟨C, hC⟩ : ∃ v, chkE Ll = v := ⟨_, rfl⟩
  have HC := Lib.hid hC
  clear hC
  have tE : (E == E) = true := by simp
  have tF : (F == F) = true := by simp
  have tC : (C == C) = true := by simp
  obtain ⟨BL, hBL⟩ := large3 h_l h_m h_p
  have HBL := Lib.hid hBL
  clear hBL
  cases BL with
  | true =>
    go_enter Try.func3, Try.ntmps3
    go_wp2_with fail
    refine HBL.out.mono ?_
    rintro e w0 ⟨rfl, b0⟩
    go_wp2_with fail
    refine (works_any _).mono ?_
    rintro e w5 ⟨rfl, b5⟩
    go_wp2
    go_ret
    exact ⟨rfl, b0.trans (b5.mono b0.size)⟩
  | false =>
    go_enter Try.func3, Try.ntmps3
    have k := Below.refl w.heap.size w
    go_wp2_with fail
    refine (HBL.out).mono ?_
    rintro e w_1 ⟨rfl, b_⟩
    replace h_l := h_l.below b_
    replace h_m := h_m.below b_
    replace h_p := h_p.below b_
    replace k := k.trans (b_.mono k.size)
    clear b_
    go_wp2_with fail
    refine (Differ_c h_l h_m HE.out HD.out).mono ?_
    rintro e w_2 ⟨a_x, n_x, c_x, rfl, h_x, b_⟩
    replace h_l := h_l.below b_
    replace h_m := h_m.below b_
    replace h_p := h_p.below b_
    replace k := k.trans (b_.mono k.size)
    clear b_
    go_wp2_with fail
    refine (rDiffer_c h_l h_m HE.out HD.out).mono ?_
    rintro e w_3 ⟨a_y, n_y, c_y, rfl, h_y, b_⟩
    replace h_l := h_l.below b_
    replace h_m := h_m.below b_
    replace h_p := h_p.below b_
    replace h_x := h_x.below b_
    replace k := k.trans (b_.mono k.size)
    clear b_
    go_wp2_with fail
    refine (Way_c h_l h_m HE.out HW.out).mono ?_
    rintro e w_4 ⟨a_v, n_v, c_v, rfl, h_v, b_⟩
    replace h_l := h_l.below b_
    replace h_m := h_m.below b_
    replace h_p := h_p.below b_
    replace h_x := h_x.below b_
    replace h_y := h_y.below b_
    replace k := k.trans (b_.mono k.size)
    clear b_
    go_wp2_with fail
    refine (rWay_c h_l h_m HE.out HW.out).mono ?_
    rintro e w_5 ⟨a_u, n_u, c_u, rfl, h_u, b_⟩
    replace h_l := h_l.below b_
    replace h_m := h_m.below b_
    replace h_p := h_p.below b_
    replace h_x := h_x.below b_
    replace h_y := h_y.below b_
    replace h_v := h_v.below b_
    replace k := k.trans (b_.mono k.size)
    clear b_
    go_wp2_with fail
    refine (pairs_c h_x h_y).mono ?_
    rintro e w_6 ⟨rfl, b_⟩
    replace h_l := h_l.below b_
    replace h_m := h_m.below b_
    replace h_p := h_p.below b_
    replace h_x := h_x.below b_
    replace h_y := h_y.below b_
    replace h_v := h_v.below b_
    replace h_u := h_u.below b_
    replace k := k.trans (b_.mono k.size)
    clear b_
    clear h_x
    clear h_y
    go_wp2_with fail
    refine (same_c h_v h_u).mono ?_
    rintro e w_7 ⟨rfl, b_⟩
    replace h_l := h_l.below b_
    replace h_m := h_m.below b_
    replace h_p := h_p.below b_
    replace h_v := h_v.below b_
    replace h_u := h_u.below b_
    replace k := k.trans (b_.mono k.size)
    clear b_
    clear h_v
    clear h_u
    go_wp2_with fail
    refine (Leads_c h_l h_m h_p HF.out).mono ?_
    rintro e w_8 ⟨rfl, b_⟩
    replace h_l := h_l.below b_
    replace h_m := h_m.below b_
    replace h_p := h_p.below b_
    replace k := k.trans (b_.mono k.size)
    clear b_
    go_wp2_with fail
    refine (rLeads_c h_l h_m h_p HF.out).mono ?_
    rintro e w_9 ⟨rfl, b_⟩
    replace h_l := h_l.below b_
    replace h_m := h_m.below b_
    replace h_p := h_p.below b_
    replace k := k.trans (b_.mono k.size)
    clear b_
    clear h_m
    clear h_p
    go_wp2_with fail
    refine (Check_c h_l HC.out).mono ?_
    rintro e w_10 ⟨rfl, b_⟩
    replace h_l := h_l.below b_
    replace k := k.trans (b_.mono k.size)
    clear b_
    go_wp2_with fail
    refine (rCheck_c h_l HC.out).mono ?_
    rintro e w_11 ⟨rfl, b_⟩
    replace h_l := h_l.below b_
    replace k := k.trans (b_.mono k.size)
    clear b_
    clear h_l
    go_wp2_with fail
    refine (works_any _).mono ?_
    rintro e w_12 ⟨rfl, b_⟩
    replace k := k.trans (b_.mono k.size)
    clear b_
    go_wp2
    go_ret
    exact ⟨rfl, k⟩
end Go.Proofs.Ytmcckngodaeojaa
