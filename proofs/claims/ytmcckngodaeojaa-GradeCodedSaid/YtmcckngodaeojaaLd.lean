/- Law of chapter 3: GradeCoded. -/
import Derived.Test.YtmcckngodaeojaaLa
namespace Go.Proofs.Ytmcckngodaeojaa
open Go.RowKit Grade03

set_option maxHeartbeats 8000000 in
set_option maxRecDepth 100000 in
theorem GradeCoded_any (a0 : Option Addr) (n0 c0 : Nat) (zs0 : List Int) (a1 : Option Addr) (n1 c1 : Nat) (zs1 : List Int) (i : Int) (j : Int) (w : World) (hrow0 : RowIn .i64 w a0 n0 c0 zs0) (hrow1 : RowIn .i64 w a1 n1 c1 zs1) :
    Calls Try.prog 6 #[.slice a0 n0 c0, .slice a1 n1 c1, .int .i64 i, .int .i64 j] w fun e w' => e = .returned (.bool true) ∧ Below w.heap.size w w' := by
  have h_l := hrow0.isL
  have h_m := hrow1.isL
  clear hrow0
  clear hrow1
  generalize zs0.take n0 = Ll at *
  generalize zs1.take n1 = Lm at *
  obtain ⟨E, hE⟩ : ∃ v, chkE Ll = v := ⟨_, rfl⟩
  have HE := Lib.hid hE
  clear hE
  obtain ⟨C, hC⟩ : ∃ v, codE Ll = v := ⟨_, rfl⟩
  have HC := Lib.hid hC
  clear hC
  obtain ⟨F, hF⟩ : ∃ v, fromE Lm = v := ⟨_, rfl⟩
  have HF := Lib.hid hF
  clear hF
  obtain ⟨G, hG⟩ : ∃ v, fromR Lm = v := ⟨_, rfl⟩
  have HG := Lib.hid hG
  clear hG
  obtain ⟨M, hM⟩ : ∃ v, majE Ll = v := ⟨_, rfl⟩
  have HM := Lib.hid hM
  clear hM
  obtain ⟨S, hS⟩ : ∃ v, shiftR Ll = v := ⟨_, rfl⟩
  have HS := Lib.hid hS
  clear hS
  obtain ⟨B, hB⟩ : ∃ v, backR Ll = v := ⟨_, rfl⟩
  have HB := Lib.hid hB
  clear hB
  obtain ⟨X, hX⟩ : ∃ v, cntE i j = v := ⟨_, rfl⟩
  have HX := Lib.hid hX
  clear hX
  obtain ⟨N, hN⟩ : ∃ v, cntR i j = v := ⟨_, rfl⟩
  have HN := Lib.hid hN
  clear hN
  have tE : (E == E) = true := by simp
  have sE : (E != E) = false := by simp
  have sF : (F != F) = false := by simp
  have sM : (M != M) = false := by simp
  have tX : (X == X) = true := by simp
  have tN : (N == N) = true := by simp
  obtain ⟨BL, hBL⟩ := large2 h_l h_m
  have HBL := Lib.hid hBL
  clear hBL
  cases BL with
  | true =>
    go_enter Try.func6, Try.ntmps6
    go_wp2_with fail
    refine HBL.out.mono ?_
    rintro e w0 ⟨rfl, b0⟩
    go_wp2_with fail
    refine (works_any _).mono ?_
    rintro e w5 ⟨rfl, b5⟩
    go_wp2
    go_ret
    exact ⟨rfl, b0.trans (b5.mono b0.size)⟩
  | false =>
    go_enter Try.func6, Try.ntmps6
    have k := Below.refl w.heap.size w
    go_wp2_with fail
    refine (HBL.out).mono ?_
    rintro e w_1 ⟨rfl, b_⟩
    replace h_l := h_l.below b_
    replace h_m := h_m.below b_
    replace k := k.trans (b_.mono k.size)
    clear b_
    go_wp2_with fail
    refine (Code_c h_l HE.out HC.out).mono ?_
    rintro e w_2 ⟨a_a, n_a, c_a, rfl, h_a, b_⟩
    replace h_l := h_l.below b_
    replace h_m := h_m.below b_
    replace k := k.trans (b_.mono k.size)
    clear b_
    go_wp2_with fail
    refine (rCode_c h_l HE.out HC.out).mono ?_
    rintro e w_3 ⟨a_b, n_b, c_b, rfl, h_b, b_⟩
    replace h_l := h_l.below b_
    replace h_m := h_m.below b_
    replace h_a := h_a.below b_
    replace k := k.trans (b_.mono k.size)
    clear b_
    go_wp2_with fail
    refine (From_c h_m HF.out HG.out).mono ?_
    rintro e w_4 ⟨a_c, n_c, c_c, rfl, h_c, b_⟩
    replace h_l := h_l.below b_
    replace h_m := h_m.below b_
    replace h_a := h_a.below b_
    replace h_b := h_b.below b_
    replace k := k.trans (b_.mono k.size)
    clear b_
    go_wp2_with fail
    refine (rFrom_c h_m HF.out HG.out).mono ?_
    rintro e w_5 ⟨a_d, n_d, c_d, rfl, h_d, b_⟩
    replace h_l := h_l.below b_
    replace h_m := h_m.below b_
    replace h_a := h_a.below b_
    replace h_b := h_b.below b_
    replace h_c := h_c.below b_
    replace k := k.trans (b_.mono k.size)
    clear b_
    clear h_m
    go_wp2_with fail
    refine (Major_c h_l HE.out HM.out).mono ?_
    rintro e w_6 ⟨rfl, b_⟩
    replace h_l := h_l.below b_
    replace h_a := h_a.below b_
    replace h_b := h_b.below b_
    replace h_c := h_c.below b_
    replace h_d := h_d.below b_
    replace k := k.trans (b_.mono k.size)
    clear b_
    go_wp2_with fail
    refine (rMajor_c h_l HE.out HM.out).mono ?_
    rintro e w_7 ⟨rfl, b_⟩
    replace h_l := h_l.below b_
    replace h_a := h_a.below b_
    replace h_b := h_b.below b_
    replace h_c := h_c.below b_
    replace h_d := h_d.below b_
    replace k := k.trans (b_.mono k.size)
    clear b_
    go_wp2_with fail
    refine (same_c h_a h_b).mono ?_
    rintro e w_8 ⟨rfl, b_⟩
    replace h_l := h_l.below b_
    replace h_a := h_a.below b_
    replace h_b := h_b.below b_
    replace h_c := h_c.below b_
    replace h_d := h_d.below b_
    replace k := k.trans (b_.mono k.size)
    clear b_
    clear h_a
    clear h_b
    go_wp2_with fail
    refine (same_c h_c h_d).mono ?_
    rintro e w_9 ⟨rfl, b_⟩
    replace h_l := h_l.below b_
    replace h_c := h_c.below b_
    replace h_d := h_d.below b_
    replace k := k.trans (b_.mono k.size)
    clear b_
    clear h_c
    clear h_d
    go_wp2_with fail
    refine (Shift_c h_l HE.out HS.out).mono ?_
    rintro e w_10 ⟨a_a, n_a, c_a, rfl, h_a, b_⟩
    replace h_l := h_l.below b_
    replace k := k.trans (b_.mono k.size)
    clear b_
    go_wp2_with fail
    refine (rShift_c h_l HE.out HS.out).mono ?_
    rintro e w_11 ⟨a_b, n_b, c_b, rfl, h_b, b_⟩
    replace h_l := h_l.below b_
    replace h_a := h_a.below b_
    replace k := k.trans (b_.mono k.size)
    clear b_
    go_wp2_with fail
    refine (Back_c h_l HE.out HB.out).mono ?_
    rintro e w_12 ⟨a_c, n_c, c_c, rfl, h_c, b_⟩
    replace h_l := h_l.below b_
    replace h_a := h_a.below b_
    replace h_b := h_b.below b_
    replace k := k.trans (b_.mono k.size)
    clear b_
    go_wp2_with fail
    refine (rBack_c h_l HE.out HB.out).mono ?_
    rintro e w_13 ⟨a_d, n_d, c_d, rfl, h_d, b_⟩
    replace h_l := h_l.below b_
    replace h_a := h_a.below b_
    replace h_b := h_b.below b_
    replace h_c := h_c.below b_
    replace k := k.trans (b_.mono k.size)
    clear b_
    clear h_l
    go_wp2_with fail
    refine (Count_c i j _ HX.out HN.out).mono ?_
    rintro e w_14 ⟨rfl, b_⟩
    replace h_a := h_a.below b_
    replace h_b := h_b.below b_
    replace h_c := h_c.below b_
    replace h_d := h_d.below b_
    replace k := k.trans (b_.mono k.size)
    clear b_
    go_wp2_with fail
    refine (rCount_c i j _ HX.out HN.out).mono ?_
    rintro e w_15 ⟨rfl, b_⟩
    replace h_a := h_a.below b_
    replace h_b := h_b.below b_
    replace h_c := h_c.below b_
    replace h_d := h_d.below b_
    replace k := k.trans (b_.mono k.size)
    clear b_
    go_wp2_with fail
    refine (same_c h_a h_b).mono ?_
    rintro e w_16 ⟨rfl, b_⟩
    replace h_a := h_a.below b_
    replace h_b := h_b.below b_
    replace h_c := h_c.below b_
    replace h_d := h_d.below b_
    replace k := k.trans (b_.mono k.size)
    clear b_
    clear h_a
    clear h_b
    go_wp2_with fail
    refine (same_c h_c h_d).mono ?_
    rintro e w_17 ⟨rfl, b_⟩
    replace h_c := h_c.below b_
    replace h_d := h_d.below b_
    replace k := k.trans (b_.mono k.size)
    clear b_
    clear h_c
    clear h_d
    go_wp2_with fail
    refine (works_any _).mono ?_
    rintro e w_18 ⟨rfl, b_⟩
    replace k := k.trans (b_.mono k.size)
    clear b_
    go_wp2
    go_ret
    exact ⟨rfl, k⟩
end Go.Proofs.Ytmcckngodaeojaa
