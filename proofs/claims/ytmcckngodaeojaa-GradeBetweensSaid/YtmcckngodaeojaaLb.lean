/- Law of chapter 3: GradeBetweens. -/
import Derived.Test.YtmcckngodaeojaaLa
namespace Go.Proofs.Ytmcckngodaeojaa
open Go.RowKit Grade03

set_option maxHeartbeats 8000000 in
set_option maxRecDepth 100000 in
theorem GradeBetweens_any (a0 : Option Addr) (n0 c0 : Nat) (zs0 : List Int) (a1 : Option Addr) (n1 c1 : Nat) (zs1 : List Int) (a2 : Option Addr) (n2 c2 : Nat) (zs2 : List Int) (w : World) (hrow0 : RowIn .i64 w a0 n0 c0 zs0) (hrow1 : RowIn .i64 w a1 n1 c1 zs1) (hrow2 : RowIn .i64 w a2 n2 c2 zs2) :
    Calls Try.prog 4 #[.slice a0 n0 c0, .slice a1 n1 c1, .slice a2 n2 c2] w fun e w' => e = .returned (.bool true) ∧ Below w.heap.size w w' := by
  have h_l := hrow0.isL
  have h_m := hrow1.isL
  have h_p := hrow2.isL
  clear hrow0
  clear hrow1
  clear hrow2
  generalize zs0.take n0 = Ll at *
  generalize zs1.take n1 = Lm at *
  generalize zs2.take n2 = Lp at *
  obtain ⟨E, hE⟩ : ∃ v, bothE Ll Lm = v := ⟨_, rfl⟩
  have HE := Lib.hid hE
  clear hE
  obtain ⟨T, hT⟩ : ∃ v, threeE Ll Lm Lp = v := ⟨_, rfl⟩
  have HT := Lib.hid hT
  clear hT
  obtain ⟨B, hB⟩ : ∃ v, btwE Ll Lm Lp = v := ⟨_, rfl⟩
  have HB := Lib.hid hB
  clear hB
  obtain ⟨J, hJ⟩ : ∃ v, jntE Ll Lm = v := ⟨_, rfl⟩
  have HJ := Lib.hid hJ
  clear hJ
  obtain ⟨F, hF⟩ : ∃ v, fstE Ll Lm = v := ⟨_, rfl⟩
  have HF := Lib.hid hF
  clear hF
  have tE : (E == E) = true := by simp
  have tT : (T == T) = true := by simp
  have tB : (B == B) = true := by simp
  have tJ : (J == J) = true := by simp
  obtain ⟨BL, hBL⟩ := large3 h_l h_m h_p
  have HBL := Lib.hid hBL
  clear hBL
  cases BL with
  | true =>
    go_enter Try.func4, Try.ntmps4
    go_wp2_with fail
    refine HBL.out.mono ?_
    rintro e w0 ⟨rfl, b0⟩
    go_wp2_with fail
    refine (works_any _).mono ?_
    rintro e w5 ⟨rfl, b5⟩
    go_wp2
    go_ret
    exact ⟨rfl, b0.trans (b5.mono b0.size)⟩
  | false =>
    go_enter Try.func4, Try.ntmps4
    have k := Below.refl w.heap.size w
    go_wp2_with fail
    refine (HBL.out).mono ?_
    rintro e w_1 ⟨rfl, b_⟩
    replace h_l := h_l.below b_
    replace h_m := h_m.below b_
    replace h_p := h_p.below b_
    replace k := k.trans (b_.mono k.size)
    clear b_
    go_wp2_with fail
    refine (Between_c h_l h_m h_p HT.out HB.out).mono ?_
    rintro e w_2 ⟨rfl, b_⟩
    replace h_l := h_l.below b_
    replace h_m := h_m.below b_
    replace h_p := h_p.below b_
    replace k := k.trans (b_.mono k.size)
    clear b_
    go_wp2_with fail
    refine (rBetween_c h_l h_m h_p HT.out HB.out).mono ?_
    rintro e w_3 ⟨rfl, b_⟩
    replace h_l := h_l.below b_
    replace h_m := h_m.below b_
    replace h_p := h_p.below b_
    replace k := k.trans (b_.mono k.size)
    clear b_
    clear h_p
    go_wp2_with fail
    refine (Joint_c h_l h_m HE.out HJ.out).mono ?_
    rintro e w_4 ⟨rfl, b_⟩
    replace h_l := h_l.below b_
    replace h_m := h_m.below b_
    replace k := k.trans (b_.mono k.size)
    clear b_
    go_wp2_with fail
    refine (rJoint_c h_l h_m HE.out HJ.out).mono ?_
    rintro e w_5 ⟨rfl, b_⟩
    replace h_l := h_l.below b_
    replace h_m := h_m.below b_
    replace k := k.trans (b_.mono k.size)
    clear b_
    go_wp2_with fail
    refine (First_c h_l h_m HE.out HF.out).mono ?_
    rintro e w_6 ⟨a_v, n_v, c_v, rfl, h_v, b_⟩
    replace h_l := h_l.below b_
    replace h_m := h_m.below b_
    replace k := k.trans (b_.mono k.size)
    clear b_
    go_wp2_with fail
    refine (rFirst_c h_l h_m HE.out HF.out).mono ?_
    rintro e w_7 ⟨a_u, n_u, c_u, rfl, h_u, b_⟩
    replace h_l := h_l.below b_
    replace h_m := h_m.below b_
    replace h_v := h_v.below b_
    replace k := k.trans (b_.mono k.size)
    clear b_
    clear h_l
    clear h_m
    go_wp2_with fail
    refine (same_c h_v h_u).mono ?_
    rintro e w_8 ⟨rfl, b_⟩
    replace h_v := h_v.below b_
    replace h_u := h_u.below b_
    replace k := k.trans (b_.mono k.size)
    clear b_
    clear h_v
    clear h_u
    go_wp2_with fail
    refine (works_any _).mono ?_
    rintro e w_9 ⟨rfl, b_⟩
    replace k := k.trans (b_.mono k.size)
    clear b_
    go_wp2
    go_ret
    exact ⟨rfl, k⟩
end Go.Proofs.Ytmcckngodaeojaa
