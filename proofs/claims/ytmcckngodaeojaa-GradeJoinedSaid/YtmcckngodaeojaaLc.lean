/- Law of chapter 3: GradeJoined. -/
import Derived.Test.YtmcckngodaeojaaLa
namespace Go.Proofs.Ytmcckngodaeojaa
open Go.RowKit Grade03

set_option maxHeartbeats 8000000 in
set_option maxRecDepth 100000 in
theorem GradeJoined_any (a0 : Option Addr) (n0 c0 : Nat) (zs0 : List Int) (a1 : Option Addr) (n1 c1 : Nat) (zs1 : List Int) (w : World) (hrow0 : RowIn .i64 w a0 n0 c0 zs0) (hrow1 : RowIn .i64 w a1 n1 c1 zs1) :
    Calls Try.prog 5 #[.slice a0 n0 c0, .slice a1 n1 c1] w fun e w' => e = .returned (.bool true) ∧ Below w.heap.size w w' := by
  have h_l := hrow0.isL
  have h_m := hrow1.isL
  clear hrow0
  clear hrow1
  generalize zs0.take n0 = Ll at *
  generalize zs1.take n1 = Lm at *
  obtain ⟨E, hE⟩ : ∃ v, bothE Ll Lm = v := ⟨_, rfl⟩
  have HE := Lib.hid hE
  clear hE
  obtain ⟨J, hJ⟩ : ∃ v, joinE Ll Lm = v := ⟨_, rfl⟩
  have HJ := Lib.hid hJ
  clear hJ
  obtain ⟨M, hM⟩ : ∃ v, meetE Ll Lm = v := ⟨_, rfl⟩
  have HM := Lib.hid hM
  clear hM
  have tE : (E == E) = true := by simp
  obtain ⟨BL, hBL⟩ := large2 h_l h_m
  have HBL := Lib.hid hBL
  clear hBL
  cases BL with
  | true =>
    go_enter Try.func5, Try.ntmps5
    go_wp2_with fail
    refine HBL.out.mono ?_
    rintro e w0 ⟨rfl, b0⟩
    go_wp2_with fail
    refine (works_any _).mono ?_
    rintro e w5 ⟨rfl, b5⟩
    go_wp2
    go_ret
    exact ⟨rfl, b0.trans (b5.mono b0.size)⟩
  | false =>
    go_enter Try.func5, Try.ntmps5
    have k := Below.refl w.heap.size w
    go_wp2_with fail
    refine (HBL.out).mono ?_
    rintro e w_1 ⟨rfl, b_⟩
    replace h_l := h_l.below b_
    replace h_m := h_m.below b_
    replace k := k.trans (b_.mono k.size)
    clear b_
    go_wp2_with fail
    refine (Join_c h_l h_m HE.out HJ.out).mono ?_
    rintro e w_2 ⟨a_x, n_x, c_x, rfl, h_x, b_⟩
    replace h_l := h_l.below b_
    replace h_m := h_m.below b_
    replace k := k.trans (b_.mono k.size)
    clear b_
    go_wp2_with fail
    refine (rJoin_c h_l h_m HE.out HJ.out).mono ?_
    rintro e w_3 ⟨a_y, n_y, c_y, rfl, h_y, b_⟩
    replace h_l := h_l.below b_
    replace h_m := h_m.below b_
    replace h_x := h_x.below b_
    replace k := k.trans (b_.mono k.size)
    clear b_
    go_wp2_with fail
    refine (Meet_c h_l h_m HE.out HM.out).mono ?_
    rintro e w_4 ⟨a_v, n_v, c_v, rfl, h_v, b_⟩
    replace h_l := h_l.below b_
    replace h_m := h_m.below b_
    replace h_x := h_x.below b_
    replace h_y := h_y.below b_
    replace k := k.trans (b_.mono k.size)
    clear b_
    go_wp2_with fail
    refine (rMeet_c h_l h_m HE.out HM.out).mono ?_
    rintro e w_5 ⟨a_u, n_u, c_u, rfl, h_u, b_⟩
    replace h_l := h_l.below b_
    replace h_m := h_m.below b_
    replace h_x := h_x.below b_
    replace h_y := h_y.below b_
    replace h_v := h_v.below b_
    replace k := k.trans (b_.mono k.size)
    clear b_
    clear h_l
    clear h_m
    go_wp2_with fail
    refine (same_c h_x h_y).mono ?_
    rintro e w_6 ⟨rfl, b_⟩
    replace h_x := h_x.below b_
    replace h_y := h_y.below b_
    replace h_v := h_v.below b_
    replace h_u := h_u.below b_
    replace k := k.trans (b_.mono k.size)
    clear b_
    clear h_x
    clear h_y
    go_wp2_with fail
    refine (same_c h_v h_u).mono ?_
    rintro e w_7 ⟨rfl, b_⟩
    replace h_v := h_v.below b_
    replace h_u := h_u.below b_
    replace k := k.trans (b_.mono k.size)
    clear b_
    clear h_v
    clear h_u
    go_wp2_with fail
    refine (works_any _).mono ?_
    rintro e w_8 ⟨rfl, b_⟩
    replace k := k.trans (b_.mono k.size)
    clear b_
    go_wp2
    go_ret
    exact ⟨rfl, k⟩
end Go.Proofs.Ytmcckngodaeojaa
