/- Law of chapter 11: StoreGaps. -/
import Derived.Test.YtjedmiegcbdedaaLd
import Derived.Test.YtjedmiegcbdedaaRk
namespace Go.Proofs.Ytjedmiegcbdedaa
open Go.RowKit Store11
section
variable (a : Option Addr) (n c : Nat) (w : World) {l r : List Int} {u v x : Int}
theorem rArcs_c (h : IsL w a n c l) (hv : cnL l = (u, v)) (hx : chkL l = x) : Calls Try.prog 36 #[.slice a n c] w fun e w' => e = .returned (.tuple #[.int .i64 u, .int .i64 v, .int .i64 x]) ∧ Below w.heap.size w w' := by
  have := rArcs_any a n c l w h
  rw [hv, hx] at this; exact this
theorem rFlat_c (n : Int) (hv : flatV n = v) (hx : countE n = x) : Calls Try.prog 38 #[.int .i64 n] w fun e w' => e = .returned (.tuple #[.int .i64 v, .int .i64 x]) ∧ Below w.heap.size w w' := by
  subst hv hx; exact rFlat_any n w
theorem rGaps_c (h : IsL w a n c l) (hr : gapL l = r) (hx : flatE l = x) : Calls Try.prog 40 #[.slice a n c] w fun e w' => ∃ a' n' c', e = .returned (.tuple #[.slice a' n' c', .int .i64 x]) ∧ IsL w' a' n' c' r ∧ Below w.heap.size w w' := by
  subst hr hx; exact rGaps_any a n c l w h
theorem rBack_c (h : IsL w a n c l) (hr : backL l = r) (hx : flatE l = x) : Calls Try.prog 42 #[.slice a n c] w fun e w' => ∃ a' n' c', e = .returned (.tuple #[.slice a' n' c', .int .i64 x]) ∧ IsL w' a' n' c' r ∧ Below w.heap.size w w' := by
  subst hr hx; exact rBack_any a n c l w h
end

set_option maxHeartbeats 4000000 in
set_option maxRecDepth 100000 in
theorem StoreGaps_any (a0 : Option Addr) (n0 c0 : Nat) (zs : List Int) (boxes : Int) (w : World) (hrow : RowIn .i64 w a0 n0 c0 zs) :
    Calls Try.prog 5 #[.slice a0 n0 c0, .int .i64 boxes] w fun e w' => e = .returned (.bool true) ∧ Below w.heap.size w w' := by
  have h_l := hrow.isL
  have hw := Lib.hid hrow.wfs
  have hcap := h_l.cap
  have hle := h_l.le
  clear hrow
  generalize zs.take n0 = L at *
  by_cases h60 : 60 < n0
  · have d1 : decide (((60 : Nat) : Int) < (n0 : Int)) = true := by simp; omega
    have h60' : ((60 : Nat) : Int) < (n0 : Int) := by omega
    clear h60
    go_enter Try.func5, Try.ntmps5
    go_wp2_with (go_at_call 15; refine (works_any _).mono ?_; rintro en w5 ⟨rfl, b5⟩)
    go_ret
    exact ⟨rfl, b5⟩
  · have d1 : (n0 : Int) ≤ 60 := by omega
    have d3 : decide ((60 : Int) < (n0 : Int)) = false := by simp; omega
    clear h60
    obtain ⟨C, N, hC⟩ : ∃ u v, cnL L = (u, v) := ⟨_, _, rfl⟩
    have HC := Lib.hid hC
    clear hC
    obtain ⟨E, hE⟩ : ∃ v, chkL L = v := ⟨_, rfl⟩
    have HE := Lib.hid hE
    clear hE
    obtain ⟨F, hF⟩ : ∃ v, flatE L = v := ⟨_, rfl⟩
    have HF := Lib.hid hF
    clear hF
    obtain ⟨G, hG⟩ : ∃ v, gapL L = v := ⟨_, rfl⟩
    have HG := Lib.hid hG
    clear hG
    obtain ⟨K, hK⟩ : ∃ v, backL L = v := ⟨_, rfl⟩
    have HK := Lib.hid hK
    clear hK
    obtain ⟨V, hV⟩ : ∃ v, flatV boxes = v := ⟨_, rfl⟩
    have HV := Lib.hid hV
    clear hV
    obtain ⟨X, hX⟩ : ∃ v, countE boxes = v := ⟨_, rfl⟩
    have HX := Lib.hid hX
    clear hX
    have tC : (C == C) = true := by simp
    have sC : (C != C) = false := by simp
    have tN : (N == N) = true := by simp
    have sN : (N != N) = false := by simp
    have tE : (E == E) = true := by simp
    have sE : (E != E) = false := by simp
    have tF : (F == F) = true := by simp
    have sF : (F != F) = false := by simp
    have tV : (V == V) = true := by simp
    have sV : (V != V) = false := by simp
    have tX : (X == X) = true := by simp
    have sX : (X != X) = false := by simp
    go_enter Try.func5, Try.ntmps5
    have k := Below.refl w.heap.size w
    go_wp2_with fail
    refine (Arcs_c _ _ _ _ h_l HC.out HE.out hw.out).mono ?_
    rintro e w_1 ⟨rfl, b_⟩
    replace h_l := h_l.below b_
    replace k := k.trans (b_.mono k.size)
    clear b_
    go_wp2_with fail
    refine (rArcs_c _ _ _ _ h_l HC.out HE.out).mono ?_
    rintro e w_2 ⟨rfl, b_⟩
    replace h_l := h_l.below b_
    replace k := k.trans (b_.mono k.size)
    clear b_
    go_wp2_with fail
    refine (Flat_c _ _ HV.out HX.out).mono ?_
    rintro e w_3 ⟨rfl, b_⟩
    replace h_l := h_l.below b_
    replace k := k.trans (b_.mono k.size)
    clear b_
    go_wp2_with fail
    refine (rFlat_c _ _ HV.out HX.out).mono ?_
    rintro e w_4 ⟨rfl, b_⟩
    replace h_l := h_l.below b_
    replace k := k.trans (b_.mono k.size)
    clear b_
    go_wp2_with fail
    refine (Gaps_c _ _ _ _ h_l HG.out HF.out hw.out).mono ?_
    rintro e w_5 ⟨a_x, n_x, c_x, rfl, h_x, b_⟩
    replace h_l := h_l.below b_
    replace k := k.trans (b_.mono k.size)
    clear b_
    go_wp2_with fail
    refine (rGaps_c _ _ _ _ h_l HG.out HF.out).mono ?_
    rintro e w_6 ⟨a_y, n_y, c_y, rfl, h_y, b_⟩
    replace h_l := h_l.below b_
    replace h_x := h_x.below b_
    replace k := k.trans (b_.mono k.size)
    clear b_
    go_wp2_with fail
    refine (Back_c _ _ _ _ h_l HK.out HF.out hw.out).mono ?_
    rintro e w_7 ⟨a_p, n_p, c_p, rfl, h_p, b_⟩
    replace h_l := h_l.below b_
    replace h_x := h_x.below b_
    replace h_y := h_y.below b_
    replace k := k.trans (b_.mono k.size)
    clear b_
    go_wp2_with fail
    refine (rBack_c _ _ _ _ h_l HK.out HF.out).mono ?_
    rintro e w_8 ⟨a_q, n_q, c_q, rfl, h_q, b_⟩
    replace h_l := h_l.below b_
    replace h_x := h_x.below b_
    replace h_y := h_y.below b_
    replace h_p := h_p.below b_
    replace k := k.trans (b_.mono k.size)
    clear b_
    clear h_l
    go_wp2_with fail
    refine (same_c h_x h_y).mono ?_
    rintro e w_9 ⟨rfl, b_⟩
    replace h_x := h_x.below b_
    replace h_y := h_y.below b_
    replace h_p := h_p.below b_
    replace h_q := h_q.below b_
    replace k := k.trans (b_.mono k.size)
    clear b_
    clear h_x
    clear h_y
    go_wp2_with fail
    refine (same_c h_p h_q).mono ?_
    rintro e w_10 ⟨rfl, b_⟩
    replace h_p := h_p.below b_
    replace h_q := h_q.below b_
    replace k := k.trans (b_.mono k.size)
    clear b_
    clear h_p
    clear h_q
    go_wp2_with fail
    refine (works_any _).mono ?_
    rintro e w_11 ⟨rfl, b_⟩
    replace k := k.trans (b_.mono k.size)
    clear b_
    go_wp2
    go_ret
    exact ⟨rfl, k⟩
end Go.Proofs.Ytjedmiegcbdedaa
