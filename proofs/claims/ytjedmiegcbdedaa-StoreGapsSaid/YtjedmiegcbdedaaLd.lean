/- Law of chapter 11: StoreDivides. -/
import Derived.Test.YtjedmiegcbdedaaWv
import Derived.Test.YtjedmiegcbdedaaRd
namespace Go.Proofs.Ytjedmiegcbdedaa
open Go.RowKit Store11

theorem RowIn.wfs {w : World} {a : Option Addr} {n c : Nat} {zs : List Int} (h : RowIn .i64 w a n c zs) : Wf (zs.take n) := by
  rcases h with ⟨rfl, rfl, rfl, rfl⟩ | ⟨x, rfl, h1, h2, h3, h4, h5⟩
  · intro x hx; simp at hx
  · intro x hx; exact h5 x (List.mem_of_mem_take hx)
section
variable (a b : Option Addr) (n c m d : Nat) (w : World) {l l' r : List Int} {u v x : Int}
theorem rOf_c (h : IsL w a n c l) (hr : ofL l = r) (hv : sizeE l.length = v) :
    Calls Try.prog 17 #[.slice a n c] w fun e w' => ∃ a' n' c', e = .returned (.tuple #[.slice a' n' c', .int .i64 v]) ∧ IsL w' a' n' c' r ∧ Below w.heap.size w w' := by
  subst hr hv; exact rOf_any a n c l w h
theorem rCount_c (n : Int) (hv : countV n = v) (hx : countE n = x) : Calls Try.prog 24 #[.int .i64 n] w fun e w' => e = .returned (.tuple #[.int .i64 v, .int .i64 x]) ∧ w = w' := by
  subst hv hx; exact rCount_any n w
theorem rInto_c (n k : Int) (hv : intoV n k = v) (hx : intoE n k = x) : Calls Try.prog 26 #[.int .i64 n, .int .i64 k] w fun e w' => e = .returned (.tuple #[.int .i64 v, .int .i64 x]) ∧ w = w' := by
  subst hv hx; exact rInto_any n k w
theorem rAt_c (n k : Int) (hr : atL n k = r) (hx : atE n k = x) : Calls Try.prog 28 #[.int .i64 n, .int .i64 k] w fun e w' => ∃ a m c, e = .returned (.tuple #[.slice a m c, .int .i64 x]) ∧ IsL w' a m c r ∧ Below w.heap.size w w' := by
  subst hr hx; exact rAt_any n k w
theorem rNumber_c (h : IsL w a n c l) (hv : numV l = v) (hx : chkL l = x) : Calls Try.prog 19 #[.slice a n c] w fun e w' => e = .returned (.tuple #[.int .i64 v, .int .i64 x]) ∧ Below w.heap.size w w' := by
  subst hv hx; exact rNumber_any a n c l w h
theorem rCheck_c (h : IsL w a n c l) (hx : chkL l = x) : Calls Try.prog 22 #[.slice a n c] w fun e w' => e = .returned (.int .i64 x) ∧ Below w.heap.size w w' := by
  subst hx; exact rCheck_any a n c l w h
theorem Check_d (h : IsL w a n c l) (hx : chkL l = x) : Calls Try.prog 21 #[.slice a n c] w fun e w' => e = .returned (.int .i64 x) ∧ w = w' := by
  subst hx; exact Check_any a n c l w h
end

set_option maxHeartbeats 4000000 in
set_option maxRecDepth 100000 in
theorem StoreDivides_any (a0 : Option Addr) (n0 c0 : Nat) (zs : List Int) (b r u : Int) (w : World) (hrow : RowIn .i64 w a0 n0 c0 zs) :
    Calls Try.prog 3 #[.slice a0 n0 c0, .int .i64 b, .int .i64 r, .int .i64 u] w fun e w' => e = .returned (.bool true) ∧ Below w.heap.size w w' := by
  have h_l := hrow.isL
  have hw := Lib.hid hrow.wfs
  have hcap := h_l.cap
  have hle := h_l.le
  clear hrow
  generalize zs.take n0 = L at *
  by_cases h60 : 60 < n0
  · have h60' : ((60 : Nat) : Int) < (n0 : Int) := by omega
    go_enter Try.func3, Try.ntmps3
    go_wp2_with (go_at_call 15; refine (works_any _).mono ?_; rintro en w5 ⟨rfl, b5⟩)
    go_ret
    exact ⟨rfl, b5⟩
  · have h60' : (n0 : Int) ≤ 60 := by omega
    obtain ⟨R, hR⟩ : ∃ v, ofL L = v := ⟨_, rfl⟩
    have HR := Lib.hid hR
    clear hR
    obtain ⟨E, hE⟩ : ∃ v, sizeE L.length = v := ⟨_, rfl⟩
    have HE := Lib.hid hE
    clear hE
    obtain ⟨N, hN⟩ : ∃ v, numV L = v := ⟨_, rfl⟩
    have HN := Lib.hid hN
    clear hN
    obtain ⟨C, hC⟩ : ∃ v, chkL L = v := ⟨_, rfl⟩
    have HC := Lib.hid hC
    clear hC
    obtain ⟨CV, hCV⟩ : ∃ v, countV b = v := ⟨_, rfl⟩
    have HCV := Lib.hid hCV
    clear hCV
    obtain ⟨CE, hCE⟩ : ∃ v, countE b = v := ⟨_, rfl⟩
    have HCE := Lib.hid hCE
    clear hCE
    obtain ⟨IV, hIV⟩ : ∃ v, intoV b r = v := ⟨_, rfl⟩
    have HIV := Lib.hid hIV
    clear hIV
    obtain ⟨IE, hIE⟩ : ∃ v, intoE b r = v := ⟨_, rfl⟩
    have HIE := Lib.hid hIE
    clear hIE
    obtain ⟨AL, hAL⟩ : ∃ v, atL b u = v := ⟨_, rfl⟩
    have HAL := Lib.hid hAL
    clear hAL
    obtain ⟨AE, hAE⟩ : ∃ v, atE b u = v := ⟨_, rfl⟩
    have HAE := Lib.hid hAE
    clear hAE
    have fE : (E != E) = false := by simp
    have fN : (N != N) = false := by simp
    have fC : (C != C) = false := by simp
    have tCV : (CV == CV) = true := by simp
    have tCE : (CE == CE) = true := by simp
    have tIV : (IV == IV) = true := by simp
    have tIE : (IE == IE) = true := by simp
    have tAE : (AE == AE) = true := by simp
    go_enter Try.func3, Try.ntmps3
    have k := Below.refl w.heap.size w
    go_wp2_with fail
    refine (Of_c _ _ _ _ h_l HR.out HE.out hw.out).mono ?_
    rintro e w_1 ⟨a_x, n_x, c_x, rfl, h_x, b_⟩
    replace h_l := h_l.below b_
    replace k := k.trans (b_.mono k.size)
    clear b_
    go_wp2_with fail
    refine (rOf_c _ _ _ _ h_l HR.out HE.out).mono ?_
    rintro e w_2 ⟨a_y, n_y, c_y, rfl, h_y, b_⟩
    replace h_l := h_l.below b_
    replace h_x := h_x.below b_
    replace k := k.trans (b_.mono k.size)
    clear b_
    go_wp2_with fail
    refine (Number_c _ _ _ _ h_l HN.out HC.out).mono ?_
    rintro e w_3 ⟨rfl, b_⟩
    replace h_l := h_l.below b_
    replace h_x := h_x.below b_
    replace h_y := h_y.below b_
    replace k := k.trans (b_.mono k.size)
    clear b_
    go_wp2_with fail
    refine (rNumber_c _ _ _ _ h_l HN.out HC.out).mono ?_
    rintro e w_4 ⟨rfl, b_⟩
    replace h_l := h_l.below b_
    replace h_x := h_x.below b_
    replace h_y := h_y.below b_
    replace k := k.trans (b_.mono k.size)
    clear b_
    go_wp2_with fail
    refine (same_c h_x h_y).mono ?_
    rintro e w_5 ⟨rfl, b_⟩
    replace h_l := h_l.below b_
    replace h_x := h_x.below b_
    replace h_y := h_y.below b_
    replace k := k.trans (b_.mono k.size)
    clear b_
    clear h_x
    clear h_y
    go_wp2_with fail
    refine (Check_d _ _ _ _ h_l HC.out).mono ?_
    rintro e w' ⟨rfl, rfl⟩
    go_wp2_with fail
    refine (rCheck_c _ _ _ _ h_l HC.out).mono ?_
    rintro e w_6 ⟨rfl, b_⟩
    replace h_l := h_l.below b_
    replace k := k.trans (b_.mono k.size)
    clear b_
    clear h_l
    go_wp2_with fail
    refine (Count_c _ b HCV.out HCE.out).mono ?_
    rintro e w_7 ⟨rfl, b_⟩
    replace k := k.trans (b_.mono k.size)
    clear b_
    go_wp2_with fail
    refine (rCount_c _ b HCV.out HCE.out).mono ?_
    rintro e w' ⟨rfl, rfl⟩
    go_wp2_with fail
    refine (Into_c _ b r HIV.out HIE.out).mono ?_
    rintro e w_8 ⟨rfl, b_⟩
    replace k := k.trans (b_.mono k.size)
    clear b_
    go_wp2_with fail
    refine (rInto_c _ b r HIV.out HIE.out).mono ?_
    rintro e w' ⟨rfl, rfl⟩
    go_wp2_with fail
    refine (At_c _ b u HAL.out HAE.out).mono ?_
    rintro e w_9 ⟨a_p, n_p, c_p, rfl, h_p, b_⟩
    replace k := k.trans (b_.mono k.size)
    clear b_
    go_wp2_with fail
    refine (rAt_c _ b u HAL.out HAE.out).mono ?_
    rintro e w_10 ⟨a_q, n_q, c_q, rfl, h_q, b_⟩
    replace h_p := h_p.below b_
    replace k := k.trans (b_.mono k.size)
    clear b_
    go_wp2_with fail
    refine (same_c h_p h_q).mono ?_
    rintro e w_11 ⟨rfl, b_⟩
    replace h_p := h_p.below b_
    replace h_q := h_q.below b_
    replace k := k.trans (b_.mono k.size)
    clear b_
    clear h_p
    clear h_q
    go_wp2_with fail
    refine (works_any _).mono ?_
    rintro e w_12 ⟨rfl, b_⟩
    replace k := k.trans (b_.mono k.size)
    clear b_
    go_wp2
    go_ret
    exact ⟨rfl, k⟩
end Go.Proofs.Ytjedmiegcbdedaa
