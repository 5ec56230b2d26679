/- Law of chapter 11: StoreJoins. -/
import Derived.Test.YtjedmiegcbdedaaLd
import Derived.Test.YtjedmiegcbdedaaRf
namespace Go.Proofs.Ytjedmiegcbdedaa
open Go.RowKit Store11
section
variable (a b : Option Addr) (n c m d : Nat) (w : World) {l l' r : List Int} {u v x : Int}
theorem rFiner_c {v : Bool} (h : IsL w a n c l) (h' : IsL w b m d l') (hv : finerB l l' = v) (hx : bothE l l' = x) :
    Calls Try.prog 30 #[.slice a n c, .slice b m d] w fun e w' => e = .returned (.tuple #[.bool v, .int .i64 x]) ∧ Below w.heap.size w w' := by
  subst hv hx; exact rFiner_any a b n c m d l l' w h h'
theorem rJoin_c (h : IsL w a n c l) (h' : IsL w b m d l') (hr : joinL l l' = r) (hx : bothE l l' = x) :
    Calls Try.prog 32 #[.slice a n c, .slice b m d] w fun e w' => ∃ a' n' c', e = .returned (.tuple #[.slice a' n' c', .int .i64 x]) ∧ IsL w' a' n' c' r ∧ Below w.heap.size w w' := by
  subst hr hx; exact rJoin_any a b n c m d l l' w h h'
theorem rMeet_c (h : IsL w a n c l) (h' : IsL w b m d l') (hr : meetL l l' = r) (hx : bothE l l' = x) :
    Calls Try.prog 34 #[.slice a n c, .slice b m d] w fun e w' => ∃ a' n' c', e = .returned (.tuple #[.slice a' n' c', .int .i64 x]) ∧ IsL w' a' n' c' r ∧ Below w.heap.size w w' := by
  subst hr hx; exact rMeet_any a b n c m d l l' w h h'
end

set_option maxHeartbeats 4000000 in
set_option maxRecDepth 100000 in
theorem StoreJoins_any (a0 : Option Addr) (n0 c0 : Nat) (zs : List Int) (a1 : Option Addr) (n1 c1 : Nat) (zs' : List Int) (w : World) (hrow : RowIn .i64 w a0 n0 c0 zs) (hrow' : RowIn .i64 w a1 n1 c1 zs') :
    Calls Try.prog 4 #[.slice a0 n0 c0, .slice a1 n1 c1] w fun e w' => e = .returned (.bool true) ∧ Below w.heap.size w w' := by
  have h_l := hrow.isL
  have h_m := hrow'.isL
  have hw := Lib.hid hrow.wfs
  have hw' := Lib.hid hrow'.wfs
  have hcap := h_l.cap
  have hle := h_l.le
  have hcap' := h_m.cap
  have hle' := h_m.le
  clear hrow hrow'
  generalize zs.take n0 = L at *
  generalize zs'.take n1 = M at *
  by_cases h60 : 60 < n0 ∨ 60 < n1
  · rcases (by omega : 60 < n0 ∨ (n0 ≤ 60 ∧ 60 < n1)) with h1 | ⟨h1, h2⟩
    · have d1 : decide (((60 : Nat) : Int) < (n0 : Int)) = true := by simp; omega
      have h60' : ((60 : Nat) : Int) < (n0 : Int) := by omega
      clear h60
      go_enter Try.func4, Try.ntmps4
      go_wp2_with (go_at_call 15; refine (works_any _).mono ?_; rintro en w5 ⟨rfl, b5⟩)
      go_ret
      exact ⟨rfl, b5⟩
    · have d1 : (n0 : Int) ≤ 60 := by omega
      have d2 : ((60 : Nat) : Int) < (n1 : Int) := by omega
      have d3 : decide ((60 : Int) < (n0 : Int)) = false := by simp; omega
      have d4 : decide ((60 : Int) < (n1 : Int)) = true := by simp; omega
      clear h60
      go_enter Try.func4, Try.ntmps4
      go_wp2_with (go_at_call 15; refine (works_any _).mono ?_; rintro en w5 ⟨rfl, b5⟩)
      go_ret
      exact ⟨rfl, b5⟩
  · have d1 : (n0 : Int) ≤ 60 := by omega
    have d2 : (n1 : Int) ≤ 60 := by omega
    have d3 : decide ((60 : Int) < (n0 : Int)) = false := by simp; omega
    have d4 : decide ((60 : Int) < (n1 : Int)) = false := by simp; omega
    clear h60
    obtain ⟨F, hF⟩ : ∃ v, finerB L M = v := ⟨_, rfl⟩
    have HF := Lib.hid hF
    clear hF
    obtain ⟨E, hE⟩ : ∃ v, bothE L M = v := ⟨_, rfl⟩
    have HE := Lib.hid hE
    clear hE
    obtain ⟨J, hJ⟩ : ∃ v, joinL L M = v := ⟨_, rfl⟩
    have HJ := Lib.hid hJ
    clear hJ
    obtain ⟨K, hK⟩ : ∃ v, meetL L M = v := ⟨_, rfl⟩
    have HK := Lib.hid hK
    clear hK
    have tF : (F == F) = true := by simp
    have tE : (E == E) = true := by simp
    go_enter Try.func4, Try.ntmps4
    have k := Below.refl w.heap.size w
    go_wp2_with fail
    refine (Finer_c _ _ _ _ _ _ _ h_l h_m HF.out HE.out hw.out hw'.out).mono ?_
    rintro e w_1 ⟨rfl, b_⟩
    replace h_l := h_l.below b_
    replace h_m := h_m.below b_
    replace k := k.trans (b_.mono k.size)
    clear b_
    go_wp2_with fail
    refine (rFiner_c _ _ _ _ _ _ _ h_l h_m HF.out HE.out).mono ?_
    rintro e w_2 ⟨rfl, b_⟩
    replace h_l := h_l.below b_
    replace h_m := h_m.below b_
    replace k := k.trans (b_.mono k.size)
    clear b_
    go_wp2_with fail
    refine (Join_c _ _ _ _ _ _ _ h_l h_m HJ.out HE.out hw.out).mono ?_
    rintro e w_3 ⟨a_x, n_x, c_x, rfl, h_x, b_⟩
    replace h_l := h_l.below b_
    replace h_m := h_m.below b_
    replace k := k.trans (b_.mono k.size)
    clear b_
    go_wp2_with fail
    refine (rJoin_c _ _ _ _ _ _ _ h_l h_m HJ.out HE.out).mono ?_
    rintro e w_4 ⟨a_y, n_y, c_y, rfl, h_y, b_⟩
    replace h_l := h_l.below b_
    replace h_m := h_m.below b_
    replace h_x := h_x.below b_
    replace k := k.trans (b_.mono k.size)
    clear b_
    go_wp2_with fail
    refine (Meet_c _ _ _ _ _ _ _ h_l h_m HK.out HE.out hw.out hw'.out).mono ?_
    rintro e w_5 ⟨a_p, n_p, c_p, rfl, h_p, b_⟩
    replace h_l := h_l.below b_
    replace h_m := h_m.below b_
    replace h_x := h_x.below b_
    replace h_y := h_y.below b_
    replace k := k.trans (b_.mono k.size)
    clear b_
    go_wp2_with fail
    refine (rMeet_c _ _ _ _ _ _ _ h_l h_m HK.out HE.out).mono ?_
    rintro e w_6 ⟨a_q, n_q, c_q, rfl, h_q, b_⟩
    replace h_l := h_l.below b_
    replace h_m := h_m.below b_
    replace h_x := h_x.below b_
    replace h_y := h_y.below b_
    replace h_p := h_p.below b_
    replace k := k.trans (b_.mono k.size)
    clear b_
    clear h_l
    clear h_m
    go_wp2_with fail
    refine (same_c h_x h_y).mono ?_
    rintro e w_7 ⟨rfl, b_⟩
    replace h_x := h_x.below b_
    replace h_y := h_y.below b_
    replace h_p := h_p.below b_
    replace h_q := h_q.below b_
    replace k := k.trans (b_.mono k.size)
    clear b_
    clear h_x
    clear h_y
    go_wp2_with fail
    refine (same_c h_p h_q).mono ?_
    rintro e w_8 ⟨rfl, b_⟩
    replace h_p := h_p.below b_
    replace h_q := h_q.below b_
    replace k := k.trans (b_.mono k.size)
    clear b_
    clear h_p
    clear h_q
    go_wp2_with fail
    refine (works_any _).mono ?_
    rintro e w_9 ⟨rfl, b_⟩
    replace k := k.trans (b_.mono k.size)
    clear b_
    go_wp2
    go_ret
    exact ⟨rfl, k⟩
end Go.Proofs.Ytjedmiegcbdedaa
