/- Walks of chapter 11: a division made flat. -/
import Derived.Test.YtjedmiegcbdedaaXh
import Derived.Test.YtjedmiegcbdedaaPr
namespace Go.Proofs.Ytjedmiegcbdedaa
open Go.RowKit Store11

set_option maxHeartbeats 4000000 in
set_option maxRecDepth 100000 in
theorem flatten_any (a : Option Addr) (n c : Nat) (l : List Int) (w : World) (h : IsL w a n c l) (h9 : n ≤ 9) (hpos : ∀ i, i < l.length → 0 ≤ l.getD i 0) : Calls Try.prog 53 #[.slice a n c] w fun e w' => ∃ a' c', e = .returned (.slice a' n c') ∧ IsL w' a' n c' (flatL l) ∧ Below w.heap.size w w' := by
  have hl := h.len
  have HL := Lib.hid hl
  have HP := Lib.hid hpos
  clear hl hpos
  go_enter Try.func53, Try.ntmps53
  go_wp2_with fail
  go_loopw [11, 3, 4] (fun vi vo vn wr => ∃ (i : Nat) (a1 : Option Addr) (c1 : Nat), i ≤ n ∧ vi = .int .i64 (i : Int) ∧ vo = .slice a1 i c1 ∧ vn = .int .i64 (flK l i).2 ∧ Hid (OwnL wr 3 w.heap.size a1 i c1 (flK l i).1) ∧ Below w.heap.size w wr) (fun vi _ _ _ => n - (intOf vi).toNat)
  case atStart => exact ⟨0, none, 0, by omega, rfl, rfl, rfl, Lib.hid (OwnL.nilL _ _ _), Below.refl _ _⟩
  case round =>
    obtain ⟨i, a1, c1, hi, rfl, rfl, rfl, hO, hb⟩ := hrel
    have hsz := hb.size
    by_cases hlt : i < n
    · have h1 := h.below hb
      obtain ⟨b, o, rfl, _, hc⟩ := h1.cells (by omega)
      have x1 := hc i hlt
      have q1 : (i : Int) < (n : Int) := by omega
      have hok := flK_ok l HP.out i (by rw [HL.out]; omega)
      have hn0 := hok.lo
      have hn1 := hok.le
      have hF := flK_succ l i (by rw [HL.out]; exact hlt)
      obtain ⟨st, hst⟩ : ∃ st, flK l i = st := ⟨_, rfl⟩
      rw [hst] at hF hO hn0 hn1 ⊢
      obtain ⟨r, hr⟩ : ∃ r, l.getD i 0 = r := ⟨_, rfl⟩
      rw [hr] at hF x1
      clear hst hr hc hok
      obtain ⟨so, sn⟩ := st
      simp only [] at hn0 hn1 hO ⊢
      have HFF := Lib.hid hF
      have hO1 := hO.out
      clear hF hO
      by_cases hr : r < sn
      · have hdr : decide (r < sn) = true := by simpa using hr
        obtain ⟨cx, hcx⟩ : ∃ cx, cnX (so ++ [r]) = cx := ⟨_, rfl⟩
        have HCX := Lib.hid hcx
        clear hcx
        obtain ⟨u, v⟩ := cx
        go_wp2_with (first
            | (go_at_call 86; refine (Clip_any a1 i c1 _ hO1.isL.le hO1.isL.cap).mono ?_; rintro e w9 ⟨rfl, rfl⟩)
            | (at_builtin; refine wl_app_full Try.underlying22 elem3 (.tmp 20) (.tmp 22) rfl rfl rfl rfl (hO1.isL.clip.alloc _) (isL_one _ _ _) (by omega) ?_))
        intro a2 c2 w2 hi2 hb2 hv2
        have hO2 := hO1.below (((Below.refl _ wr).alloc (Nat.le_refl _) (.cells #[.int .i64 r] 3)).trans (hb2.mono (by simp)))
        have k2 := hb.trans ((((Below.refl _ wr).alloc (Nat.le_refl _) (.cells #[.int .i64 r] 3)).trans (hb2.mono (by simp))).mono hsz)
        have hs2 := k2.size
        clear hb2 hv2 hO1 hb
        go_wp2_with fail
        refine (larcs_any _ _ _ _ _ hi2 (by omega)).mono ?_
        rintro e w3 ⟨rfl, b3⟩
        have hO3 := hO2.below b3
        have k3 := k2.trans (b3.mono hs2)
        have hs3 := k3.size
        clear hO2 k2 b3 hi2
        rw [HCX.out]
        simp only []
        by_cases hu : u = 0
        · subst hu
          have HF : Hid (flK l (i + 1) = (so ++ [r], sn)) := Lib.hid (by rw [HFF.out, flS, if_pos ⟨hr, by rw [HCX.out]⟩])
          have e1 : ((0 : Int) == 0) = true := rfl
          go_wp2_with (at_builtin; refine wl_app_own Try.underlying22 elem3 w.heap.size (.tmp 29) (.tmp 31) rfl rfl rfl rfl (hO3.alloc _) (isL_one _ _ _) (by simp; omega) (by omega) ?_)
          intro a4 c4 w4 ho4 hg4 hb4 hv4
          have hO5 : Hid (OwnL w4 3 w.heap.size a4 (i + 1) c4 (flK l (i + 1)).1) := Lib.hid (by rw [HF.out]; exact ho4)
          have k5 := ((k3.alloc hs3 (.cells #[.int .i64 r] 3)).trans hb4)
          clear hg4 hb4 hv4 ho4
          go_wp2
          go_roundw
          case rel => first | exact ⟨i + 1, a4, c4, by omega, by go_num, rfl, by rw [HF.out], hO5, k5⟩ | ((repeat apply Exists.intro); exact ⟨⟨i + 1, a4, c4, by omega, by go_num, rfl, by rw [HF.out], hO5, k5⟩, rfl⟩)
          case measure => (simp [intOf] <;> omega)
        · have HF : Hid (flK l (i + 1) = (so ++ [sn], sn + 1)) := Lib.hid (by rw [HFF.out, flS, if_neg (fun hh => hu (by have := hh.2; rw [HCX.out] at this; exact this))])
          have e1 : (u == 0) = false := by simpa using hu
          go_wp2_with (at_builtin; refine wl_app_own Try.underlying22 elem3 w.heap.size (.tmp 33) (.tmp 35) rfl rfl rfl rfl (hO3.alloc _) (isL_one _ _ _) (by simp; omega) (by omega) ?_)
          intro a4 c4 w4 ho4 hg4 hb4 hv4
          have hO5 : Hid (OwnL w4 3 w.heap.size a4 (i + 1) c4 (flK l (i + 1)).1) := Lib.hid (by rw [HF.out]; exact ho4)
          have k5 := ((k3.alloc hs3 (.cells #[.int .i64 sn] 3)).trans hb4)
          clear hg4 hb4 hv4 ho4
          go_wp2
          go_roundw
          case rel => first | exact ⟨i + 1, a4, c4, by omega, by go_num, rfl, by rw [HF.out], hO5, k5⟩ | ((repeat apply Exists.intro); exact ⟨⟨i + 1, a4, c4, by omega, by go_num, rfl, by rw [HF.out], hO5, k5⟩, rfl⟩)
          case measure => (simp [intOf] <;> omega)
      · have hdr : decide (r < sn) = false := by simpa using hr
        have HF : Hid (flK l (i + 1) = (so ++ [sn], sn + 1)) := Lib.hid (by rw [HFF.out, flS, if_neg (fun hh => hr hh.1)])
        go_wp2_with (at_builtin; refine wl_app_own Try.underlying22 elem3 w.heap.size (.tmp 33) (.tmp 35) rfl rfl rfl rfl (hO1.alloc _) (isL_one _ _ _) (by simp; omega) (by omega) ?_)
        intro a4 c4 w4 ho4 hg4 hb4 hv4
        have hO5 : Hid (OwnL w4 3 w.heap.size a4 (i + 1) c4 (flK l (i + 1)).1) := Lib.hid (by rw [HF.out]; exact ho4)
        have k5 := ((hb.alloc hsz (.cells #[.int .i64 sn] 3)).trans hb4)
        clear hg4 hb4 hv4 ho4
        go_wp2
        go_roundw
        case rel => first | exact ⟨i + 1, a4, c4, by omega, by go_num, rfl, by rw [HF.out], hO5, k5⟩ | ((repeat apply Exists.intro); exact ⟨⟨i + 1, a4, c4, by omega, by go_num, rfl, by rw [HF.out], hO5, k5⟩, rfl⟩)
        case measure => (simp [intOf] <;> omega)
    · obtain rfl : i = n := by omega
      have HR : Hid (flatL l = (flK l i).1) := Lib.hid (by rw [flatL, HL.out])
      go_wp2
      go_ret
      exact ⟨_, _, rfl, by rw [HR.out]; exact hO.out.isL, hb⟩
end Go.Proofs.Ytjedmiegcbdedaa
