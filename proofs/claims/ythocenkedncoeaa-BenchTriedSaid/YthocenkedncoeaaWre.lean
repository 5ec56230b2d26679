/- Walks of chapter 06: the reference, fifth part. -/
import Derived.Test.YthocenkedncoeaaWrb
import Derived.Test.YthocenkedncoeaaPm
namespace Go.Proofs.Ythocenkedncoeaa
open Go.RowKit Bench06

set_option maxHeartbeats 800000 in
theorem rremainders_any (a : Option Addr) (n c : Nat) (l : List Int) (w : World) (hl : IsL w a n c l) (hn : n ≤ 20) (hnd : l.Nodup) (hmem : ∀ x ∈ l, x ∈ rng n) :
    Calls Try.prog 58 #[.slice a n c] w fun e w' => ∃ a' c', e = .returned (.slice a' n c') ∧ OwnL w' 3 w.heap.size a' n c' (remL l) ∧ Below w.heap.size w w' := by
  have hlen := Lib.hid hl.len
  have hle := hl.le
  have hcap := hl.cap
  have HM := Lib.hid hmem
  have HN := Lib.hid hnd
  clear hmem hnd
  go_enter Try.func58, Try.ntmps58
  go_wp2_with (go_at_call 52; refine (rall_any _ _ (by omega) (by omega)).mono ?_; rintro e w1 ⟨a0, c0, rfl, hown0, hb0⟩)
  go_loopw [4, 3, 5] (fun vb vo vi wr => ∃ (k m : Nat) (ab : Option Addr) (ca : Nat) (o : Option Addr) (co : Nat) (lb out : List Int), k + m = n ∧ vb = .slice ab m ca ∧ vo = .slice o k co ∧ vi = .int .i64 k ∧ IsL wr ab m ca lb ∧ OwnL wr 3 w.heap.size o k co out ∧
      Below w.heap.size w wr ∧ Sep ab o ∧ Hid (out ++ remG lb (l.drop k) = remL l) ∧ Hid ((l.drop k).Nodup ∧ ∀ y ∈ l.drop k, y ∈ lb)) (fun vb _ _ _ => lenOf vb)
  case atStart =>
    have e : ((n : Int)).toNat = n := by omega
    exact ⟨0, n, a0, c0, none, 0, _, [], by omega, rfl, rfl, rfl, hown0.isL, OwnL.nilL _ _ _, hb0, Sep.none_right _, Lib.hid (by rw [remL, hlen.out]; rfl), Lib.hid ⟨by simpa using HN.out, by simpa using HM.out⟩⟩
  case round =>
    obtain ⟨k, m, ab, ca, o, co, lb, out, hk, rfl, rfl, rfl, hlb, hout, hb, hsep, heq, hper⟩ := hrel
    have hk2 : k + m ≤ 20 := by omega
    have hsz := hb.size
    by_cases hlt : 0 < m
    · obtain ⟨b, of, rfl, hbl, hcells⟩ := hl.cells (by omega)
      have hkn : k < n := by omega
      have hkl : k < l.length := by rw [hlen.out]; exact hkn
      have hcell : w.cell? ⟨b, of + k, none⟩ = some (.int .i64 (l.getD k 0)) := hcells k hkn
      rw [← hb.cell (p := ⟨b, of + k, none⟩) hbl] at hcell
      have hmemk : l.getD k 0 ∈ lb := hper.out.2 _ (by rw [drop_getD l k hkl]; simp)
      have hidx := idxI_mem lb _ hmemk
      have hlbn := hlb.len
      have hlbx := hlb.lt hlt
      rw [hlbn] at hidx
      obtain ⟨i0, i1⟩ := hidx
      have HP := Lib.hid (mem_rest lb l k hkl hper.out.1 hper.out.2)
      have HQ := Lib.hid ((remG_step lb l out k hkl).symm.trans heq.out)
      rw [hlbn] at HQ
      have HK := Lib.hid hk
      have j0 := Int.emod_nonneg (idxI lb (l.getD k 0) + 1) (show (m : Int) ≠ 0 by omega)
      have j1 := Int.emod_lt_of_pos (idxI lb (l.getD k 0) + 1) (show (0 : Int) < (m : Int) by omega)
      have hne : ((m : Int) == 0) = false := by simp; omega
      clear hcells heq hper hk hlbn hmemk
      generalize l.getD k 0 = x at *
      go_wp2_with (first
        | (go_at_call 51; refine (rplace_any _ _ _ _ _ _ hlb).mono ?_; rintro e w2 ⟨rfl, rfl⟩)
        | (at_builtin; refine wl_app_own Try.underlying22 elem3 w.heap.size (.tmp 22) (.tmp 28) rfl rfl rfl rfl (hout.alloc _) (isL_one _ _ _) (by simp; omega) (by omega) ?_))
      intro o2 co2 w2 hout2 hg2 hb2 hv2
      have hl4 := (hlb.alloc (.cells #[.int .i64 ((idxI lb x + 1) % (m : Int))] 3)).grown hg2 hsep
      have hs2 : Sep ab o2 := (hsep.symm.via hv2 (fun x hx => by have := hlbx x hx; simp; omega)).symm
      have hb4 := (hb.alloc hsz (.cells #[.int .i64 ((idxI lb x + 1) % (m : Int))] 3)).trans hb2
      have hoL := hout2.lt
      clear hg2 hv2 hsep hb2 hcell hout hlb hlbx hb
      go_wp2_with (go_at_call 53; refine (rafter_any _ _ _ _ _ _ hl4 i0 i1 (by omega)).mono ?_; rintro e w3 ⟨a3, c3, rfl, hl5, hb5, hv5⟩)
      go_roundw
      case rel => exact ⟨k + 1, m - 1, a3, c3, o2, co2, _, _, by have := HK.out; omega, rfl, rfl, by go_num, hl5, hout2.below hb5, hb4.trans (hb5.mono hb4.size), hs2.via hv5 (fun x hx => (hoL x hx).2), HQ, HP⟩
      case measure => simp [lenOf]; omega
    · obtain rfl : m = 0 := by omega
      have hq : out = remL l := by
        have := heq.out
        rw [List.drop_of_length_le (by rw [hlen.out]; omega)] at this
        simpa [remG] using this
      have hk' : k = n := by omega
      have HQ := Lib.hid hq
      clear hq heq hper hk
      subst hk'
      go_wp2
      go_ret
      obtain rfl : out = remL l := HQ.out
      exact ⟨o, co, rfl, hout, hb⟩


theorem rplace_yes (a : Option Addr) (n c : Nat) (l : List Int) (x : Int) (w : World) (hl : IsL w a n c l) (hx : x ∈ l) :
    Calls Try.prog 51 #[.slice a n c, .int .i64 x] w fun e w' => ∃ j, 0 ≤ j ∧ e = .returned (.int .i64 j) ∧ w = w' :=
  (rplace_any a n c l x w hl).mono fun e w' ⟨he, hw⟩ => ⟨_, (idxI_mem l x hx).1, he, hw⟩
theorem rplace_no (a : Option Addr) (n c : Nat) (l : List Int) (x : Int) (w : World) (hl : IsL w a n c l) (hx : x ∉ l) :
    Calls Try.prog 51 #[.slice a n c, .int .i64 x] w fun e w' => e = .returned (.int .i64 (-1)) ∧ w = w' :=
  (rplace_any a n c l x w hl).mono fun e w' ⟨he, hw⟩ => ⟨he.trans (ret_i (idxI_not l x hx)), hw⟩

set_option maxHeartbeats 400000 in
theorem rCheck_any (a : Option Addr) (n c : Nat) (l : List Int) (w : World) (hl : IsL w a n c l) :
    Calls Try.prog 32 #[.slice a n c] w fun e w' => e = .returned (.int .i64 (checkL l)) ∧ Below w.heap.size w w' := by
  have hc := hl.le
  have hcap := hl.cap
  have hlen := Lib.hid hl.len
  by_cases hn : n < 1 ∨ 20 < n
  · have hv : checkL l = 1 := by unfold checkL; rw [if_neg (by rw [hlen.out]; omega)]
    have HV := Lib.hid hv
    clear hv
    go_enter Try.func32, Try.ntmps32
    go_wp2_with (go_at_call 50; refine (in_no _ _ _ _ (by omega)).mono ?_; rintro e w1 ⟨rfl, rfl⟩)
    go_ret
    exact ⟨ret_i HV.out.symm, Below.refl _ _⟩
  · have hn1 : 1 ≤ n := by omega
    have hn2 : n ≤ 20 := by omega
    clear hn
    have hv : checkG n [] l = checkL l := by unfold checkL; rw [if_pos (by rw [hlen.out]; omega), hlen.out]
    have HV := Lib.hid hv
    clear hv
    go_enter Try.func32, Try.ntmps32
    go_wp2_with (go_at_call 50; refine (in_yes _ _ _ _ (by omega) (by omega)).mono ?_; rintro e w1 ⟨rfl, rfl⟩)
    go_loopw [3] (fun i wr => ∃ k : Nat, k ≤ n ∧ i = .int .i64 k ∧ Below w.heap.size w wr ∧ Hid (checkG n (l.take k) (l.drop k) = checkL l)) (fun i _ => n - (intOf i).toNat)
    case atStart => exact ⟨0, by omega, rfl, Below.refl _ _, Lib.hid (by simpa using HV.out)⟩
    case round =>
      obtain ⟨k, hk, rfl, hbr, hq⟩ := hrel
      by_cases hlt : k < n
      · obtain ⟨b, o, rfl, hbl, hcells⟩ := hl.cells (by omega)
        have hcell := (hbr.cell (p := ⟨b, o + k, none⟩) hbl).trans (hcells k hlt)
        have hkl : k < l.length := by rw [hlen.out]; exact hlt
        have hpre := (hl.below hbr).pre k c (by omega) (by omega) (by omega)
        have hstep := hq.out
        rw [drop_getD l k hkl, checkG, ← take_succ_getD l k hkl] at hstep
        have HS := Lib.hid hstep
        clear hcells hstep hq
        generalize l.getD k 0 = x at *
        have k1 : (0 : Int) ≤ (k : Int) := by omega
        have k2 : (k : Int) ≤ (c : Int) := by omega
        have k3 : (k : Int) < (n : Int) := by omega
        by_cases h0 : 0 ≤ x ∧ x ≤ (n : Int) - 1
        · obtain ⟨h0', h1'⟩ := h0
          by_cases h2 : x ∈ l.take k
          · have HV2 : Hid (checkL l = 6) := Lib.hid (by rw [← HS.out, if_neg (by omega), if_pos h2])
            have hj := idxI_mem _ _ h2
            have hj0 := hj.1
            clear h2 hj
            go_wp2_with (go_at_call 50; refine (in_yes _ _ _ _ h0' h1').mono ?_; rintro e w1 ⟨rfl, rfl⟩)
            go_quiet ((go_at_call 51; exact Calls.quiet_of_same ((rplace_any _ _ _ _ _ _ (hpre.drewN _)).mono (fun e w' h => ⟨h.1, h.2.symm⟩))))
            go_wp2
            go_ret
            exact ⟨ret_i HV2.out.symm, belowN hbr _⟩
          · have HV2 : Hid (checkG n (l.take (k + 1)) (l.drop (k + 1)) = checkL l) := Lib.hid (by rw [← HS.out, if_neg (by omega), if_neg h2])
            have hj : idxI (l.take k) x < 0 := by rw [idxI_not _ _ h2]; omega
            clear h2
            go_wp2_with (go_at_call 50; refine (in_yes _ _ _ _ h0' h1').mono ?_; rintro e w1 ⟨rfl, rfl⟩)
            go_quiet ((go_at_call 51; exact Calls.quiet_of_same ((rplace_any _ _ _ _ _ _ (hpre.drewN _)).mono (fun e w' h => ⟨h.1, h.2.symm⟩))))
            go_wp2
            go_roundw
            case rel => exact ⟨k + 1, by omega, by go_num, belowN hbr _, HV2⟩
            case measure => simp [intOf]; omega
        · have HV2 : Hid (checkL l = 2) := Lib.hid (by rw [← HS.out, if_pos h0])
          have H0 := Lib.hid h0
          clear h0
          go_wp2_with (go_at_call 50; refine (in_no _ _ _ _ H0.out).mono ?_; rintro e w1 ⟨rfl, rfl⟩)
          go_ret
          exact ⟨ret_i HV2.out.symm, hbr⟩
      · have HV2 : Hid (checkL l = 0) := Lib.hid (by rw [← hq.out, List.drop_of_length_le (by rw [hlen.out]; omega)]; rfl)
        go_wp2
        go_ret
        exact ⟨ret_i HV2.out.symm, hbr⟩

theorem rRemainders_ok (a : Option Addr) (n c : Nat) (l : List Int) (w : World) (hl : IsL w a n c l) (h : checkL l = 0) :
    Calls Try.prog 28 #[.slice a n c] w fun e w' => ∃ a' c', e = .returned (.tuple #[.slice a' n c', .int .i64 0]) ∧ IsL w' a' n c' (remL l) ∧ Below w.heap.size w w' := by
  have hlen := hl.len
  obtain ⟨h1, h2, h3, h4⟩ := checkL_ok l h
  rw [hlen] at h2 h4
  have H3 := Lib.hid h3
  have H4 := Lib.hid h4
  have H := Lib.hid h
  clear h h3 h4 h1 hlen
  go_enter Try.func28, Try.ntmps28
  go_wp2_with (first
    | (go_at_call 32; refine (rCheck_any _ _ _ _ _ hl).mono ?_; rintro e w1 ⟨rfl, b1⟩; rw [H.out]; have hl1 := hl.below b1)
    | (go_at_call 58; refine (rremainders_any _ _ _ _ _ hl1 h2 H3.out H4.out).mono ?_; rintro e w2 ⟨a1, ca, rfl, hown, hb⟩))
  go_ret2
  exact ⟨a1, ca, rfl, hown.isL, b1.trans (hb.mono b1.size)⟩
theorem rRemainders_err (a : Option Addr) (n c : Nat) (l : List Int) (w : World) (hl : IsL w a n c l) (h : checkL l ≠ 0) :
    Calls Try.prog 28 #[.slice a n c] w fun e w' => e = .returned (.tuple #[.slice none 0 0, .int .i64 (checkL l)]) ∧ Below w.heap.size w w' := by
  have hd : (checkL l != 0) = true := by simpa using h
  have HC := Lib.hid (rCheck_any a n c l w hl)
  generalize checkL l = q at *
  clear h
  go_enter Try.func28, Try.ntmps28
  go_wp2_with (go_at_call 32; refine HC.out.mono ?_; rintro e w1 ⟨rfl, b1⟩)
  go_ret2
  exact ⟨rfl, b1⟩
end Go.Proofs.Ythocenkedncoeaa
