/- Walks of chapter 06: remainders. -/
import Derived.Test.YthocenkedncoeaaWd
namespace Go.Proofs.Ythocenkedncoeaa
open Go.RowKit Bench06

set_option maxHeartbeats 800000 in
theorem remainders_any (a : Option Addr) (n c : Nat) (l : List Int) (w : World) (hl : IsL w a n c l) (hn : n ≤ 20) (hnd : l.Nodup) (hmem : ∀ x ∈ l, x ∈ rng n) :
    Calls Try.prog 57 #[.slice a n c] w fun e w' => ∃ a' c', e = .returned (.slice a' n c') ∧ OwnL w' 3 w.heap.size a' n c' (remL l) ∧ Below w.heap.size w w' := by
  have hlen := Lib.hid hl.len
  have hle := hl.le
  have hcap := hl.cap
  have HM := Lib.hid hmem
  have HN := Lib.hid hnd
  clear hmem hnd
  go_enter Try.func57, Try.ntmps57
  go_wp2_with (go_at_call 63; refine (full_any _ _ (by omega) (by omega)).mono ?_; rintro e w1 ⟨a0, c0, rfl, hown0, hb0⟩)
  go_loopw [3, 4, 13] (fun vb vo vi wr => ∃ (k m : Nat) (ab : Option Addr) (ca : Nat) (o : Option Addr) (co : Nat) (lb out : List Int), k + m = n ∧ vb = .slice ab m ca ∧ vo = .slice o k co ∧ vi = .int .i64 k ∧ IsL wr ab m ca lb ∧ OwnL wr 3 w.heap.size o k co out ∧
      Below w.heap.size w wr ∧ Sep ab o ∧ Hid (out ++ remG lb (l.drop k) = remL l) ∧ Hid ((l.drop k).Nodup ∧ ∀ y ∈ l.drop k, y ∈ lb)) (fun vb _ _ _ => lenOf vb)
  case atStart =>
    have e : ((n : Int)).toNat = n := by omega
    exact ⟨0, n, a0, c0, none, 0, _, [], by omega, rfl, rfl, rfl, hown0.isL, OwnL.nilL _ _ _, hb0, Sep.none_right _, Lib.hid (by rw [remL, hlen.out]; rfl), Lib.hid ⟨by simpa using HN.out, by simpa using HM.out⟩⟩
  case round =>
    obtain ⟨k, m, ab, ca, o, co, lb, out, hk, rfl, rfl, rfl, hlb, hout, hb, hsep, heq, hper⟩ := hrel
    have hk2 : k + m ≤ 20 := by omega
    have hsz := hb.size
    by_cases hlt : 0 < m
    · obtain ⟨b, of, rfl, hbl, hcells⟩ := hl.cells (by omega)
      have hkn : k < n := by omega
      have hkl : k < l.length := by rw [hlen.out]; exact hkn
      have hcell : w.cell? ⟨b, of + k, none⟩ = some (.int .i64 (l.getD k 0)) := hcells k hkn
      rw [← hb.cell (p := ⟨b, of + k, none⟩) hbl] at hcell
      have hmemk : l.getD k 0 ∈ lb := hper.out.2 _ (by rw [drop_getD l k hkl]; simp)
      have hidx := idxI_mem lb _ hmemk
      have hlbn := hlb.len
      have hlbx := hlb.lt hlt
      rw [hlbn] at hidx
      obtain ⟨i0, i1⟩ := hidx
      have HP := Lib.hid (mem_rest lb l k hkl hper.out.1 hper.out.2)
      have HQ := Lib.hid ((remG_step lb l out k hkl).symm.trans heq.out)
      rw [hlbn] at HQ
      have HK := Lib.hid hk
      have j0 := Int.emod_nonneg (idxI lb (l.getD k 0) + 1) (show (m : Int) ≠ 0 by omega)
      have j1 := Int.emod_lt_of_pos (idxI lb (l.getD k 0) + 1) (show (0 : Int) < (m : Int) by omega)
      have hne : ((m : Int) == 0) = false := by simp; omega
      clear hcells heq hper hk hlbn hmemk
      generalize l.getD k 0 = x at *
      go_wp2_with (first
        | (go_at_call 68; refine (index68_any _ _ _ _ _ _ hlb).mono ?_; rintro e w2 ⟨rfl, rfl⟩)
        | (at_builtin; refine wl_app_own Try.underlying22 elem3 w.heap.size (.tmp 20) (.tmp 26) rfl rfl rfl rfl (hout.alloc _) (isL_one _ _ _) (by simp; omega) (by omega) ?_))
      intro o2 co2 w2 hout2 hg2 hb2 hv2
      have hl4 := (hlb.alloc (.cells #[.int .i64 ((idxI lb x + 1) % (m : Int))] 3)).grown hg2 hsep
      have hs2 : Sep ab o2 := (hsep.symm.via hv2 (fun x hx => by have := hlbx x hx; simp; omega)).symm
      have hb4 := (hb.alloc hsz (.cells #[.int .i64 ((idxI lb x + 1) % (m : Int))] 3)).trans hb2
      have hoL := hout2.lt
      clear hg2 hv2 hsep hb2 hcell hout hlb hlbx hb
      go_wp2_with (go_at_call 64; refine (gone_any _ _ _ _ _ _ hl4 i0 i1 (by omega)).mono ?_; rintro e w3 ⟨a3, c3, rfl, hl5, hb5, hv5⟩)
      go_roundw
      case rel => exact ⟨k + 1, m - 1, a3, c3, o2, co2, _, _, by have := HK.out; omega, rfl, rfl, by go_num, hl5, hout2.below hb5, hb4.trans (hb5.mono hb4.size), hs2.via hv5 (fun x hx => (hoL x hx).2), HQ, HP⟩
      case measure => simp [lenOf]; omega
    · obtain rfl : m = 0 := by omega
      have hq : out = remL l := by
        have := heq.out
        rw [List.drop_of_length_le (by rw [hlen.out]; omega)] at this
        simpa [remG] using this
      have hk' : k = n := by omega
      have HQ := Lib.hid hq
      clear hq heq hper hk
      subst hk'
      go_wp2
      go_ret
      obtain rfl : out = remL l := HQ.out
      exact ⟨o, co, rfl, hout, hb⟩

theorem Remainders_ok (a : Option Addr) (n c : Nat) (l : List Int) (w : World) (hl : IsL w a n c l) (h : checkL l = 0) :
    Calls Try.prog 27 #[.slice a n c] w fun e w' => ∃ a' c', e = .returned (.tuple #[.slice a' n c', .int .i64 0]) ∧ OwnL w' 3 w.heap.size a' n c' (remL l) ∧ Below w.heap.size w w' := by
  have hlen := hl.len
  obtain ⟨h1, h2, h3, h4⟩ := checkL_ok l h
  rw [hlen] at h2 h4
  have H3 := Lib.hid h3
  have H4 := Lib.hid h4
  have H := Lib.hid h
  clear h h3 h4 h1 hlen
  go_enter Try.func27, Try.ntmps27
  go_wp2_with (first | (go_at_call 31; refine (Check_any _ _ _ _ _ hl).mono ?_; rintro e w1 ⟨rfl, rfl⟩; rw [H.out]) | (go_at_call 57; refine (remainders_any _ _ _ _ _ hl h2 H3.out H4.out).mono ?_; rintro e w1 ⟨a1, ca, rfl, hown, hb⟩))
  go_ret2
  exact ⟨a1, ca, rfl, hown, hb⟩
theorem Remainders_err (a : Option Addr) (n c : Nat) (l : List Int) (w : World) (hl : IsL w a n c l) (h : checkL l ≠ 0) :
    Calls Try.prog 27 #[.slice a n c] w fun e w' => e = .returned (.tuple #[.slice none 0 0, .int .i64 (checkL l)]) ∧ w = w' := by
  have hd : (checkL l != 0) = true := by simpa using h
  have HC := Lib.hid (Check_any a n c l w hl)
  generalize checkL l = q at *
  clear h
  go_enter Try.func27, Try.ntmps27
  go_wp2_with (go_at_call 31; refine HC.out.mono ?_; rintro e w1 ⟨rfl, rfl⟩)
  go_ret2
  exact ⟨rfl, rfl⟩
end Go.Proofs.Ythocenkedncoeaa
