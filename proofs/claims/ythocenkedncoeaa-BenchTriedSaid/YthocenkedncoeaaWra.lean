/- Walks of chapter 06: the reference, first part. -/
import Derived.Test.YthocenkedncoeaaWd
namespace Go.Proofs.Ythocenkedncoeaa
open Go.RowKit Bench06

set_option maxHeartbeats 400000 in
theorem rall_any (r : Int) (w : World) (h0 : 0 ≤ r) (h1 : r ≤ 20) :
    Calls Try.prog 52 #[.int .i64 r] w fun e w' => ∃ a c, e = .returned (.slice a r.toNat c) ∧ OwnL w' 3 w.heap.size a r.toNat c (rng r.toNat) ∧ Below w.heap.size w w' := by
  go_enter Try.func52, Try.ntmps52
  go_wp2
  go_loopw [3, 4] (fun v i wr => ∃ (k : Nat) (a : Option Addr) (c : Nat), (k : Int) ≤ r ∧ i = .int .i64 k ∧ v = .slice a k c ∧ OwnL wr 3 w.heap.size a k c (rng k) ∧ Below w.heap.size w wr) (fun _ i _ => (r - intOf i).toNat)
  case atStart => exact ⟨0, none, 0, by omega, rfl, rfl, OwnL.nilL _ _ _, Below.refl _ _⟩
  case round =>
    obtain ⟨k, a, c, hk, rfl, rfl, hown, hb⟩ := hrel
    have hsz := hb.size
    by_cases hlt : (k : Int) < r
    · go_wp2_with (at_builtin; refine wl_app_own Try.underlying22 elem3 w.heap.size (.tmp 10) (.tmp 12) rfl rfl rfl rfl (hown.alloc _) (isL_one _ _ _) (by simp; omega) (by omega) ?_)
      intro a2 c2 w1 hown1 hg1 hb1 _
      have hb2 := (hb.alloc hsz (.cells #[.int .i64 k] 3)).trans hb1
      clear hg1 hb1 hown
      rw [← rng_succ] at hown1
      go_wp2
      go_roundw
      case rel => exact ⟨k + 1, a2, c2, by omega, by go_num, rfl, hown1, hb2⟩
      case measure => simp [intOf]; omega
    · have hkr : r.toNat = k := by omega
      go_wp2
      go_ret
      obtain rfl : k = r.toNat := by omega
      exact ⟨a, c, rfl, hown, hb⟩

set_option maxHeartbeats 400000 in
theorem rafter_any (a : Option Addr) (n c : Nat) (l : List Int) (k : Int) (w : World) (hl : IsL w a n c l) (h0 : 0 ≤ k) (h1 : k < n) (hn : n ≤ 20) :
    Calls Try.prog 53 #[.slice a n c, .int .i64 k] w fun e w' => ∃ a' c', e = .returned (.slice a' (n - 1) c') ∧ IsL w' a' (n - 1) c' (rotL l k.toNat) ∧ Below w.heap.size w w' ∧ Via w a a' := by
  have hc := hl.le
  obtain ⟨k, rfl⟩ := Int.eq_ofNat_of_zero_le h0
  have s1 : (0 : Int) ≤ (k : Int) + 1 := by omega
  have s2 : (k : Int) + 1 ≤ (n : Int) := by omega
  have s3 : (n : Int) ≤ (c : Int) := by omega
  have s4 : (k : Int) ≤ (c : Int) := by omega
  have hlen := Lib.hid hl.len
  have hel := own_lit w 3 w.heap.size (Nat.le_refl _) [] #[] 0 rfl rfl (by omega)
  have c1 := (hl.alloc (.cells #[] 3)).cut (k + 1) n c (by omega) (by omega) (by omega) (by omega)
  by_cases hck : c = k + 1
  · subst hck
    obtain rfl : n = k + 1 := by omega
    rw [if_pos rfl, Nat.sub_self, ← hlen.out, List.take_length, hlen.out, List.drop_of_length_le (by rw [hlen.out]; omega)] at c1
    have hro : rotL l k = l.take k := by unfold rotL; rw [List.drop_of_length_le (by rw [hlen.out]; omega)]; rfl
    have HR := Lib.hid hro
    clear hro hc s3
    go_enter Try.func53, Try.ntmps53
    go_wp2_with (at_builtin; refine wl_app_own Try.underlying22 elem3 w.heap.size (.tmp 6) (.tmp 10) rfl rfl rfl rfl hel c1 (by simp) (by omega) ?_)
    intro a2 c2 w2 h2 hg2 hb2 hv2
    have hb3 := ((Below.refl w.heap.size w).alloc (Nat.le_refl _) (.cells #[] 3)).trans hb2
    have hl3 := hl.below hb3
    have hp3 := hl3.pre k (k + 1) (by omega) (by omega) (by omega)
    try simp only [Nat.zero_add, List.nil_append] at h2
    clear hg2 hv2 hel c1 hb2
    go_wp2_with (at_builtin; refine wl_app_own Try.underlying22 elem3 w.heap.size (.tmp 12) (.tmp 15) rfl rfl rfl rfl h2 hp3 hb3.size (by omega) ?_)
    intro a3 c3 w3 h3 hg3 hb4 hv3
    have hb5 := hb3.trans hb4
    have h6 : IsL w3 a3 (k + 1 - 1) c3 (rotL l k) := by rw [HR.out]; exact h3.isL
    have hv : Via w a a3 := Via.of_own h3 (Nat.le_refl _)
    clear h3 hg3 hb4 hv3 h2 hb3 hl3 hp3 s1 s2 s4
    go_wp2
    go_ret
    exact ⟨a3, c3, rfl, h6, hb5, hv⟩
  · rw [if_neg hck] at c1
    go_enter Try.func53, Try.ntmps53
    go_wp2_with (at_builtin; refine wl_app_own Try.underlying22 elem3 w.heap.size (.tmp 6) (.tmp 10) rfl rfl rfl rfl hel c1 (by simp) (by omega) ?_)
    intro a2 c2 w2 h2 hg2 hb2 hv2
    have hb3 := ((Below.refl w.heap.size w).alloc (Nat.le_refl _) (.cells #[] 3)).trans hb2
    have hl3 := hl.below hb3
    have hp3 := hl3.pre k c (by omega) (by omega) (by omega)
    try simp only [Nat.zero_add, List.nil_append] at h2
    clear hg2 hv2 hel c1 hb2
    go_wp2_with (at_builtin; refine wl_app_own Try.underlying22 elem3 w.heap.size (.tmp 12) (.tmp 15) rfl rfl rfl rfl h2 hp3 hb3.size (by omega) ?_)
    intro a3 c3 w3 h3 hg3 hb4 hv3
    have hb5 := hb3.trans hb4
    have hn1 : n - (k + 1) + k = n - 1 := by omega
    rw [hn1] at h3 ⊢
    have h6 : IsL w3 a3 (n - 1) c3 (rotL l k) := by
      have := h3.isL
      rw [List.take_of_length_le (show l.length ≤ n by rw [hlen.out]; exact Nat.le_refl _)] at this
      exact this
    have hv : Via w a a3 := Via.of_own h3 (Nat.le_refl _)
    clear h3 hg3 hb4 hv3 h2 hb3 hl3 hp3 hn1 s1 s2 s3 s4
    go_wp2
    go_ret
    exact ⟨a3, c3, rfl, h6, hb5, hv⟩

set_option maxHeartbeats 400000 in
theorem rplace_any (a : Option Addr) (n c : Nat) (l : List Int) (x : Int) (w : World) (hl : IsL w a n c l) :
    Calls Try.prog 51 #[.slice a n c, .int .i64 x] w fun e w' => e = .returned (.int .i64 (idxI l x)) ∧ w = w' := by
  have hc := hl.le
  have hcap := hl.cap
  have hlen := Lib.hid hl.len
  go_enter Try.func51, Try.ntmps51
  go_wp2
  go_loop [5] (fun i => ∃ k : Nat, k ≤ n ∧ i = .int .i64 k ∧ Hid (x ∉ l.take k)) (fun i => n - (intOf i).toNat)
  case atStart => exact ⟨0, by omega, rfl, Lib.hid (by simp)⟩
  case round =>
    obtain ⟨k, hk, rfl, hnot⟩ := hrel
    by_cases hlt : k < n
    · obtain ⟨b, o, rfl, hbl, hcells⟩ := hl.cells (by omega)
      have hcell := hcells k hlt
      have hkl : k < l.length := by rw [hlen.out]; exact hlt
      clear hcells
      by_cases heq : l.getD k 0 = x
      · have hv := Lib.hid (idxI_at l x k hnot.out hkl heq)
        generalize l.getD k 0 = y at *
        subst heq
        go_wp2
        go_ret
        exact ⟨ret_i hv.out.symm, rfl⟩
      · have hn2 : Hid (x ∉ l.take (k + 1)) := Lib.hid (by
          rw [take_succ_getD l k hkl]; simp only [List.mem_append, List.mem_singleton, not_or]; exact ⟨hnot.out, fun h => heq h.symm⟩)
        generalize l.getD k 0 = y at *
        have hbool : (y == x) = false := by simpa using heq
        clear heq
        go_wp2
        go_round
        case rel => exact ⟨k + 1, by omega, by go_num, hn2⟩
        case measure => simp [intOf]; omega
    · have hv := Lib.hid (idxI_not l x (by have := hnot.out; rw [List.take_of_length_le (by rw [hlen.out]; omega)] at this; exact this))
      go_wp2
      go_ret
      exact ⟨ret_i hv.out.symm, rfl⟩

set_option maxHeartbeats 800000 in
theorem rorder_any (r c : Int) (w : World) (h0 : 1 ≤ r) (h1 : r ≤ 20) (h2 : 1 ≤ c) (h3 : c ≤ 1000000000) :
    Calls Try.prog 47 #[.int .i64 r, .int .i64 c] w fun e w' => ∃ a c', e = .returned (.slice a r.toNat c') ∧ OwnL w' 3 w.heap.size a r.toNat c' (ordL r.toNat c.toNat) ∧ Below w.heap.size w w' := by
  go_enter Try.func47, Try.ntmps47
  go_wp2_with (go_at_call 52; refine (rall_any _ _ (by omega) h1).mono ?_; rintro e w1 ⟨a0, c0, rfl, hown0, hb0⟩)
  go_loopw [6, 5] (fun vb vo wr => ∃ (k m : Nat) (a : Option Addr) (ca : Nat) (o : Option Addr) (co : Nat) (l out : List Int), k + m = r.toNat ∧ vb = .slice a m ca ∧ vo = .slice o k co ∧ IsL wr a m ca l ∧ OwnL wr 3 w.heap.size o k co out ∧
      Below w.heap.size w wr ∧ Sep a o ∧ Hid (out ++ ordG c.toNat m l = ordL r.toNat c.toNat)) (fun vb _ _ => lenOf vb)
  case atStart => exact ⟨0, r.toNat, a0, c0, none, 0, _, [], by omega, rfl, rfl, hown0.isL, OwnL.nilL _ _ _, hb0, Sep.none_right _, Lib.hid rfl⟩
  case round =>
    obtain ⟨k, m, a, ca, o, co, l, out, hk, rfl, rfl, hl, hout, hb, hsep, heq⟩ := hrel
    have hk2 : k + m ≤ 20 := by omega
    have hsz := hb.size
    by_cases hlt : 0 < m
    · obtain ⟨b, of, rfl, hbl, hcells⟩ := hl.cells (by omega)
      have hl2 := hl.le
      have hl3 := hl.cap
      have i0 := Int.emod_nonneg (c - 1) (show (m : Int) ≠ 0 by omega)
      have i1 := Int.emod_lt_of_pos (c - 1) (show (0 : Int) < (m : Int) by omega)
      have hcell := hcells ((c - 1) % (m : Int)).toNat (by omega)
      have hne : ((m : Int) == 0) = false := by simp; omega
      have HQ := Lib.hid (heq.out.symm.trans (ordG_step c m l out hl.len hlt h2)).symm
      have HK := Lib.hid hk
      clear hcells heq hk
      go_wp2_with (first
        | (at_builtin; refine wl_app_own Try.underlying22 elem3 w.heap.size (.tmp 18) (.tmp 23) rfl rfl rfl rfl (hout.alloc _) (isL_one _ _ _) (by simp; omega) (by omega) ?_))
      intro o2 co2 w2 hout2 hg2 hb2 hv2
      have hl4 := (hl.alloc (.cells #[.int .i64 (l.getD ((c - 1) % (m : Int)).toNat 0)] 3)).grown hg2 hsep
      have hs2 : Sep (some ⟨b, of, none⟩) o2 := (hsep.symm.via hv2 (by rintro x hx; obtain rfl := Option.some.inj hx; simp; omega)).symm
      have hb4 := (hb.alloc hsz (.cells #[.int .i64 (l.getD ((c - 1) % (m : Int)).toNat 0)] 3)).trans hb2
      have hoL := hout2.lt
      clear hg2 hv2 hsep hb2 hcell hout hl hbl
      go_wp2_with (go_at_call 53; refine (rafter_any _ _ _ _ _ _ hl4 i0 i1 (by omega)).mono ?_; rintro e w3 ⟨a3, c3, rfl, hl5, hb5, hv5⟩)
      go_roundw
      case rel => exact ⟨k + 1, m - 1, a3, c3, o2, co2, _, _, by have := HK.out; omega, rfl, rfl, hl5, hout2.below hb5, hb4.trans (hb5.mono hb4.size), hs2.via hv5 (fun x hx => (hoL x hx).2), HQ⟩
      case measure => simp [lenOf]; omega
    · obtain rfl : m = 0 := by omega
      have hq : out = ordL r.toNat c.toNat := by have := heq.out; simpa [ordG] using this
      have hk' : k = r.toNat := by omega
      have HQ := Lib.hid hq
      have HK := Lib.hid hk'
      clear hq hk' hk heq
      go_wp2
      go_ret
      obtain rfl : k = r.toNat := HK.out
      obtain rfl : out = ordL r.toNat c.toNat := HQ.out
      exact ⟨o, co, rfl, hout, hb⟩

end Go.Proofs.Ythocenkedncoeaa
