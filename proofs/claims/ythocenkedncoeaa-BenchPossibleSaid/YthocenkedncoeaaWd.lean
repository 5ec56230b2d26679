/- Walks of chapter 06: lists that are looked through. -/
import Derived.Test.YthocenkedncoeaaWc
import Derived.Test.YthocenkedncoeaaWa
namespace Go.Proofs.Ythocenkedncoeaa
open Go.RowKit Bench06

theorem Orders_ok (r : Int) (w : World) (h0 : 1 ≤ r) (h1 : r ≤ 20) :
    Calls Try.prog 25 #[.int .i64 r] w fun e w' => e = .returned (.tuple #[.int .i64 (lcmTo r.toNat), .int .i64 0]) ∧ Below w.heap.size w w' := by
  go_enter Try.func25, Try.ntmps25
  go_wp2_with (first | (go_at_call 55; refine (multiple_any _ _ (by omega) (by omega)).mono ?_; rintro e w1 ⟨rfl, hb1⟩) | go_in)
  go_ret2
  exact ⟨rfl, hb1⟩
theorem Orders_err (r : Int) (w : World) (h : ¬ (1 ≤ r ∧ r ≤ 20)) :
    Calls Try.prog 25 #[.int .i64 r] w fun e w' => e = .returned (.tuple #[.int .i64 0, .int .i64 1]) ∧ w = w' := by
  have : r < 1 ∨ (1 ≤ r ∧ 20 < r) := by omega
  rcases this with h | ⟨h1, h2⟩
  rotate_right
  have hd : decide (r ≤ 20) = false := by simpa using h2
  all_goals
    go_enter Try.func25, Try.ntmps25
    go_wp2
    go_ret2
    exact ⟨rfl, rfl⟩

set_option maxHeartbeats 400000 in
theorem index65_any (a : Option Addr) (n c : Nat) (l : List Int) (x : Int) (w : World) (hl : IsL w a n c l) :
    Calls Try.prog 65 #[.slice a n c, .int .i64 x] w fun e w' => e = .returned (.int .i64 (idxI l x)) ∧ w = w' := by
  have hc := hl.le
  have hcap := hl.cap
  have hlen := Lib.hid hl.len
  go_enter Try.func65, Try.ntmps65
  go_wp2
  go_loop [8] (fun i => ∃ k : Nat, k ≤ n ∧ i = .int .i64 k ∧ Hid (x ∉ l.take k)) (fun i => n - (intOf i).toNat)
  case atStart => exact ⟨0, by omega, rfl, Lib.hid (by simp)⟩
  case round =>
    obtain ⟨k, hk, rfl, hnot⟩ := hrel
    by_cases hlt : k < n
    · obtain ⟨b, o, rfl, hbl, hcells⟩ := hl.cells (by omega)
      have hcell := hcells k hlt
      have hkl : k < l.length := by rw [hlen.out]; exact hlt
      clear hcells
      by_cases heq : l.getD k 0 = x
      · have hv := Lib.hid (idxI_at l x k hnot.out hkl heq)
        generalize l.getD k 0 = y at *
        subst heq
        go_wp2
        go_ret
        exact ⟨ret_i hv.out.symm, rfl⟩
      · have hn2 : Hid (x ∉ l.take (k + 1)) := Lib.hid (by
          rw [take_succ_getD l k hkl]; simp only [List.mem_append, List.mem_singleton, not_or]; exact ⟨hnot.out, fun h => heq h.symm⟩)
        generalize l.getD k 0 = y at *
        have hbool : (x == y) = false := by simp; exact fun h => heq h.symm
        clear heq
        go_wp2
        go_round
        case rel => exact ⟨k + 1, by omega, by go_num, hn2⟩
        case measure => simp [intOf]; omega
    · have hv := Lib.hid (idxI_not l x (by have := hnot.out; rw [List.take_of_length_le (by rw [hlen.out]; omega)] at this; exact this))
      go_wp2
      go_ret
      exact ⟨ret_i hv.out.symm, rfl⟩
set_option maxHeartbeats 400000 in
theorem index68_any (a : Option Addr) (n c : Nat) (l : List Int) (x : Int) (w : World) (hl : IsL w a n c l) :
    Calls Try.prog 68 #[.slice a n c, .int .i64 x] w fun e w' => e = .returned (.int .i64 (idxI l x)) ∧ w = w' := by
  have hc := hl.le
  have hcap := hl.cap
  have hlen := Lib.hid hl.len
  go_enter Try.func68, Try.ntmps68
  go_wp2
  go_loop [8] (fun i => ∃ k : Nat, k ≤ n ∧ i = .int .i64 k ∧ Hid (x ∉ l.take k)) (fun i => n - (intOf i).toNat)
  case atStart => exact ⟨0, by omega, rfl, Lib.hid (by simp)⟩
  case round =>
    obtain ⟨k, hk, rfl, hnot⟩ := hrel
    by_cases hlt : k < n
    · obtain ⟨b, o, rfl, hbl, hcells⟩ := hl.cells (by omega)
      have hcell := hcells k hlt
      have hkl : k < l.length := by rw [hlen.out]; exact hlt
      clear hcells
      by_cases heq : l.getD k 0 = x
      · have hv := Lib.hid (idxI_at l x k hnot.out hkl heq)
        generalize l.getD k 0 = y at *
        subst heq
        go_wp2
        go_ret
        exact ⟨ret_i hv.out.symm, rfl⟩
      · have hn2 : Hid (x ∉ l.take (k + 1)) := Lib.hid (by
          rw [take_succ_getD l k hkl]; simp only [List.mem_append, List.mem_singleton, not_or]; exact ⟨hnot.out, fun h => heq h.symm⟩)
        generalize l.getD k 0 = y at *
        have hbool : (x == y) = false := by simp; exact fun h => heq h.symm
        clear heq
        go_wp2
        go_round
        case rel => exact ⟨k + 1, by omega, by go_num, hn2⟩
        case measure => simp [intOf]; omega
    · have hv := Lib.hid (idxI_not l x (by have := hnot.out; rw [List.take_of_length_le (by rw [hlen.out]; omega)] at this; exact this))
      go_wp2
      go_ret
      exact ⟨ret_i hv.out.symm, rfl⟩
theorem contains_any (a : Option Addr) (n c : Nat) (l : List Int) (x : Int) (w : World) (hl : IsL w a n c l) :
    Calls Try.prog 40 #[.slice a n c, .int .i64 x] w fun e w' => e = .returned (.bool (decide (0 ≤ idxI l x))) ∧ w = w' := by
  go_enter Try.func40, Try.ntmps40
  go_wp2_with (go_at_call 65; refine (index65_any _ _ _ _ _ _ hl).mono ?_; rintro e w1 ⟨rfl, rfl⟩)
  go_ret
  exact ⟨rfl, rfl⟩
theorem contains_yes (a : Option Addr) (n c : Nat) (l : List Int) (x : Int) (w : World) (hl : IsL w a n c l) (hx : x ∈ l) :
    Calls Try.prog 40 #[.slice a n c, .int .i64 x] w fun e w' => e = .returned (.bool true) ∧ w = w' :=
  (contains_any a n c l x w hl).mono fun e w' ⟨he, hw⟩ => ⟨he.trans (ret_b (by have := idxI_mem l x hx; simp [this.1])), hw⟩
theorem contains_no (a : Option Addr) (n c : Nat) (l : List Int) (x : Int) (w : World) (hl : IsL w a n c l) (hx : x ∉ l) :
    Calls Try.prog 40 #[.slice a n c, .int .i64 x] w fun e w' => e = .returned (.bool false) ∧ w = w' :=
  (contains_any a n c l x w hl).mono fun e w' ⟨he, hw⟩ => ⟨he.trans (ret_b (by rw [idxI_not l x hx]; decide)), hw⟩

set_option maxHeartbeats 800000 in
theorem ordered_any (r c : Int) (w : World) (h0 : 1 ≤ r) (h1 : r ≤ 20) (h2 : 1 ≤ c) (h3 : c ≤ 1000000000) :
    Calls Try.prog 45 #[.int .i64 r, .int .i64 c] w fun e w' => ∃ a c', e = .returned (.slice a r.toNat c') ∧ OwnL w' 3 w.heap.size a r.toNat c' (ordL r.toNat c.toNat) ∧ Below w.heap.size w w' := by
  go_enter Try.func45, Try.ntmps45
  go_wp2_with (go_at_call 63; refine (full_any _ _ (by omega) h1).mono ?_; rintro e w1 ⟨a0, c0, rfl, hown0, hb0⟩)
  go_loopw [5, 6] (fun vb vo wr => ∃ (k m : Nat) (a : Option Addr) (ca : Nat) (o : Option Addr) (co : Nat) (l out : List Int), k + m = r.toNat ∧ vb = .slice a m ca ∧ vo = .slice o k co ∧ IsL wr a m ca l ∧ OwnL wr 3 w.heap.size o k co out ∧
      Below w.heap.size w wr ∧ Sep a o ∧ Hid (out ++ ordG c.toNat m l = ordL r.toNat c.toNat)) (fun vb _ _ => lenOf vb)
  case atStart => exact ⟨0, r.toNat, a0, c0, none, 0, _, [], by omega, rfl, rfl, hown0.isL, OwnL.nilL _ _ _, hb0, Sep.none_right _, Lib.hid rfl⟩
  case round =>
    obtain ⟨k, m, a, ca, o, co, l, out, hk, rfl, rfl, hl, hout, hb, hsep, heq⟩ := hrel
    have hk2 : k + m ≤ 20 := by omega
    have hsz := hb.size
    by_cases hlt : 0 < m
    · obtain ⟨b, of, rfl, hbl, hcells⟩ := hl.cells (by omega)
      have hl2 := hl.le
      have hl3 := hl.cap
      have i0 := Int.emod_nonneg (c - 1) (show (m : Int) ≠ 0 by omega)
      have i1 := Int.emod_lt_of_pos (c - 1) (show (0 : Int) < (m : Int) by omega)
      have hcell := hcells ((c - 1) % (m : Int)).toNat (by omega)
      have hne : ((m : Int) == 0) = false := by simp; omega
      have HQ := Lib.hid (heq.out.symm.trans (ordG_step c m l out hl.len hlt h2)).symm
      have HK := Lib.hid hk
      clear hcells heq hk
      go_wp2_with (first
        | (at_builtin; refine wl_app_own Try.underlying22 elem3 w.heap.size (.tmp 18) (.tmp 23) rfl rfl rfl rfl (hout.alloc _) (isL_one _ _ _) (by simp; omega) (by omega) ?_))
      intro o2 co2 w2 hout2 hg2 hb2 hv2
      have hl4 := (hl.alloc (.cells #[.int .i64 (l.getD ((c - 1) % (m : Int)).toNat 0)] 3)).grown hg2 hsep
      have hs2 : Sep (some ⟨b, of, none⟩) o2 := (hsep.symm.via hv2 (by rintro x hx; obtain rfl := Option.some.inj hx; simp; omega)).symm
      have hb4 := (hb.alloc hsz (.cells #[.int .i64 (l.getD ((c - 1) % (m : Int)).toNat 0)] 3)).trans hb2
      have hoL := hout2.lt
      clear hg2 hv2 hsep hb2 hcell hout hl hbl
      go_wp2_with (go_at_call 64; refine (gone_any _ _ _ _ _ _ hl4 i0 i1 (by omega)).mono ?_; rintro e w3 ⟨a3, c3, rfl, hl5, hb5, hv5⟩)
      go_roundw
      case rel => exact ⟨k + 1, m - 1, a3, c3, o2, co2, _, _, by have := HK.out; omega, rfl, rfl, hl5, hout2.below hb5, hb4.trans (hb5.mono hb4.size), hs2.via hv5 (fun x hx => (hoL x hx).2), HQ⟩
      case measure => simp [lenOf]; omega
    · obtain rfl : m = 0 := by omega
      have hq : out = ordL r.toNat c.toNat := by have := heq.out; simpa [ordG] using this
      have hk' : k = r.toNat := by omega
      have HQ := Lib.hid hq
      have HK := Lib.hid hk'
      clear hq hk' hk heq
      go_wp2
      go_ret
      obtain rfl : k = r.toNat := HK.out
      obtain rfl : out = ordL r.toNat c.toNat := HQ.out
      exact ⟨o, co, rfl, hout, hb⟩

theorem Order_ok (r c : Int) (w : World) (h0 : 1 ≤ r) (h1 : r ≤ 20) (h2 : 1 ≤ c) (h3 : c ≤ 1000000000) :
    Calls Try.prog 13 #[.int .i64 r, .int .i64 c] w fun e w' => ∃ a c', e = .returned (.tuple #[.slice a r.toNat c', .int .i64 0]) ∧ OwnL w' 3 w.heap.size a r.toNat c' (ordL r.toNat c.toNat) ∧ Below w.heap.size w w' := by
  go_enter Try.func13, Try.ntmps13
  go_wp2_with (first | (go_at_call 44; refine (bounded_ok _ _ _ h0 h1 h2 h3).mono ?_; rintro e w' ⟨rfl, rfl⟩) | (go_at_call 45; refine (ordered_any _ _ _ h0 h1 h2 h3).mono ?_; rintro e w1 ⟨a, ca, rfl, hown, hb⟩))
  go_ret2
  exact ⟨a, ca, rfl, hown, hb⟩
theorem Order_err (r c : Int) (w : World) (h : ¬ (1 ≤ r ∧ r ≤ 20 ∧ 1 ≤ c ∧ c ≤ 1000000000)) :
    Calls Try.prog 13 #[.int .i64 r, .int .i64 c] w fun e w' => e = .returned (.tuple #[.slice none 0 0, .int .i64 1]) ∧ w = w' := by
  have H := Lib.hid h
  clear h
  go_enter Try.func13, Try.ntmps13
  go_wp2_with (go_at_call 44; refine (bounded_err _ _ _ H.out).mono ?_; rintro e w' ⟨rfl, rfl⟩)
  go_ret2
  exact ⟨rfl, rfl⟩

set_option maxHeartbeats 400000 in
theorem Check_any (a : Option Addr) (n c : Nat) (l : List Int) (w : World) (hl : IsL w a n c l) :
    Calls Try.prog 31 #[.slice a n c] w fun e w' => e = .returned (.int .i64 (checkL l)) ∧ w = w' := by
  have hc := hl.le
  have hcap := hl.cap
  have hlen := Lib.hid hl.len
  by_cases hn : n < 1 ∨ 20 < n
  · have hv : checkL l = 1 := by unfold checkL; rw [if_neg (by rw [hlen.out]; omega)]
    have HV := Lib.hid hv
    clear hv
    rcases hn with h | h
    · go_enter Try.func31, Try.ntmps31
      go_wp2
      go_ret
      exact ⟨ret_i HV.out.symm, rfl⟩
    · have h' : (1 : Int) ≤ (n : Int) := by omega
      have h'' : ((20 : Nat) : Int) < (n : Int) := by omega
      have hd : decide ((n : Int) ≤ 20) = false := by simp; omega
      go_enter Try.func31, Try.ntmps31
      go_wp2
      go_ret
      exact ⟨ret_i HV.out.symm, rfl⟩
  · have hn1 : 1 ≤ n := by omega
    have hn2 : n ≤ 20 := by omega
    clear hn
    have hv : checkG n [] l = checkL l := by unfold checkL; rw [if_pos (by rw [hlen.out]; omega), hlen.out]
    have HV := Lib.hid hv
    clear hv
    have hd : decide ((n : Int) ≤ 20) = true := by simp; omega
    go_enter Try.func31, Try.ntmps31
    go_wp2_with (go_at_call 54; refine (within_yes _ _ _ _ (by omega) (by omega)).mono ?_; rintro e w1 ⟨rfl, rfl⟩)
    go_loop [11] (fun i => ∃ k : Nat, k ≤ n ∧ i = .int .i64 k ∧ Hid (checkG n (l.take k) (l.drop k) = checkL l)) (fun i => n - (intOf i).toNat)
    case atStart => exact ⟨0, by omega, rfl, Lib.hid (by simpa using HV.out)⟩
    case round =>
      obtain ⟨k, hk, rfl, hq⟩ := hrel
      by_cases hlt : k < n
      · obtain ⟨b, o, rfl, hbl, hcells⟩ := hl.cells (by omega)
        have hcell := hcells k hlt
        have hkl : k < l.length := by rw [hlen.out]; exact hlt
        have hpre := hl.pre k c (by omega) (by omega) (by omega)
        have hstep := hq.out
        rw [drop_getD l k hkl, checkG, ← take_succ_getD l k hkl] at hstep
        have HS := Lib.hid hstep
        clear hcells hstep hq
        generalize l.getD k 0 = x at *
        have k1 : (0 : Int) ≤ (k : Int) := by omega
        have k2 : (k : Int) ≤ (c : Int) := by omega
        by_cases h0 : x < 0
        · have HV2 : Hid (checkL l = 2) := Lib.hid (by rw [← HS.out, if_pos (by omega)])
          go_wp2_with (go_at_call 54; refine (within_no _ _ _ _ (by omega)).mono ?_; rintro e w1 ⟨rfl, rfl⟩)
          go_ret
          exact ⟨ret_i HV2.out.symm, rfl⟩
        · by_cases h1 : (n : Int) - 1 < x
          · have HV2 : Hid (checkL l = 2) := Lib.hid (by rw [← HS.out, if_pos (by omega)])
            go_wp2_with (go_at_call 54; refine (within_no _ _ _ _ (by omega)).mono ?_; rintro e w1 ⟨rfl, rfl⟩)
            go_ret
            exact ⟨ret_i HV2.out.symm, rfl⟩
          · have h0' : 0 ≤ x := by omega
            have h1' : x ≤ (n : Int) - 1 := by omega
            by_cases h2 : x ∈ l.take k
            · have HV2 : Hid (checkL l = 6) := Lib.hid (by rw [← HS.out, if_neg (by omega), if_pos h2])
              have H2 := Lib.hid h2
              clear h2
              go_wp2_with (first | (go_at_call 40; refine (contains_yes _ _ _ _ _ _ hpre H2.out).mono ?_; rintro e w1 ⟨rfl, rfl⟩) | (go_at_call 54; refine (within_yes _ _ _ _ h0' h1').mono ?_; rintro e w1 ⟨rfl, rfl⟩))
              go_ret
              exact ⟨ret_i HV2.out.symm, rfl⟩
            · have HV2 : Hid (checkG n (l.take (k + 1)) (l.drop (k + 1)) = checkL l) := Lib.hid (by rw [← HS.out, if_neg (by omega), if_neg h2])
              have H2 := Lib.hid h2
              clear h2
              go_wp2_with (first | (go_at_call 40; refine (contains_no _ _ _ _ _ _ hpre H2.out).mono ?_; rintro e w1 ⟨rfl, rfl⟩) | (go_at_call 54; refine (within_yes _ _ _ _ h0' h1').mono ?_; rintro e w1 ⟨rfl, rfl⟩))
              go_round
              case rel => exact ⟨k + 1, by omega, by go_num, HV2⟩
              case measure => simp [intOf]; omega
      · have HV2 : Hid (checkL l = 0) := Lib.hid (by rw [← hq.out, List.drop_of_length_le (by rw [hlen.out]; omega)]; rfl)
        go_wp2
        go_ret
        exact ⟨ret_i HV2.out.symm, rfl⟩
end Go.Proofs.Ythocenkedncoeaa
