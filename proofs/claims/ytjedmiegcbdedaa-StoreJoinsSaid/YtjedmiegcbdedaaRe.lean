/- Walks of the references of chapter 11: both, Finer, Meet. -/
import Derived.Test.YtjedmiegcbdedaaRa
import Derived.Test.YtjedmiegcbdedaaPj
import Derived.IntWalk
import Derived.Test.YtjedmiegcbdedaaLib7
namespace Go.Proofs.Ytjedmiegcbdedaa
open Go.RowKit Store11

set_option maxHeartbeats 1000000 in
theorem rboth_any (a b : Option Addr) (n c m d : Nat) (l l' : List Int) (w : World) (h : IsL w a n c l) (h' : IsL w b m d l') :
    Calls Try.prog 73 #[.slice a n c, .slice b m d] w fun e w' => e = .returned (.int .i64 (bothE l l')) ∧ Below w.heap.size w w' := by
  have hl := h.len
  have hl' := h'.len
  by_cases ha : chkL l = 0
  · have HA := Lib.hid ha
    by_cases hb : chkL l' = 0
    · have HB := Lib.hid hb
      by_cases hnm : n = m
      · subst hnm
        have HV : Hid ((0 : Int) = bothE l l') := Lib.hid (by unfold bothE; rw [ha, hb, hl, hl']; simp)
        have he : ((n : Int) != (n : Int)) = false := by simp
        clear ha hb hl hl'
        go_enter Try.func73, Try.ntmps73
        go_wp2_with fail
        refine (rCheck_any a n c l _ h).mono ?_
        rintro e w1 ⟨rfl, b1⟩
        rw [HA.out]
        go_wp2_with fail
        refine (rCheck_any b n d l' _ (h'.below b1)).mono ?_
        rintro e w2 ⟨rfl, b2⟩
        rw [HB.out]
        go_wp2_with fail
        go_ret
        exact ⟨ret_i HV.out, b1.trans (b2.mono b1.size)⟩
      · have HV : Hid ((5 : Int) = bothE l l') := Lib.hid (by unfold bothE; rw [ha, hb, hl, hl']; simp [hnm])
        have he : ((n : Int) != (m : Int)) = true := by simp; omega
        clear ha hb hl hl'
        go_enter Try.func73, Try.ntmps73
        go_wp2_with fail
        refine (rCheck_any a n c l _ h).mono ?_
        rintro e w1 ⟨rfl, b1⟩
        rw [HA.out]
        go_wp2_with fail
        refine (rCheck_any b m d l' _ (h'.below b1)).mono ?_
        rintro e w2 ⟨rfl, b2⟩
        rw [HB.out]
        go_wp2_with fail
        go_ret
        exact ⟨ret_i HV.out, b1.trans (b2.mono b1.size)⟩
    · have HV : Hid (chkL l' = bothE l l') := Lib.hid (by unfold bothE; rw [ha]; simp [hb])
      have hq : (chkL l' == 0) = false := by simpa using hb
      clear ha hb hl hl'
      go_enter Try.func73, Try.ntmps73
      go_wp2_with fail
      refine (rCheck_any a n c l _ h).mono ?_
      rintro e w1 ⟨rfl, b1⟩
      rw [HA.out]
      go_wp2_with fail
      refine (rCheck_any b m d l' _ (h'.below b1)).mono ?_
      rintro e w2 ⟨rfl, b2⟩
      go_wp2_with fail
      go_ret
      exact ⟨ret_i HV.out, b1.trans (b2.mono b1.size)⟩
  · have HV : Hid (chkL l = bothE l l') := Lib.hid (by unfold bothE; simp [ha])
    have hq : (chkL l == 0) = false := by simpa using ha
    clear ha hl hl'
    go_enter Try.func73, Try.ntmps73
    go_wp2_with fail
    refine (rCheck_any a n c l _ h).mono ?_
    rintro e w1 ⟨rfl, b1⟩
    go_wp2_with fail
    go_ret
    exact ⟨ret_i HV.out, b1⟩

set_option maxHeartbeats 2000000 in
set_option maxRecDepth 100000 in
theorem rFiner_any (a b : Option Addr) (n c m d : Nat) (l l' : List Int) (w : World) (h : IsL w a n c l) (h' : IsL w b m d l') :
    Calls Try.prog 30 #[.slice a n c, .slice b m d] w fun e w' => e = .returned (.tuple #[.bool (finerB l l'), .int .i64 (bothE l l')]) ∧ Below w.heap.size w w' := by
  by_cases hz : bothE l l' = 0
  · have ⟨h1, h2, h3⟩ := both_parts hz
    obtain rfl : m = n := by rw [← h.len, ← h'.len, h3]
    have HZ := Lib.hid hz
    have HL := Lib.hid h.len
    have hcap := h.cap
    have hle := h.le
    have hcap' := h'.cap
    have hle' := h'.le
    clear hz h1 h2 h3
    go_enter Try.func30, Try.ntmps30
    go_wp2_with (go_at_call 73; refine (rboth_any a b m c m d l l' _ h h').mono ?_; rintro e w1 ⟨rfl, b1⟩; rw [HZ.out])
    go_loopw [7] (fun vi wr => ∃ i : Nat, i ≤ m ∧ vi = .int .i64 (i : Int) ∧ Hid (∀ i' k', i' < i → k' < i' → l.getD i' 0 = l.getD k' 0 → l'.getD i' 0 = l'.getD k' 0) ∧ Below w.heap.size w wr) (fun vi _ => m - (intOf vi).toNat)
    case atStart => exact ⟨0, by omega, rfl, Lib.hid (fun i' k' h => by omega), b1⟩
    case round =>
      clear b1
      obtain ⟨i, hi, rfl, hD, hb⟩ := hrel
      by_cases hlt : i < m
      · have hd9 : decide ((i : Int) < (m : Int)) = true := by simp; omega
        have hd8 : decide (i < m) = true := by simp; omega
        go_wp2_with fail
        go_loopw [8] (fun vk wr => ∃ k : Nat, k ≤ i ∧ vk = .int .i64 (k : Int) ∧ Hid (∀ k', k' < k → l.getD i 0 = l.getD k' 0 → l'.getD i 0 = l'.getD k' 0) ∧ Below w.heap.size w wr) (fun vk _ => i - (intOf vk).toNat)
        case atStart => exact ⟨0, by omega, rfl, Lib.hid (fun k' h => by omega), hb⟩
        case round =>
          clear hb
          obtain ⟨k, hk, rfl, hE, hb⟩ := hrel
          by_cases hki : k < i
          · have g1 := h.below hb
            have g2 := h'.below hb
            obtain ⟨b1, o1, rfl, _, hc1⟩ := g1.cells (by omega)
            obtain ⟨b2, o2, rfl, _, hc2⟩ := g2.cells (by omega)
            have x1 := hc1 i hlt
            have x2 := hc1 k (by omega)
            have x3 := hc2 i hlt
            have x4 := hc2 k (by omega)
            have q1 : (i : Int) < (m : Int) := by omega
            have q2 : (k : Int) < (m : Int) := by omega
            obtain ⟨u, hu⟩ : ∃ u, l.getD i 0 = u := ⟨_, rfl⟩
            obtain ⟨u', hu'⟩ : ∃ u, l.getD k 0 = u := ⟨_, rfl⟩
            obtain ⟨v, hv⟩ : ∃ u, l'.getD i 0 = u := ⟨_, rfl⟩
            obtain ⟨v', hv'⟩ : ∃ u, l'.getD k 0 = u := ⟨_, rfl⟩
            rw [hu] at x1
            rw [hu'] at x2
            rw [hv] at x3
            rw [hv'] at x4
            have HU := Lib.hid hu
            have HU' := Lib.hid hu'
            have HV := Lib.hid hv
            have HV' := Lib.hid hv'
            clear hc1 hc2 g1 g2 hu hu' hv hv'
            by_cases huu : u = u'
            · subst huu
              have e1 : (u == u) = true := by simp
              by_cases hvv : v = v'
              · subst hvv
                have e2 : (v != v) = false := by simp
                have hE2 : Hid (∀ k', k' < k + 1 → l.getD i 0 = l.getD k' 0 → l'.getD i 0 = l'.getD k' 0) := Lib.hid (fun k' hk' he => by
                  by_cases hkk : k' = k
                  · rw [hkk, HV.out, HV'.out]
                  · exact hE.out k' (by omega) he)
                go_wp2_with fail
                go_quiet (fail)
                have hb3 := belowN hb nq
                go_wp2
                go_roundw
                case rel => first | exact ⟨k + 1, by omega, by go_num, hE2, hb3⟩ | ((repeat apply Exists.intro); exact ⟨⟨k + 1, by omega, by go_num, hE2, hb3⟩, rfl⟩)
                case measure => simp [intOf]; omega
              · have e2 : (v != v') = true := by simpa using hvv
                have HF : Hid (false = finerB l l') := Lib.hid (finer_false HZ.out i k (by rw [HL.out]; exact hlt) (by rw [HL.out]; omega) (by rw [HU.out, HU'.out]) (by rw [HV.out, HV'.out]; exact hvv)).symm
                clear hvv
                go_wp2_with fail
                go_quiet (fail)
                have hb3 := belowN hb nq
                go_wp2
                go_ret2
                exact ⟨ret_bi HF.out HZ.out.symm, hb3⟩
            · have e1 : (u == u') = false := by simpa using huu
              have hE2 : Hid (∀ k', k' < k + 1 → l.getD i 0 = l.getD k' 0 → l'.getD i 0 = l'.getD k' 0) := Lib.hid (fun k' hk' he => by
                by_cases hkk : k' = k
                · rw [hkk, HU.out, HU'.out] at he; exact absurd he huu
                · exact hE.out k' (by omega) he)
              clear huu
              go_wp2_with fail
              go_quiet (fail)
              have hb3 := belowN hb nq
              go_wp2
              go_roundw
              case rel => first | exact ⟨k + 1, by omega, by go_num, hE2, hb3⟩ | ((repeat apply Exists.intro); exact ⟨⟨k + 1, by omega, by go_num, hE2, hb3⟩, rfl⟩)
              case measure => simp [intOf]; omega
          · obtain rfl : k = i := by omega
            have hD2 : Hid (∀ i' k', i' < k + 1 → k' < i' → l.getD i' 0 = l.getD k' 0 → l'.getD i' 0 = l'.getD k' 0) := Lib.hid (fun i' k' h1 h2 h3 => by
              by_cases hii : i' = k
              · subst hii; exact hE.out k' h2 h3
              · exact hD.out i' k' (by omega) h2 h3)
            go_wp2_with fail
            go_roundw
            case rel => first | exact ⟨k + 1, by omega, by go_num, hD2, hb⟩ | ((repeat apply Exists.intro); exact ⟨⟨k + 1, by omega, by go_num, hD2, hb⟩, rfl⟩)
            case measure => simp [intOf]; omega
      · obtain rfl : i = m := by omega
        have HF : Hid (true = finerB l l') := Lib.hid (finer_true HZ.out (fun i' k' h1 h2 h3 => by
          rw [HL.out] at h1 h2
          rcases Nat.lt_trichotomy i' k' with h4 | h4 | h4
          · exact (hD.out k' i' h2 h4 h3.symm).symm
          · rw [h4]
          · exact hD.out i' k' h1 h4 h3)).symm
        go_wp2
        go_ret2
        exact ⟨ret_bi HF.out HZ.out.symm, hb⟩
  · have hq : (bothE l l' != 0) = true := by simpa using hz
    have HV : Hid (false = finerB l l') := Lib.hid (by rw [finerB, if_neg hz])
    clear hz
    go_enter Try.func30, Try.ntmps30
    go_wp2_with (go_at_call 73; refine (rboth_any a b n c m d l l' _ h h').mono ?_; rintro e w1 ⟨rfl, b1⟩)
    go_ret2
    exact ⟨ret_bi HV.out rfl, b1⟩

set_option maxHeartbeats 2000000 in
set_option maxRecDepth 100000 in
theorem rMeet_any (a b : Option Addr) (n c m d : Nat) (l l' : List Int) (w : World) (h : IsL w a n c l) (h' : IsL w b m d l') :
    Calls Try.prog 34 #[.slice a n c, .slice b m d] w fun e w' => ∃ a' n' c', e = .returned (.tuple #[.slice a' n' c', .int .i64 (bothE l l')]) ∧ IsL w' a' n' c' (meetL l l') ∧ Below w.heap.size w w' := by
  by_cases hz : bothE l l' = 0
  · have ⟨h1, h2, h3⟩ := both_parts hz
    obtain rfl : m = n := by rw [← h.len, ← h'.len, h3]
    have hl9 := (chkL_zero h1).2
    rw [h.len] at hl9
    have HB1 : Hid (∀ j, j < m → 0 ≤ l.getD j 0 ∧ l.getD j 0 ≤ j) := Lib.hid fun j hj => chkL_bound h1 j (by rw [h.len]; exact hj)
    have HB2 : Hid (∀ j, j < m → 0 ≤ l'.getD j 0 ∧ l'.getD j 0 ≤ j) := Lib.hid fun j hj => chkL_bound h2 j (by rw [h'.len]; exact hj)
    have HZ := Lib.hid hz
    have HL := Lib.hid h.len
    have HLL := Lib.hid h3
    have HM : Hid (divL (lab2 l l') = meetL l l') := Lib.hid (by rw [meet_lab hz, meetL, if_pos hz])
    have hcap := h.cap
    have hle := h.le
    have hcap' := h'.cap
    have hle' := h'.le
    clear hz h1 h2 h3
    go_enter Try.func34, Try.ntmps34
    go_wp2_with (go_at_call 73; refine (rboth_any a b m c m d l l' _ h h').mono ?_; rintro e w1 ⟨rfl, b1⟩; rw [HZ.out])
    go_loopw [7, 8] (fun vo vi wr => ∃ (i : Nat) (a' : Option Addr) (c' : Nat), i ≤ m ∧ vi = .int .i64 (i : Int) ∧ vo = .slice a' i c' ∧ Hid (OwnL wr 3 w.heap.size a' i c' ((lab2 l l').take i)) ∧ Below w.heap.size w wr) (fun _ vi _ => m - (intOf vi).toNat)
    case atStart => exact ⟨0, none, 0, by omega, rfl, rfl, Lib.hid (by simpa using OwnL.nilL _ _ _), b1⟩
    case round =>
      clear b1
      obtain ⟨i, a', c', hi, rfl, rfl, hO, hb⟩ := hrel
      by_cases hlt : i < m
      · have g1 := h.below hb
        have g2 := h'.below hb
        obtain ⟨b1, o1, rfl, hbl1, _⟩ := h.cells (by omega)
        obtain ⟨b2, o2, rfl, hbl2, _⟩ := h'.cells (by omega)
        obtain ⟨b1', o1', he1, _, hc1⟩ := g1.cells (by omega)
        obtain ⟨b2', o2', he2, _, hc2⟩ := g2.cells (by omega)
        simp only [Option.some.injEq, Addr.mk.injEq] at he1 he2
        obtain ⟨rfl, rfl, _⟩ := he1
        obtain ⟨rfl, rfl, _⟩ := he2
        have x1 := hc1 i hlt
        have x3 := hc2 i hlt
        have q1 : (i : Int) < (m : Int) := by omega
        have hx := HB1.out i hlt
        have hy := HB2.out i hlt
        have hget := lab2_get l l' HLL.out i (by rw [HL.out]; exact hlt)
        have htk : (lab2 l l').take (i + 1) = (lab2 l l').take i ++ [(lab2 l l').getD i 0] := take_succ_getD _ _ (by rw [lab2_len _ _ HLL.out, HL.out]; exact hlt)
        rw [hget] at htk
        have HTK := Lib.hid htk
        generalize l.getD i 0 = u at *
        generalize l'.getD i 0 = v at *
        have w1 : IntKind.i64.wrap (u * 9) = u * 9 := IntWalk.i64_in _ (by omega)
        have w2 : IntKind.i64.wrap (u * 9 + v) = u * 9 + v := IntWalk.i64_in _ (by omega)
        have ho := hO.out.drew
        have hsz := hb.size
        have hbd := hb.drew
        have hszd : w.heap.size ≤ wr.drew.heap.size := hbd.size
        have hal : Below w.heap.size wr (wr.drew.alloc (.cells #[.int .i64 (u * 9 + v)] 3)) := ((Below.refl _ wr).drew).alloc hszd _
        have y1 := (hal.cell (p := ⟨b1, o1 + i, none⟩) hbl1).trans x1
        have y2 := (hal.cell (p := ⟨b2, o2 + i, none⟩) hbl2).trans x3
        clear hc1 hc2 g1 g2 hget htk hO
        go_wp2_with fail
        go_region_held3 (fun w' => w'.cell? ⟨b1, o1 + i, none⟩ = some (.int .i64 u) ∧ w'.cell? ⟨b2, o2 + i, none⟩ = some (.int .i64 v)) (first | go_keep | (exact ⟨(hb3.cell (p := ⟨b1, o1 + i, none⟩) hbl1).trans y1, (hb3.cell (p := ⟨b2, o2 + i, none⟩) hbl2).trans y2⟩))
          ((refine step_app_own Try.underlying22 elem3 w.heap.size (.tmp 21) (.tmp 32) (by rfl) (by rfl) (by rfl) (by rfl) (ho.alloc (.cells #[.int .i64 (u * 9 + v)] 3)) (isL_oneAt wr.drew (u * 9 + v) 3 wr.heap.size rfl) (Nat.le_trans hszd (by simp)) (by omega) ?_; intro a3 c3 w3 o3 hg3 hb3 hv3))
        clear y1 y2 hal w1 w2
        have hO3 : Hid (OwnL w3 3 w.heap.size a3 (i + 1) c3 ((lab2 l l').take (i + 1))) := Lib.hid (by rw [HTK.out]; exact o3)
        have k3 := (hbd.alloc hszd (.cells #[.int .i64 (u * 9 + v)] 3)).trans hb3
        clear hg3 hb3 hv3 o3 ho
        go_wp2
        go_roundw
        case rel => first | exact ⟨i + 1, a3, c3, by omega, by go_num, rfl, hO3, k3⟩ | ((repeat apply Exists.intro); exact ⟨⟨i + 1, a3, c3, by omega, by go_num, rfl, hO3, k3⟩, rfl⟩)
        case measure => simp [intOf]; omega
      · obtain rfl : i = m := by omega
        have hf := hO.out.isL
        rw [List.take_of_length_le (by rw [lab2_len _ _ HLL.out, HL.out]; exact Nat.le_refl _)] at hf
        clear hO
        go_wp2_with (go_at_call 63; refine (rof_any a' i c' _ _ hf (by omega)).mono ?_; rintro e w4 ⟨a4, c4, rfl, h4, b4⟩)
        go_ret2
        exact ⟨a4, i, c4, ret_si HZ.out.symm, HM.out ▸ h4, hb.trans (b4.mono hb.size)⟩
  · have hq : (bothE l l' != 0) = true := by simpa using hz
    have HV : Hid ([] = meetL l l') := Lib.hid (by rw [meetL, if_neg hz])
    clear hz
    go_enter Try.func34, Try.ntmps34
    go_wp2_with (go_at_call 73; refine (rboth_any a b n c m d l l' _ h h').mono ?_; rintro e w1 ⟨rfl, b1⟩)
    go_ret2
    exact ⟨none, 0, 0, rfl, HV.out ▸ IsL.nilL _, b1⟩
end Go.Proofs.Ytjedmiegcbdedaa
