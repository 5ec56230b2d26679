/- Walks of the references of chapter 11: many, Check, of, Of. -/
import Derived.Test.YtjedmiegcbdedaaWh
import Derived.Test.YtjedmiegcbdedaaPg
namespace Go.Proofs.Ytjedmiegcbdedaa
open Go.RowKit Store11

set_option maxHeartbeats 1000000 in
theorem many_any (a : Option Addr) (n c : Nat) (l : List Int) (w : World) (h : IsL w a n c l) (hs : ∀ k, k < n → -1000000 ≤ l.getD k 0 ∧ l.getD k 0 ≤ 1000000) :
    Calls Try.prog 66 #[.slice a n c] w fun e w' => e = .returned (.int .i64 (manyL l)) ∧ w = w' := by
  have HL := Lib.hid h.len
  have hcap := h.cap
  have hle := h.le
  have HS := Lib.hid hs
  clear hs
  go_enter Try.func66, Try.ntmps66
  go_wp2
  go_loop [3, 4] (fun vm vi => ∃ k : Nat, k ≤ n ∧ vi = .int .i64 (k : Int) ∧ vm = .int .i64 (manyL (l.take k)) ∧ 0 ≤ manyL (l.take k) ∧ manyL (l.take k) ≤ 1000001) (fun _ vi => n - (intOf vi).toNat)
  case atStart => exact ⟨0, by omega, rfl, by simp [manyL], by simp [manyL], by simp [manyL]⟩
  case round =>
    obtain ⟨k, hk, rfl, rfl, m0, m1⟩ := hrel
    by_cases hlt : k < n
    · obtain ⟨b, o, rfl, _, hc⟩ := h.cells (by omega)
      have x1 := hc k hlt
      have hb := HS.out k hlt
      have HT : Hid (manyL (l.take (k + 1)) = max (manyL (l.take k)) (l.getD k 0 + 1)) := Lib.hid (manyL_take l k (by rw [HL.out]; exact hlt))
      have q1 : (k : Int) < (n : Int) := by omega
      clear hc
      generalize l.getD k 0 = x at *
      generalize manyL (l.take k) = m at *
      rcases (by omega : m < x + 1 ∨ m = x + 1 ∨ x + 1 < m) with h1 | h1 | h1
      · go_wp2
        go_round
        case rel => exact ⟨k + 1, by omega, by go_num, by rw [HT.out, show max m (x + 1) = x + 1 by omega], by rw [HT.out]; omega, by rw [HT.out]; omega⟩
        case measure => simp [intOf]; omega
      · subst h1
        go_wp2
        go_round
        case rel => exact ⟨k + 1, by omega, by go_num, by rw [HT.out, show max (x + 1) (x + 1) = x + 1 by omega], by rw [HT.out]; omega, by rw [HT.out]; omega⟩
        case measure => simp [intOf]; omega
      · go_wp2
        go_round
        case rel => exact ⟨k + 1, by omega, by go_num, by rw [HT.out, show max m (x + 1) = m by omega], by rw [HT.out]; omega, by rw [HT.out]; omega⟩
        case measure => simp [intOf]; omega
    · have HF : Hid (manyL (l.take k) = manyL l) := Lib.hid (by rw [List.take_of_length_le (by rw [HL.out]; omega)])
      rw [HF.out] at m0 m1 ⊢
      obtain ⟨m, hm⟩ : ∃ m, manyL l = m := ⟨_, rfl⟩
      rw [hm] at m0 m1 ⊢
      have HM := Lib.hid hm
      clear hm
      go_wp2
      go_ret
      exact ⟨ret_i HM.out.symm, rfl⟩

theorem rsized_any (a : Option Addr) (n c : Nat) (w : World) : Calls Try.prog 62 #[.slice a n c] w fun e w' => e = .returned (.int .i64 (sizeE n)) ∧ w = w' := by
  rcases Nat.eq_zero_or_pos n with rfl | h
  · go_enter Try.func62, Try.ntmps62
    go_wp2
    go_ret
    exact ⟨rfl, rfl⟩
  · have hz : ((n : Int) == 0) = false := by simp; omega
    by_cases h9 : 9 < n
    · have HV : Hid ((3 : Int) = sizeE n) := Lib.hid (by rw [sizeE, if_neg (by omega), if_pos h9])
      go_enter Try.func62, Try.ntmps62
      go_wp2
      go_ret
      exact ⟨ret_i HV.out, rfl⟩
    · have HV : Hid ((0 : Int) = sizeE n) := Lib.hid (by rw [sizeE, if_neg (by omega), if_neg h9])
      go_enter Try.func62, Try.ntmps62
      go_wp2
      go_ret
      exact ⟨ret_i HV.out, rfl⟩

theorem take_getD (l : List Int) (k j : Nat) (h : j < k) : (l.take k).getD j 0 = l.getD j 0 := by
  simp [List.getD, h]

set_option maxHeartbeats 1000000 in
set_option maxRecDepth 100000 in
theorem rCheck_any (a : Option Addr) (n c : Nat) (l : List Int) (w : World) (h : IsL w a n c l) :
    Calls Try.prog 22 #[.slice a n c] w fun e w' => e = .returned (.int .i64 (chkL l)) ∧ Below w.heap.size w w' := by
  have hlen := h.len
  by_cases hs : sizeE n = 0
  · have hn9 := size_pos hs
    have hcap := h.cap
    have hle := h.le
    have hv : chkL l = chkG 0 l := by rw [chkL, hlen, hs, if_neg (by omega)]
    rw [hv]
    have HS := Lib.hid hs
    have HL := Lib.hid hlen
    clear hv hs hlen
    go_enter Try.func22, Try.ntmps22
    go_wp2_with (go_at_call 62; refine (rsized_any _ n c _).mono ?_; rintro e w' ⟨rfl, rfl⟩; rw [HS.out])
    go_loopw [4] (fun vi wr => ∃ (k x : Nat), k ≤ n ∧ x ≤ k ∧ vi = .int .i64 k ∧ Hid (manyL (l.take k) = (x : Int)) ∧ Hid (chkG x (l.drop k) = chkG 0 l) ∧ Hid (∀ j, j < k → 0 ≤ l.getD j 0 ∧ l.getD j 0 ≤ 100) ∧ Below w.heap.size w wr) (fun vi _ => n - (intOf vi).toNat)
    case atStart => exact ⟨0, 0, by omega, by omega, rfl, Lib.hid (by simp [manyL]), Lib.hid rfl, Lib.hid (fun j hj => by omega), Below.refl _ _⟩
    case round =>
      obtain ⟨k, x, hk, hxk, rfl, hm, hg, hB, hb⟩ := hrel
      by_cases hlt : k < n
      · have h' := h.below hb
        have hpre := h'.pre k c (by omega) (by omega) (Nat.le_refl _)
        obtain ⟨b, o, rfl, _, hc⟩ := h'.cells (by omega)
        have hck := hc k hlt
        have hdr := hg.out
        have hmt := manyL_take l k (by rw [HL.out]; exact hlt)
        have hBB := hB.out
        rw [drop_getD l k (by rw [HL.out]; exact hlt), chkG] at hdr
        have HPR := Lib.hid hpre
        have HSM : Hid (∀ j, j < k → -1000000 ≤ (l.take k).getD j 0 ∧ (l.take k).getD j 0 ≤ 1000000) := Lib.hid (fun j hj => by rw [take_getD l k j hj]; have := hBB j hj; omega)
        have q1 : (k : Int) < (n : Int) := by omega
        have q2 : (k : Int) ≤ (c : Int) := by omega
        have HBX : ∀ y, l.getD k 0 = y → 0 ≤ y ∧ y ≤ 100 → Hid (∀ j, j < k + 1 → 0 ≤ l.getD j 0 ∧ l.getD j 0 ≤ 100) := fun y hy hb => Lib.hid fun j hj => by
          by_cases hjk : j = k
          · rw [hjk, hy]; exact hb
          · exact hBB j (by omega)
        have HBXX := Lib.hid HBX
        obtain ⟨y, hy⟩ : ∃ y, l.getD k 0 = y := ⟨_, rfl⟩
        have HY := Lib.hid hy
        rw [hy] at hck hdr hmt
        clear hc hg hpre hBB HBX hy hB
        rcases (by omega : y < 0 ∨ (0 ≤ y ∧ (x : Int) < y) ∨ (0 ≤ y ∧ y < (x : Int)) ∨ y = (x : Int)) with h0 | ⟨h0, h1⟩ | ⟨h0, h1⟩ | h0
        · rw [if_pos h0] at hdr
          have HD := Lib.hid hdr
          clear hdr hmt
          go_wp2
          go_ret
          exact ⟨ret_i HD.out, hb⟩
        · rw [if_neg (by omega), if_pos h1] at hdr
          have HD := Lib.hid hdr
          clear hdr hmt
          go_wp2_with fail
          go_quiet ((go_at_call 66; exact Calls.quiet_of_same ((many_any _ k c (l.take k) _ (HPR.out.drewN _) HSM.out).mono fun _ _ h => ⟨by rw [h.1, hm.out], h.2.symm⟩)))
          have hb3 := belowN hb nq
          go_wp2
          go_ret
          exact ⟨ret_i HD.out, hb3⟩
        · rw [if_neg (by omega), if_neg (by omega), if_neg (by omega)] at hdr
          have HD := Lib.hid hdr
          have HM : Hid (manyL (l.take (k + 1)) = (x : Int)) := Lib.hid (by rw [hmt, hm.out]; omega)
          have HB2 := HBXX.out y HY.out (by omega)
          clear hdr hmt
          go_wp2_with fail
          go_quiet ((go_at_call 66; exact Calls.quiet_of_same ((many_any _ k c (l.take k) _ (HPR.out.drewN _) HSM.out).mono fun _ _ h => ⟨by rw [h.1, hm.out], h.2.symm⟩)))
          have hb3 := belowN hb nq
          go_wp2
          go_roundw
          case rel => exact ⟨k + 1, x, by omega, by omega, by go_num, HM, HD, HB2, hb3⟩
          case measure => simp [intOf]; omega
        · rw [if_neg (by omega), if_neg (by omega), if_pos h0] at hdr
          have HD : Hid (chkG ((x + 1 : Nat) : Int) (l.drop (k + 1)) = chkG 0 l) := Lib.hid (by rw [← hdr]; rfl)
          have HM : Hid (manyL (l.take (k + 1)) = ((x + 1 : Nat) : Int)) := Lib.hid (by rw [hmt, hm.out]; omega)
          have HB2 := HBXX.out y HY.out (by omega)
          subst h0
          clear hdr hmt
          go_wp2_with fail
          go_quiet ((go_at_call 66; exact Calls.quiet_of_same ((many_any _ k c (l.take k) _ (HPR.out.drewN _) HSM.out).mono fun _ _ h => ⟨by rw [h.1, hm.out], h.2.symm⟩)))
          have hb3 := belowN hb nq
          go_wp2
          go_roundw
          case rel => exact ⟨k + 1, x + 1, by omega, by omega, by go_num, HM, HD, HB2, hb3⟩
          case measure => simp [intOf]; omega
      · have hz := hg.out
        rw [List.drop_of_length_le (by rw [HL.out]; omega)] at hz
        have HZ := Lib.hid hz
        clear hz hg
        go_wp2
        go_ret
        exact ⟨ret_i HZ.out, hb⟩
  · have hv : chkL l = sizeE n := by rw [chkL, hlen, if_pos hs]
    rw [hv]
    have hse : (sizeE n != 0) = true := by simpa using hs
    clear hv hs hlen
    go_enter Try.func22, Try.ntmps22
    go_wp2_with (go_at_call 62; refine (rsized_any _ n c _).mono ?_; rintro e w' ⟨rfl, rfl⟩)
    go_ret
    exact ⟨rfl, Below.refl _ _⟩

set_option maxHeartbeats 2000000 in
set_option maxRecDepth 100000 in
theorem rof_any (a : Option Addr) (n c : Nat) (l : List Int) (w : World) (h : IsL w a n c l) (h9 : n ≤ 900) :
    Calls Try.prog 63 #[.slice a n c] w fun e w' => ∃ a' c', e = .returned (.slice a' n c') ∧ IsL w' a' n c' (divL l) ∧ Below w.heap.size w w' := by
  have HL := Lib.hid h.len
  have hcap := h.cap
  have hle := h.le
  go_enter Try.func63, Try.ntmps63
  go_wp2_with fail
  go_loopw [3, 4] (fun vo vi wr => ∃ (k : Nat) (a' : Option Addr) (c' : Nat), k ≤ n ∧ vi = .int .i64 (k : Int) ∧ vo = .slice a' k c' ∧ Hid (OwnL wr 3 w.heap.size a' k c' (dsK l k).2) ∧ Below w.heap.size w wr) (fun _ vi _ => n - (intOf vi).toNat)
  case atStart => exact ⟨0, none, 0, by omega, rfl, rfl, Lib.hid (OwnL.nilL _ _ _), Below.refl _ _⟩
  case round =>
    obtain ⟨k, a', c', hk, rfl, rfl, hO, hb⟩ := hrel
    by_cases hlt : k < n
    · have h' := h.below hb
      have hok := dsK_ok l k (by rw [HL.out]; omega)
      have hbd := dsK_bound l k (by rw [HL.out]; omega)
      have hkl := dsK_keys l k (by rw [HL.out]; omega)
      have hnx := dsK_next l k (by rw [HL.out]; exact hlt)
      have hnl : nxt l k = match fstI (dsK l k).1 (l.getD k 0) with | some i => i | none => ((dsK l k).1.length : Int) := rfl
      have hmn := hok.many
      have HOK := Lib.hid hok
      have HNX := Lib.hid hnx
      have HNL := Lib.hid hnl
      have HBD := Lib.hid hbd
      obtain ⟨b, o, rfl, _, hc⟩ := h'.cells (by omega)
      have HC := Lib.hid hc
      have hck := hc k hlt
      obtain ⟨x, hx⟩ : ∃ x, l.getD k 0 = x := ⟨_, rfl⟩
      rw [hx] at hck
      have HX := Lib.hid hx
      obtain ⟨K, hK⟩ : ∃ K : Nat, (dsK l k).1.length = K := ⟨_, rfl⟩
      rw [hK] at hmn hkl
      have HK := Lib.hid hK
      have HMN := Lib.hid hmn
      have hIO := hO.out.isL
      have HIO := Lib.hid hIO
      have hco := hIO.cap
      have hlo := hIO.le
      clear hok hbd hnx hnl hc hx hK hmn hIO h'
      go_wp2_with (go_at_call 66; refine (many_any a' k c' (dsK l k).2 _ HIO.out (fun j hj => by have := HBD.out j hj; have := HK.out; omega)).mono ?_; rintro e w' ⟨rfl, rfl⟩; rw [HMN.out])
      go_loopw [5, 6] (fun vr vj wr => ∃ (j : Nat) (r : Int), j ≤ k ∧ vj = .int .i64 ((j : Int) - 1) ∧ vr = .int .i64 r ∧ 0 ≤ r ∧ r ≤ 1000 ∧ Hid ((r = (K : Int) ∧ ∀ j', j ≤ j' → j' < k → l.getD j' 0 ≠ x) ∨ fstI (dsK l k).1 x = some r) ∧ Hid (OwnL wr 3 w.heap.size a' k c' (dsK l k).2) ∧ Below w.heap.size w wr) (fun _ vj _ => (intOf vj + 1).toNat)
      case atStart => exact ⟨k, (K : Int), by omega, rfl, rfl, by omega, by omega, Lib.hid (.inl ⟨rfl, fun j' h1 h2 => by omega⟩), hO, hb⟩
      case round =>
        clear hO hb HIO
        obtain ⟨j, r, hj, rfl, rfl, hr0, hr1, hM, hO, hb⟩ := hrel
        have h2 := h.below hb
        obtain ⟨b3, o3, he3, _, hc3⟩ := h2.cells (by omega)
        simp only [Option.some.injEq, Addr.mk.injEq] at he3
        obtain ⟨rfl, rfl, _⟩ := he3
        by_cases hj0 : 0 < j
        · obtain ⟨i, rfl⟩ : ∃ i, j = i + 1 := ⟨j - 1, by omega⟩
          have y1 := hc3 i (by omega)
          have y2 := hc3 k hlt
          rw [HX.out] at y2
          obtain ⟨g, rfl⟩ := hO.out.gen.addr (by omega)
          obtain ⟨y3, _⟩ := hO.out.gen.cell i 0 (by omega)
          have q1 : (k : Int) < (n : Int) := by omega
          have q2 : (i : Int) < (n : Int) := by omega
          have q3 : (i : Int) < (k : Int) := by omega
          have hkn := HOK.out.known i (by omega)
          have hMM := hM.out
          have hbi := HBD.out i (by omega)
          have hKK := HK.out
          obtain ⟨z, hz⟩ : ∃ z, l.getD i 0 = z := ⟨_, rfl⟩
          obtain ⟨v, hv⟩ : ∃ v, (dsK l k).2.getD i 0 = v := ⟨_, rfl⟩
          rw [hz] at y1 hkn
          rw [hv] at y3 hkn hbi
          have HZ := Lib.hid hz
          have hO2 : Hid (∀ nq, OwnL (wr.drewN nq) 3 w.heap.size (some ⟨g, 0, none⟩) k c' (dsK l k).2) := Lib.hid fun nq => hO.out.drewN nq
          clear hc3 hM hO h2 hz hv
          by_cases hzx : z = x
          · subst hzx
            have HM2 : Hid ((v = (K : Int) ∧ ∀ j', i ≤ j' → j' < k → l.getD j' 0 ≠ z) ∨ fstI (dsK l k).1 z = some v) := Lib.hid (.inr hkn)
            have hv0 : 0 ≤ v ∧ v ≤ 1000 := by omega
            have hzz : (z == z) = true := by simp
            clear hkn hMM hbi hKK
            go_wp2_with fail
            go_quiet (fail)
            have hO3 := Lib.hid (hO2.out nq)
            have hb3 := belowN hb nq
            clear hO2 hb
            go_wp2
            go_roundw
            case rel => exact ⟨i, v, by omega, by go_num, rfl, hv0.1, hv0.2, HM2, hO3, hb3⟩
            case measure => simp [intOf]
          · have HM2 : Hid ((r = (K : Int) ∧ ∀ j', i ≤ j' → j' < k → l.getD j' 0 ≠ x) ∨ fstI (dsK l k).1 x = some r) := Lib.hid (by
              rcases hMM with ⟨h1, h2⟩ | h1
              · refine .inl ⟨h1, fun j' h3 h4 => ?_⟩
                by_cases hji : j' = i
                · rw [hji, HZ.out]; exact hzx
                · exact h2 j' (by omega) h4
              · exact .inr h1)
            have hzz : (z == x) = false := by simpa using hzx
            clear hkn hMM hbi hKK hzx
            go_wp2_with fail
            go_quiet (fail)
            have hO3 := Lib.hid (hO2.out nq)
            have hb3 := belowN hb nq
            clear hO2 hb
            go_wp2
            go_roundw
            case rel => exact ⟨i, r, by omega, by go_num, rfl, hr0, hr1, HM2, hO3, hb3⟩
            case measure => simp [intOf]
        · obtain rfl : j = 0 := by omega
          have hrn : nxt l k = r := by
            rw [HNL.out, HX.out]
            rcases hM.out with ⟨h1, h2⟩ | h1
            · cases hf : fstI (dsK l k).1 x with
              | none => rw [h1, ← HK.out]
              | some i =>
                obtain ⟨j', h3, h4⟩ := HOK.out.back x i hf
                exact absurd h4 (h2 j' (by omega) h3)
            · rw [h1]
          have HR : Hid ((dsK l (k + 1)).2 = (dsK l k).2 ++ [r]) := Lib.hid (by rw [HNX.out, hrn])
          have hsz := hb.size
          have ho := hO.out
          clear hO hM hc3 h2 hrn
          go_wp2_with (at_builtin; refine wl_app_own Try.underlying22 elem3 w.heap.size (.tmp 34) (.tmp 36) rfl rfl rfl rfl (ho.alloc _) (isL_one _ _ _) (by simp; omega) (by omega) ?_)
          intro a2 c2 w4 ho2 hg2 hb2 hv2
          have hO4 : Hid (OwnL w4 3 w.heap.size a2 (k + 1) c2 (dsK l (k + 1)).2) := Lib.hid (by rw [HR.out]; exact ho2)
          have hb4 := (hb.alloc hsz (.cells #[.int .i64 r] 3)).trans hb2
          clear hg2 hb2 hv2 ho ho2 hb
          go_wp2
          go_roundw
          case rel => exact ⟨k + 1, a2, c2, by omega, by go_num, rfl, hO4, hb4⟩
          case measure => simp [intOf]; omega
    · obtain rfl : k = n := by omega
      have e : (dsK l k).2 = divL l := by rw [← dsK_all, HL.out]
      have hf := hO.out.isL
      rw [e] at hf
      clear hO e
      go_wp2
      go_ret
      exact ⟨a', c', rfl, hf, hb⟩

theorem rOf_any (a : Option Addr) (n c : Nat) (l : List Int) (w : World) (h : IsL w a n c l) :
    Calls Try.prog 17 #[.slice a n c] w fun e w' => ∃ a' n' c', e = .returned (.tuple #[.slice a' n' c', .int .i64 (sizeE l.length)]) ∧ IsL w' a' n' c' (ofL l) ∧ Below w.heap.size w w' := by
  have HL := Lib.hid h.len
  by_cases hs : sizeE n = 0
  · have hp := size_pos hs
    have HS := Lib.hid hs
    clear hs
    go_enter Try.func17, Try.ntmps17
    go_wp2_with (first
      | (go_at_call 62; refine (rsized_any _ n c _).mono ?_; rintro e w' ⟨rfl, rfl⟩; rw [HS.out])
      | (go_at_call 63; refine (rof_any a n c l _ h (by omega)).mono ?_; rintro e w1 ⟨a1, c1, rfl, h1, b1⟩))
    go_ret2
    exact ⟨a1, n, c1, ret_si (by rw [HL.out, HS.out]), by rw [ofL, HL.out, if_pos HS.out]; exact h1, b1⟩
  · have hse : (sizeE n != 0) = true := by simpa using hs
    have HS := Lib.hid hs
    clear hs
    go_enter Try.func17, Try.ntmps17
    go_wp2_with (go_at_call 62; refine (rsized_any _ n c _).mono ?_; rintro e w' ⟨rfl, rfl⟩)
    go_ret2
    exact ⟨none, 0, 0, ret_si (by rw [HL.out]), by rw [ofL, HL.out, if_neg HS.out]; exact IsL.nilL _, Below.refl _ _⟩
end Go.Proofs.Ytjedmiegcbdedaa
